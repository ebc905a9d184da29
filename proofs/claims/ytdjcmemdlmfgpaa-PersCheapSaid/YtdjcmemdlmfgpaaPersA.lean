/- Package pers: half, grow, set. -/
import Derived.Test.YtdjcmemdlmfgpaaPers
namespace Go.Proofs.Ytdjcmemdlmfgpaa
set_option linter.unusedVariables false
open Go.RowKit

theorem PGot.drew {w w' : World} {N N' : List Nat} {T : PT} {n1 b : Nat} (h : PGot w.drew N T n1 w' N' b) : PGot w N T n1 w' N' b := ⟨h.pre, h.len, h.root, h.mem, h.nods, ((Below.refl w.heap.size w).drew).trans h.bel⟩
theorem PGot.step {w w1 w2 : World} {N N1 N2 : List Nat} {T U : PT} {n1 n2 b c : Nat} (h : PGot w N T n1 w1 N1 b) (k : PGot w1 N1 U n2 w2 N2 c) : PGot w N U n2 w2 N2 c := by
  obtain ⟨M, hM⟩ := h.pre
  obtain ⟨M', hM'⟩ := k.pre
  exact ⟨⟨M ++ M', by rw [hM', hM, List.append_assoc]⟩, k.len, k.root, k.mem, k.nods, below_step h.bel k.bel⟩
theorem PRet.step {w w1 : World} {N N1 : List Nat} {T : PT} {n1 b : Nat} {R : PT × Nat} {e : Ending} {w' : World} (h : PGot w N T n1 w1 N1 b) (h' : PRet w1 N1 R e w') : PRet w N R e w' := by
  obtain ⟨N', b', he, k⟩ := h'
  obtain ⟨M, hM⟩ := h.pre
  obtain ⟨M', hM'⟩ := k.pre
  exact ⟨N', b', he, ⟨⟨M ++ M', by rw [hM', hM, List.append_assoc]⟩, k.len, k.root, k.mem, k.nods, below_step h.bel k.bel⟩⟩

set_option maxHeartbeats 1000000 in
theorem phalf_any (n : Nat) (w : World) (hn : n ≤ 1000) : Calls Try.prog 17 #[.int .i64 n] w fun e w' => e = .returned (.int .i64 ((n + 1) / 2 : Nat)) ∧ w = w' := by
  have e1 : ((n : Int) + 1) / 2 = (((n + 1) / 2 : Nat) : Int) := by omega
  go_enter Try.func17, Try.ntmps17
  go_wp2
  go_ret
  exact ⟨rfl, rfl⟩

theorem sl_front {w : World} {a : Option Addr} {cap m : Nat} {l : List Int} (h : SlI w a cap l) (hm : m ≤ l.length) : SlC w a m cap 1 (ints (l.take m)) := by
  have := SlC.front h hm
  rw [Nat.mul_one] at this
  rwa [show ints (l.take m) = (ints l).take m by simp [ints]]
theorem sl_back {w : World} {b off cap m n : Nat} {l : List Int} (h : SlC w (some ⟨b, off, none⟩) n cap 1 (ints l)) (hn : l.length = n) (hm : m < n) : SlC w (some ⟨b, off + m, none⟩) (n - m) (cap - m) 1 (ints (l.drop m)) := by
  refine ⟨by rw [ints_length, List.length_drop]; omega, by have := h.le; omega, by have := h.capm; omega, (fun e => by cases e), fun i hi => ?_⟩
  rw [ints_length, List.length_drop] at hi
  obtain ⟨b', off', ha, hc⟩ := SlC.cell h (m + i) (by rw [ints_length]; omega)
  simp only [Option.some.injEq, Addr.mk.injEq, and_true] at ha
  obtain ⟨rfl, rfl⟩ := ha
  refine ⟨b, off + m, rfl, ?_⟩
  rw [show off + m + i = off + (m + i) by omega, hc]
  simp [ints]

theorem run_front (b o n c m : Nat) (w : World) (hm : m ≤ c) :
    (Instr.slice 22 (.slice (some ⟨b, o, none⟩) n c) none (some (.int .i64 m)) none).run Try.prog w = .ok (.slice (some ⟨b, o, none⟩) m c) w := by
  have h1 : (m : Int) ≤ c := by omega
  simp [go_sem, Try.underlying22, h1]
theorem run_back (b o n c m : Nat) (w : World) (hm : m ≤ n) (hn : n ≤ c) (hl : m < c) :
    (Instr.slice 22 (.slice (some ⟨b, o, none⟩) n c) (some (.int .i64 m)) none none).run Try.prog w = .ok (.slice (some ⟨b, o + m, none⟩) (n - m) (c - m)) w := by
  have h1 : (m : Int) ≤ n := by omega
  have h3 : ¬ c = m := by omega
  simp [go_sem, Try.underlying22, h1, h3]

set_option maxRecDepth 100000 in
set_option maxHeartbeats 2000000 in
theorem pgrow_any (f : Nat) : ∀ (a : Option Addr) (cap n : Nat) (l : List Int) (N : List Nat) (w : World), SlC w a n cap 1 (ints l) → l.length = n → 0 < n → n ≤ f + 1 → n ≤ 500 → Nods w N →
    Calls Try.prog 12 #[.slice a n cap] w (PRet w N (growT f N.length l)) := by
  induction f with
  | zero =>
    intro a cap n l N w h hl h0 h1 h2 hN
    obtain rfl : n = 1 := by omega
    obtain ⟨x, rfl⟩ := List.length_eq_one_iff.1 hl
    obtain ⟨b, off, rfl, hc⟩ := SlC.cell h 0 (by simp [ints])
    have hc' : w.cell? ⟨b, off, none⟩ = some (.int .i64 x) := hc
    have C := Kp.mk (pleaf_any x N w hN)
    clear h hl hN hc
    go_enter Try.func12, Try.ntmps12
    go_wp2_with fail
    refine C.out.mono ?_
    rintro e w1 ⟨N', b', rfl, hg⟩
    have HG := Kp.mk hg
    clear hg
    go_wp2
    go_ret
    exact ⟨N', b', rfl, HG.out⟩
  | succ f ih =>
    intro a cap n l N w h hl h0 h1 h2 hN
    by_cases hn1 : n = 1
    · subst hn1
      obtain ⟨x, rfl⟩ := List.length_eq_one_iff.1 hl
      obtain ⟨b, off, rfl, hc⟩ := SlC.cell h 0 (by simp [ints])
      have hc' : w.cell? ⟨b, off, none⟩ = some (.int .i64 x) := hc
      have C := Kp.mk (pleaf_any x N w hN)
      clear h hl hN hc ih
      go_enter Try.func12, Try.ntmps12
      go_wp2_with fail
      refine C.out.mono ?_
      rintro e w1 ⟨N', b', rfl, hg⟩
      have HG := Kp.mk hg
      clear hg
      go_wp2
      go_ret
      exact ⟨N', b', rfl, HG.out⟩
    · have hb : ((n : Int) == 1) = false := beq_eq_false_iff_ne.2 (by omega)
      obtain ⟨m, hm⟩ : ∃ m, m = (n + 1) / 2 := ⟨_, rfl⟩
      have hmn : m < n := by omega
      have hm0 : 0 < m := by omega
      obtain ⟨b, off, rfl⟩ : ∃ b off, a = some ⟨b, off, none⟩ := by
        obtain ⟨b, off, ha, _⟩ := SlC.cell h 0 (by rw [ints_length]; omega)
        exact ⟨b, off, ha⟩
      have hcap := h.le
      have HR := Kp.mk (show growT (f + 1) N.length l = (let A := growT f N.length (l.take m); let B := growT f A.2 (l.drop m); (.node B.2 A.1 B.1, B.2 + 1)) from by
        conv => lhs; unfold growT
        rw [if_neg (by omega), hl, ← hm])
      have hA := growT_vals f N.length (l.take m) (by rw [List.length_take]; omega) (by rw [List.length_take]; omega)
      have C1 := Kp.mk (ih (some ⟨b, off, none⟩) cap m (l.take m) N w.drew (SlC.below (by have := sl_front (show SlI w (some ⟨b, off, none⟩) cap l from by unfold SlI; rw [hl]; exact h) (show m ≤ l.length by omega); exact this) ((Below.refl _ _).drew)) (by rw [List.length_take]; omega) hm0 (by omega) (by omega) (hN.below ((Below.refl _ _).drew)))
      have H := Kp.mk h
      have HL := Kp.mk hl
      have IH := Kp.mk ih
      have HA := Kp.mk hA
      have sF := fun W => run_front b off n cap m W (by omega)
      have sB := fun W => run_back b off n cap m W (by omega) hcap (by omega)
      have HWA := Kp.mk (show (growT f N.length (l.take m)).1.wide ≤ 1000 from by unfold PT.wide; rw [hA.1, List.length_take]; omega)
      have HWB := Kp.mk (fun k => show (growT f k (l.drop m)).1.wide ≤ 1000 from by unfold PT.wide; rw [(growT_vals f k (l.drop m) (by rw [List.length_drop]; omega) (by rw [List.length_drop]; omega)).1, List.length_drop]; omega)
      have CH := Kp.mk (fun W => hm ▸ phalf_any n W (by omega))
      clear h hl hN ih hA hm
      go_enter Try.func12, Try.ntmps12
      go_wp2_with fail
      refine (CH.out _).mono ?_
      rintro e w' ⟨rfl, rfl⟩
      clear CH
      go_wp2
      generalize growT f N.length (l.take m) = A at *
      go_region_held3 (fun w' => True)
        (first | trivial)
        ((first
          | (go_at_call 18; refine (pjoin_any _ _ _ _ _ _ HG2.out.nods (HG2.out.keep HG1.out.mem) HG2.out.mem (HG2.out.get HG1.out.root) HG2.out.root HWA.out HWB2.out).mono ?_; rintro e w3 ⟨N3, b3, rfl, hg3⟩; have HG3 := Kp.mk hg3; clear hg3)
          | (go_at_call 12; (with_reducible refine C1.out.mono ?_); rintro e w1 ⟨N1, b1, rfl, hg1⟩; have HG1 := Kp.mk hg1.drew; clear hg1)
          | (go_at_call 12; refine (IH.out (some ⟨b, off + m, none⟩) (cap - m) (n - m) (l.drop m) N1 w1 (sl_back (H.out.below HG1.out.bel) HL.out hmn) (by rw [List.length_drop, HL.out]) (by omega) (by omega) (by omega) HG1.out.nods).mono ?_; rintro e w2 ⟨N2, b2, rfl, hg2⟩; have HG2 := Kp.mk hg2; have HWB2 := Kp.mk (HWB.out N1.length); clear hg2)))
      all_goals
        have hF := HG1.out.step (HG2.out.step HG3.out)
        rw [HG2.out.len, HG1.out.len] at hF
        have HF := Kp.mk hF
        clear HG1 HG2 HG3 sF sB hF
        go_wp2
        go_ret
        rw [HR.out]
        exact ⟨N3, b3, rfl, HF.out⟩

end Go.Proofs.Ytdjcmemdlmfgpaa
