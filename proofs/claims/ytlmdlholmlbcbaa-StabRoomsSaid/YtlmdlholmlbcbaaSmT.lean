/- The stable sort of slices. -/
import Derived.Test.YtlmdlholmlbcbaaSmS
import Derived.Test.YtlmdlholmlbcbaaSmB
namespace Go.Proofs.Ytlmdlholmlbcbaa
set_option linter.unusedVariables false
open Go.RowKit

theorem merges (f : FuncId) (cb : Array Value) (eg : ∀ args w, (callFunc f args).run Try.prog w = .ok (.enter f args) w) (key : Nat → Int) (B g c n mm : Nat) (w0 : World) (hc : CmpK f cb key g mm w0) (hn : n ≤ 1000000) : ∀ N, Merges f cb key B g c n mm w0 N
  | 0 => by
    unfold Merges
    intro P L R S a m b w hN h ha hm hb h1 h2
    omega
  | N + 1 => by
    have IH := merges f cb eg key B g c n mm w0 hc hn N
    unfold Merges
    intro P L R S a m b w hN h ha hm hb h1 h2 hL hR
    by_cases l1 : L.length = 1
    · obtain ⟨x, rfl⟩ := List.length_eq_one_iff.1 l1
      exact merge_one f cb eg key B g c n mm w0 hc hn P R S x a m b w h ha (by simpa using hm) hb hR
    by_cases r1 : R.length = 1
    · obtain ⟨y, rfl⟩ := List.length_eq_one_iff.1 r1
      exact merge_last f cb eg key B g c n mm w0 hc hn P L S y a m b w h ha hm (by simpa using hb) hL l1
    exact merge_step f cb eg key B g c n mm w0 hc hn N IH P L R S a m b w hN h ha hm hb (by omega) (by omega) hL hR

theorem merge_any (f : FuncId) (cb : Array Value) (eg : ∀ args w, (callFunc f args).run Try.prog w = .ok (.enter f args) w) (key : Nat → Int) (B g c n mm : Nat) (w0 : World) (hc : CmpK f cb key g mm w0) (hn : n ≤ 1000000)
    (P L R S : List Nat) (a m b : Nat) (w : World) (h : Rw B g c n mm w0 w (P ++ L ++ R ++ S)) (ha : P.length = a) (hm : a + L.length = m) (hb : m + R.length = b) (h1 : a < m) (h2 : m < b) (hL : Up key L) (hR : Up key R) :
    Calls Try.prog 170 #[.slice (some ⟨g, 0, none⟩) n c, .int .i64 a, .int .i64 m, .int .i64 b, .func (.func f) #[] cb] w fun e w' => e = .returned (.tuple #[]) ∧ ∃ M, Kp (M.Perm (L ++ R) ∧ Up key M) ∧ Kp (Rw B g c n mm w0 w' (P ++ M ++ S)) := by
  have := merges f cb eg key B g c n mm w0 hc hn (L.length + R.length)
  unfold Merges at this
  exact this P L R S a m b w (Nat.le_refl _) h ha hm hb h1 h2 hL hR

set_option maxRecDepth 100000 in
set_option maxHeartbeats 16000000 in
theorem stable_any (f : FuncId) (cb : Array Value) (eg : ∀ args w, (callFunc f args).run Try.prog w = .ok (.enter f args) w) (key : Nat → Int) (B g c n mm : Nat) (w0 : World) (hc : CmpK f cb key g mm w0) (hn : n ≤ 100000)
    (X0 : List Nat) (w : World) (h : Rw B g c n mm w0 w X0) :
    Calls Try.prog 128 #[.slice (some ⟨g, 0, none⟩) n c, .int .i64 n, .func (.func f) #[] cb] w fun e w' => e = .returned (.tuple #[]) ∧ ∃ M, Kp (M.Perm X0 ∧ Up key M) ∧ Kp (Rw B g c n mm w0 w' M) := by
  have H := Kp.mk h
  have HC := Kp.mk hc
  have hl := h.len
  have HL := Kp.mk hl
  have hcap := h.cap
  clear h hc hl
  go_enter Try.func128, Try.ntmps128
  go_wp2
  go_loopw [7, 8] (fun u v wr => ∃ (a : Nat) (P Q : List Nat), a ≤ n ∧ u = .int .i64 a ∧ v = .int .i64 ((a + 20 : Nat) : Int) ∧ P.length = a ∧ Kp (FBlk key 20 P) ∧ Kp ((P ++ Q).Perm X0) ∧ Kp (Rw B g c n mm w0 wr (P ++ Q))) (fun u _ _ => n - (intOf u).toNat)
  case atStart => exact ⟨0, [], X0, Nat.zero_le _, rfl, rfl, rfl, ⟨.nil⟩, ⟨by simp⟩, by simpa using H⟩
  case round =>
    clear H
    obtain ⟨a, P, Q, han, rfl, rfl, hP, HF, HX, HR⟩ := hrel
    have hlq : P.length + Q.length = n := by have := HR.out.len; rw [List.length_append] at this; exact this
    by_cases hlt : a + 20 ≤ n
    · have h20 : (Q.take 20).length = 20 := by rw [List.length_take]; omega
      have t1 : decide (((a + 20 : Nat) : Int) ≤ n) = true := decide_eq_true (by omega)
      have HQ := Kp.mk (List.take_append_drop 20 Q)
      go_wp2_with fail
      refine (insSort_any f cb eg key B g c n mm P (Q.take 20) (Q.drop 20) a (a + 20) w0 wr HC.out (by rw [List.append_assoc, HQ.out]; exact HR.out) hP (by omega) (by omega)).mono ?_
      rintro e w2 ⟨rfl, M, HM, HR2⟩
      have hM : M.length = 20 := by have := HM.out.1.length_eq; omega
      have HF2 := Kp.mk (HF.out.snoc hM HM.out.2)
      have HX2 := Kp.mk (show (P ++ M ++ Q.drop 20).Perm X0 from by
        refine List.Perm.trans ?_ HX.out
        have : (P ++ M ++ Q.drop 20).Perm (P ++ Q.take 20 ++ Q.drop 20) := List.Perm.append_right _ (List.Perm.append_left _ HM.out.1)
        rwa [List.append_assoc P (Q.take 20), HQ.out] at this)
      clear HR HX HF HM HQ t1
      go_wp2
      go_roundw
      case rel => exact ⟨a + 20, P ++ M, Q.drop 20, hlt, by go_num, by go_num, by rw [List.length_append]; omega, HF2, HX2, HR2⟩
      case measure => simp [intOf]; omega
    · have t1 : decide (((a + 20 : Nat) : Int) ≤ n) = false := decide_eq_false (by omega)
      go_wp2_with fail
      refine (insSort_any f cb eg key B g c n mm P Q [] a n w0 wr HC.out (by simpa using HR.out) hP (by omega) (by omega)).mono ?_
      rintro e w2 ⟨rfl, M, HM, HR2⟩
      have hM : M.length = Q.length := HM.out.1.length_eq
      have HB := Kp.mk (HF.out.append (.last M (by omega) HM.out.2))
      have HX2 := Kp.mk ((List.Perm.append_left P HM.out.1).trans HX.out)
      rw [List.append_nil] at HR2
      generalize P ++ M = X at *
      clear HR HX HF HM t1
      obtain ⟨w3, rfl⟩ : ∃ w3 : World, w3 = w2 := ⟨_, rfl⟩
      go_wp2
      go_loopw [6] (fun u wr => ∃ (s : Nat) (X : List Nat), 20 ≤ s ∧ s ≤ 200000 ∧ u = .int .i64 s ∧ Kp (Blk key s X) ∧ Kp (X.Perm X0) ∧ Kp (Rw B g c n mm w0 wr X)) (fun u _ => n - (intOf u).toNat)
      case atStart => exact ⟨20, X, Nat.le_refl _, by omega, rfl, HB, HX2, HR2⟩
      case round =>
        clear HB HX2 HR2
        obtain ⟨s, X, hs, hs2, rfl, HB, HX, HR⟩ := hrel
        by_cases hsn : s < n
        · have t1 : decide ((s : Int) < n) = true := decide_eq_true (by omega)
          obtain ⟨w4, rfl⟩ : ∃ w4 : World, w4 = wr := ⟨_, rfl⟩
          obtain ⟨z, hz⟩ : ∃ z, z = 2 * s := ⟨_, rfl⟩
          have e2 : IntKind.i64.wrap (2 * (s : Int)) = (z : Nat) := by rw [IntWalk.i64_in _ (by omega)]; omega
          have e3 : IntKind.i64.wrap ((s : Int) * 2) = (z : Nat) := by rw [IntWalk.i64_in _ (by omega)]; omega
          have hz2 : z ≤ 200000 := by omega
          have hz1 : 40 ≤ z := by omega
          have HZ := Kp.mk hz
          clear hz
          go_wp2
          go_loopw [7, 8] (fun u v wr => ∃ (a : Nat) (P Q : List Nat), a ≤ n ∧ u = .int .i64 a ∧ v = .int .i64 ((a + z : Nat) : Int) ∧ P.length = a ∧ Kp (FBlk key z P) ∧ Kp (Blk key s Q) ∧ Kp ((P ++ Q).Perm X0) ∧ Kp (Rw B g c n mm w0 wr (P ++ Q))) (fun u _ _ => n - (intOf u).toNat)
          case atStart => exact ⟨0, [], X, Nat.zero_le _, rfl, by first | rfl | go_num, rfl, ⟨.nil⟩, HB, by simpa using HX, by simpa using HR⟩
          case round =>
            clear HB HX HR
            obtain ⟨a, P, Q, han, rfl, rfl, hP, HF, HB, HX, HR⟩ := hrel
            have hlq : P.length + Q.length = n := by have := HR.out.len; rw [List.length_append] at this; exact this
            by_cases hlt : a + z ≤ n
            · have t2 : decide (((a + z : Nat) : Int) ≤ n) = true := decide_eq_true (by omega)
              have hzs := HZ.out
              obtain ⟨M1, Y1, rfl, l1, u1, b1⟩ := HB.out.split (by omega)
              rw [List.length_append] at hlq
              obtain ⟨M2, Y, rfl, l2, u2, b2⟩ := b1.split (by omega)
              rw [List.length_append] at hlq
              clear hzs
              go_wp2_with fail
              refine (merge_any f cb eg key B g c n mm w0 HC.out (by omega) P M1 M2 Y a (a + s) (a + z) wr (by have := HR.out; simpa only [List.append_assoc] using this) hP (by omega) (by have := HZ.out; omega) (by omega) (by have := HZ.out; omega) u1 u2).mono ?_
              rintro e w5 ⟨rfl, M, HM, HR2⟩
              have hM : M.length = z := by have := HM.out.1.length_eq; have := HZ.out; rw [List.length_append] at *; omega
              have HF2 := Kp.mk (HF.out.snoc hM HM.out.2)
              have HB2 := Kp.mk b2
              have HX2 := Kp.mk (show (P ++ M ++ Y).Perm X0 from by
                refine List.Perm.trans ?_ HX.out
                have : (P ++ M ++ Y).Perm (P ++ (M1 ++ M2) ++ Y) := List.Perm.append_right _ (List.Perm.append_left _ HM.out.1)
                simpa only [List.append_assoc] using this)
              clear HR HX HF HM t2 HB u1 u2 b2
              go_wp2
              go_roundw
              case rel => exact ⟨a + z, P ++ M, Y, hlt, by go_num, by go_num, by rw [List.length_append]; omega, HF2, HB2, HX2, HR2⟩
              case measure => simp [intOf]; omega
            · have t2 : decide (((a + z : Nat) : Int) ≤ n) = false := decide_eq_false (by omega)
              by_cases hl : a + s < n
              · have t3 : decide (((a : Int) + s) < n) = true := decide_eq_true (by omega)
                obtain ⟨M1, Y, rfl, l1, u1, b1⟩ := HB.out.split (by omega)
                rw [List.length_append] at hlq
                have u2 := b1.up (by have := HZ.out; omega)
                go_wp2_with fail
                refine (merge_any f cb eg key B g c n mm w0 HC.out (by omega) P M1 Y [] a (a + s) n wr (by have := HR.out; simpa only [List.append_assoc, List.append_nil] using this) hP (by omega) (by omega) (by omega) hl u1 u2).mono ?_
                rintro e w5 ⟨rfl, M, HM, HR2⟩
                rw [List.append_nil] at HR2
                have HB2 := Kp.mk (HF.out.append (.last M (by have := HM.out.1.length_eq; rw [List.length_append] at this; omega) HM.out.2))
                have HX2 := Kp.mk ((List.Perm.append_left P HM.out.1).trans HX.out)
                clear HR HX HF HM t2 HB u1 u2 b1
                go_wp2
                go_roundw
                case rel => exact ⟨z, P ++ M, by omega, by omega, rfl, HB2, HX2, HR2⟩
                case measure => (have := HZ.out; simp [intOf]; omega)
              · have t3 : decide (((a : Int) + s) < n) = false := decide_eq_false (by omega)
                have HB2 := Kp.mk (HF.out.append (.last Q (by have := HZ.out; omega) (HB.out.up (by omega))))
                clear HF HB
                go_wp2
                go_roundw
                case rel => exact ⟨z, P ++ Q, by omega, by omega, rfl, HB2, HX, HR⟩
                case measure => (have := HZ.out; simp [intOf]; omega)
        · have t1 : decide ((s : Int) < n) = false := decide_eq_false (by omega)
          have HU := Kp.mk (HB.out.up (by have := HR.out.len; omega))
          go_wp2
          go_end0
          exact ⟨rfl, X, ⟨HX.out, HU.out⟩, HR⟩

end Go.Proofs.Ytlmdlholmlbcbaa
