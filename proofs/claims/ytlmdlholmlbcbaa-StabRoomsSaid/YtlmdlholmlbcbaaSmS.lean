/- Merging in place: the general step. -/
import Derived.Test.YtlmdlholmlbcbaaSmN
namespace Go.Proofs.Ytlmdlholmlbcbaa
set_option linter.unusedVariables false
open Go.RowKit

theorem Rw.perm {B g c n m : Nat} {w0 w w' : World} {X Y : List Nat} (h : Rw B g c n m w0 w X) (hp : Y.Perm X) (ho : w'.ownsRow B 3 1 (.slice (some ⟨g, 0, none⟩) n c) n (ints (Y.map Int.ofNat))) (hg : w.grownBy w' (some g)) : Rw B g c n m w0 w' Y :=
  ⟨ho, grown_trans h.gr hg, fun y hy => h.lt y (hp.mem_iff.1 hy)⟩

theorem merge_cut_at {key : Nat → Int} {L R X : List Nat} {a m b mid p st s0 r0 : Nat} (hL : Up key L) (hR : Up key R) (AL : ∀ q, q < L.length → X.getD (a + q) 0 = L.getD q 0) (AR : ∀ q, q < R.length → X.getD (m + q) 0 = R.getD q 0)
    (hm : a + L.length = m) (hb : m + R.length = b) (hp : p + 1 = mid + m) (hcase : (mid < m ∧ s0 + b = mid + m ∧ r0 = mid) ∨ (m ≤ mid ∧ s0 = a ∧ r0 = m)) (h1 : s0 ≤ st) (h2 : st ≤ r0) (h3 : 2 * mid ≤ a + b) (h4 : a < mid) (h5 : a ≤ s0)
    (F1 : st = s0 ∨ key (X.getD (st - 1) 0) ≤ key (X.getD (mid + m - st) 0)) (F2 : st = r0 ∨ key (X.getD (p - st) 0) < key (X.getD st 0)) :
    ∀ x ∈ L.take (st - a) ++ R.take (mid - st), ∀ y ∈ L.drop (st - a) ++ R.drop (mid - st), key x ≤ key y := by
  refine merge_cut hL hR (st - a) (mid - st) (by omega) (by omega) ?_ ?_
  · by_cases q1 : st - a = 0
    · exact .inl q1
    by_cases q2 : mid - st = R.length
    · exact .inr (.inl q2)
    refine .inr (.inr ?_)
    rcases F1 with h | h
    · omega
    · have e1 := AL (st - a - 1) (by omega)
      have e2 := AR (mid - st) (by omega)
      rw [show a + (st - a - 1) = st - 1 by omega] at e1
      rw [show m + (mid - st) = mid + m - st by omega] at e2
      rw [← e1, ← e2]; exact h
  · by_cases q1 : mid - st = 0
    · exact .inl q1
    by_cases q2 : st - a = L.length
    · exact .inr (.inl q2)
    refine .inr (.inr ?_)
    rcases F2 with h | h
    · omega
    · have e1 := AR (mid - st - 1) (by omega)
      have e2 := AL (st - a) (by omega)
      rw [show m + (mid - st - 1) = p - st by omega] at e1
      rw [show a + (st - a) = st by omega] at e2
      rw [← e1, ← e2]; exact h
theorem parts_eq (P L R S : List Nat) (s e : Nat) : P ++ L ++ R ++ S = (P ++ L.take s) ++ L.drop s ++ R.take e ++ (R.drop e ++ S) := by
  conv => lhs; rw [← List.take_append_drop s L, ← List.take_append_drop e R]
  simp only [List.append_assoc]
theorem up_small {key : Nat → Int} {L R : List Nat} (hL : Up key L) (hR : Up key R) (h : L.length = 0 ∨ R.length = 0) : Up key (L ++ R) := by
  rcases h with h | h
  · rw [List.length_eq_zero_iff.1 h, List.nil_append]; exact hR
  · rw [List.length_eq_zero_iff.1 h, List.append_nil]; exact hL

set_option maxRecDepth 100000 in
set_option maxHeartbeats 16000000 in
theorem merge_step (f : FuncId) (cb : Array Value) (eg : ∀ args w, (callFunc f args).run Try.prog w = .ok (.enter f args) w) (key : Nat → Int) (B g c n mm : Nat) (w0 : World) (hc : CmpK f cb key g mm w0) (hn : n ≤ 1000000) (N : Nat) (IH : Merges f cb key B g c n mm w0 N)
    (P L R S : List Nat) (a m b : Nat) (w : World) (hN : L.length + R.length ≤ N + 1) (h : Rw B g c n mm w0 w (P ++ L ++ R ++ S)) (ha : P.length = a) (hm : a + L.length = m) (hb : m + R.length = b) (hL2 : 2 ≤ L.length) (hR2 : 2 ≤ R.length) (hL : Up key L) (hR : Up key R) :
    Calls Try.prog 170 #[.slice (some ⟨g, 0, none⟩) n c, .int .i64 a, .int .i64 m, .int .i64 b, .func (.func f) #[] cb] w fun e w' => e = .returned (.tuple #[]) ∧ ∃ M, Kp (M.Perm (L ++ R) ∧ Up key M) ∧ Kp (Rw B g c n mm w0 w' (P ++ M ++ S)) := by
  have HC := Kp.mk hc
  have hl := h.len
  have hbn : b ≤ n := by simp only [List.length_append] at hl; omega
  have hcap := h.cap
  have HE := Kp.mk (And.intro ha (And.intro hm hb))
  have HLL := Kp.mk (And.intro hN (And.intro hL2 hR2))
  have HAL := Kp.mk (fun q (hq : q < L.length) => at_L P L R S a q ha hq)
  have HAR := Kp.mk (fun q (hq : q < R.length) => at_R P L R S a m q ha hm hq)
  have HUL := Kp.mk hL
  have HUR := Kp.mk hR
  have HI := Kp.mk IH
  obtain ⟨X, hX⟩ : ∃ X, X = P ++ L ++ R ++ S := ⟨_, rfl⟩
  rw [← hX] at h HAL HAR
  have HXE := Kp.mk hX
  have H := Kp.mk h
  obtain ⟨mid, hmid⟩ : ∃ mid, mid = (a + b) / 2 := ⟨_, rfl⟩
  have em : ((a : Int) + b) / 2 = (mid : Nat) := by omega
  have hmid1 : a < mid := by omega
  have hmid2 : mid < b := by omega
  have ham : a + 2 ≤ m := by omega
  have hmb : m + 2 ≤ b := by omega
  have hmm1 : 2 * mid ≤ a + b := by omega
  have hmm2 : a + b ≤ 2 * mid + 1 := by omega
  have t1 : ((m : Int) - a == 1) = false := by rw [beq_eq_false_iff_ne]; omega
  have t1' : ¬ (m : Int) - a = 1 := by omega
  have t2 : ((b : Int) - m == 1) = false := by rw [beq_eq_false_iff_ne]; omega
  have t2' : ¬ (b : Int) - m = 1 := by omega
  obtain ⟨p, hp⟩ : ∃ p, p + 1 = mid + m := ⟨mid + m - 1, by omega⟩
  have ep : (mid : Int) + m - 1 = (p : Nat) := by omega
  clear h hc hl ha hm hb hN hL2 hR2 hL hR hX IH hmid
  have hcase : ∃ s0 r0, (mid < m ∧ s0 + b = mid + m ∧ r0 = mid) ∨ (m ≤ mid ∧ s0 = a ∧ r0 = m) := by
    by_cases q : mid < m
    · exact ⟨mid + m - b, mid, .inl ⟨q, by omega, rfl⟩⟩
    · exact ⟨a, m, .inr ⟨by omega, rfl, rfl⟩⟩
  obtain ⟨s0, r0, hcase⟩ := hcase
  have HCS := Kp.mk hcase
  have hsr : s0 ≤ r0 := by omega
  have has : a ≤ s0 := by omega
  have hrm : r0 ≤ m := by omega
  have hrmid : r0 ≤ mid := by omega
  have hsb : mid + m ≤ s0 + b := by omega
  rcases hcase with ⟨hq, hs0, hr0⟩ | ⟨hq, hs0, hr0⟩
  · have tm : decide ((m : Int) > mid) = true := decide_eq_true (by omega)
    have es : (mid : Int) + m - b = (s0 : Nat) := by omega
    have HS0 := Kp.mk hs0
    have HR0 := Kp.mk hr0
    clear hs0 hr0
    go_enter Try.func170, Try.ntmps170
    go_wp2
    go_loopw [20, 21] (fun u v wr => ∃ (st r : Nat), s0 ≤ st ∧ st ≤ r ∧ r ≤ r0 ∧ u = .int .i64 (st : Nat) ∧ v = .int .i64 (r : Nat) ∧ Kp ((st = s0 ∨ key (X.getD (st - 1) 0) ≤ key (X.getD (mid + m - st) 0)) ∧ (r = r0 ∨ key (X.getD (p - r) 0) < key (X.getD r 0))) ∧ Kp (Rw B g c n mm w0 wr X)) (fun u v _ => (intOf v).toNat - (intOf u).toNat)
    case atStart => exact ⟨s0, r0, Nat.le_refl _, hsr, Nat.le_refl _, by first | rfl | rw [HS0.out], by rw [HR0.out], ⟨.inl rfl, .inl rfl⟩, H⟩
    case round =>
      clear H
      obtain ⟨st, r, hst, hle, hrr, rfl, rfl, HF, HR⟩ := hrel
      by_cases hlt : st < r
      · obtain ⟨h, hh⟩ : ∃ h, h = (st + r) / 2 := ⟨_, rfl⟩
        have e1 : ((st : Int) + r) / 2 = (h : Nat) := by omega
        have hph : st ≤ h := by omega
        have hhq : h < r := by omega
        obtain ⟨d, hd⟩ : ∃ d, d = p - h := ⟨_, rfl⟩
        have ed : (p : Int) - h = (d : Nat) := by omega
        have hdn : d < n := by omega
        have hhn : h < n := by omega
        have c1 := HR.out.at d hdn
        have c2 := HR.out.at h hhn
        have l1 := HR.out.lt_at d hdn
        have l2 := HR.out.lt_at h hhn
        have hgi : w0.grownBy wr (some g) := HR.out.gr
        have HGX := Kp.mk (fun (Y : Later wr) => grown_trans hgi (grown_of_below (r := some g) Y.le))
        have CK := Kp.mk (fun (W : World) (hW : w0.grownBy W (some g)) => HC.out W hW (X.getD d 0) (X.getD h 0) l1 l2)
        obtain ⟨y, hy⟩ : ∃ y, y = X.getD d 0 := ⟨_, rfl⟩
        obtain ⟨z, hz⟩ : ∃ z, z = X.getD h 0 := ⟨_, rfl⟩
        rw [← hy] at c1 l1 CK
        rw [← hz] at c2 l2 CK
        have k1 := later_cell c1
        have k2 := later_cell c2
        have HD := Kp.mk (And.intro hd (And.intro hy hz))
        have HMS := Kp.mk (show mid + m - (h + 1) = d by omega)
        clear hh hd hy hz
        by_cases hxy : key y < key z
        · have tc : decide (cmpI (key y) (key z) < 0) = true := decide_eq_true ((cmpI_lt _ _).2 hxy)
          have HF2 := Kp.mk (show (st = s0 ∨ key (X.getD (st - 1) 0) ≤ key (X.getD (mid + m - st) 0)) ∧ (h = r0 ∨ key (X.getD (p - h) 0) < key (X.getD h 0)) from ⟨HF.out.1, .inr (by rw [← HD.out.1, ← HD.out.2.1, ← HD.out.2.2]; exact hxy)⟩)
          clear hxy
          go_wp2
          refine region_later (by kernel_rfl) (by kernel_rfl) ?_
          iterate 14 (go_big_quiet_step ((go_at_fn f; exact q_later (CK.out _ (HGX.out _)))))
          refine wpQuiet_nil ?_
          rintro w' ⟨xl, rfl⟩
          have HR3 := Kp.mk (HR.out.later xl.le)
          clear k1 k2 c1 c2 CK HGX hgi HR
          go_wp2
          go_roundw
          case rel => exact ⟨st, h, hst, hph, by omega, rfl, by first | rfl | go_num, HF2, HR3⟩
          case measure => simp [intOf]; omega
        · have tc : decide (cmpI (key y) (key z) < 0) = false := decide_eq_false (fun hh => hxy ((cmpI_lt _ _).1 hh))
          have HF2 := Kp.mk (show (h + 1 = s0 ∨ key (X.getD (h + 1 - 1) 0) ≤ key (X.getD (mid + m - (h + 1)) 0)) ∧ (r = r0 ∨ key (X.getD (p - r) 0) < key (X.getD r 0)) from ⟨.inr (by rw [HMS.out, Nat.add_sub_cancel, ← HD.out.2.1, ← HD.out.2.2]; omega), HF.out.2⟩)
          clear hxy
          go_wp2
          refine region_later (by kernel_rfl) (by kernel_rfl) ?_
          iterate 14 (go_big_quiet_step ((go_at_fn f; exact q_later (CK.out _ (HGX.out _)))))
          refine wpQuiet_nil ?_
          rintro w' ⟨xl, rfl⟩
          have HR3 := Kp.mk (HR.out.later xl.le)
          clear k1 k2 c1 c2 CK HGX hgi HR
          go_wp2
          go_roundw
          case rel => exact ⟨h + 1, r, by omega, by omega, hrr, by go_num, rfl, HF2, HR3⟩
          case measure => simp [intOf]; omega
      · obtain rfl : st = r := by omega
        have HCUT := Kp.mk (merge_cut_at HUL.out HUR.out HAL.out HAR.out HE.out.2.1 HE.out.2.2 hp HCS.out hst hrr hmm1 hmid1 has HF.out.1 HF.out.2)
        obtain ⟨s, hs⟩ : ∃ s, a + s = st := ⟨st - a, by omega⟩
        obtain ⟨e, he⟩ : ∃ e, st + e = mid := ⟨mid - st, by omega⟩
        rw [show st - a = s by omega, show mid - st = e by omega] at HCUT
        obtain ⟨en, hen⟩ : ∃ en, en + st = mid + m := ⟨mid + m - st, by omega⟩
        have een : (mid : Int) + m - st = (en : Nat) := by omega
        obtain ⟨ha, hm, hb⟩ := HE.out
        obtain ⟨hN, hL2, hR2⟩ := HLL.out
        have hsL : s ≤ L.length := by omega
        have heR : e ≤ R.length := by omega
        have lt : (L.take s).length = s := by rw [List.length_take]; omega
        have ld : (L.drop s).length = L.length - s := by rw [List.length_drop]
        have rt : (R.take e).length = e := by rw [List.length_take]; omega
        have rd : (R.drop e).length = R.length - e := by rw [List.length_drop]
        have HR1 := Kp.mk (show Rw B g c n mm w0 wr ((P ++ L.take s) ++ L.drop s ++ R.take e ++ (R.drop e ++ S)) from by
          have := HR.out
          rwa [HXE.out, parts_eq P L R S s e] at this)
        have hUlt := up_take HUL.out s
        have hUld := up_drop HUL.out s
        have hUrt := up_take HUR.out e
        have hUrd := up_drop HUR.out e
        have hIa := HI.out
        unfold Merges at hIa
        have hc1 : (st < m ∧ m < en) ∨ (st < m ∧ ¬ m < en) ∨ ¬ st < m := by omega
        have hc2 : (a < st ∧ st < mid) ∨ (a < st ∧ ¬ st < mid) ∨ ¬ a < st := by omega
        have hc3 : (mid < en ∧ en < b) ∨ (mid < en ∧ ¬ en < b) ∨ ¬ mid < en := by omega
        have HH := Kp.mk (And.intro (show ∀ M1 M2 : List Nat, M1.Perm (L.take s ++ R.take e) ∧ Up key M1 → M2.Perm (L.drop s ++ R.drop e) ∧ Up key M2 → (M1 ++ M2).Perm (L ++ R) ∧ Up key (M1 ++ M2) from fun M1 M2 h1 h2 => (up_halves HCUT.out h1.1 h2.1 h1.2 h2.2).symm) trivial)
        clear HCUT HF HR HAL HAR HCS HC HUL HUR HLL HE HXE
        generalize hL1 : L.take s = L1 at *
        generalize hL2' : L.drop s = L2 at *
        generalize hR1 : R.take e = R1 at *
        generalize hR2' : R.drop e = R2 at *
        clear hL1 hL2' hR1 hR2'
        have HC3 := Kp.mk hc3
        have HC2 := Kp.mk hc2
        clear hc2 hc3
        have HIA := Kp.mk hIa
        have HUP := Kp.mk (And.intro hUlt (And.intro hUld (And.intro hUrt hUrd)))
        have HLE := Kp.mk (And.intro lt (And.intro ld (And.intro rt rd)))
        clear hIa hUlt hUld hUrt hUrd lt ld rt rd HI
        rcases hc1 with ⟨q1, q2⟩ | ⟨q1, q2⟩ | q1
        · have t3 : decide ((st : Int) < m) = true := decide_eq_true (by omega)
          have t4 : decide ((m : Int) < en) = true := decide_eq_true (by omega)
          go_wp2_with fail
          refine (rotate_any B g c n (P ++ L1) L2 R1 (R2 ++ S) st m en _ wr HR1.out.own (by have := HLE.out; rw [List.length_append]; omega) (by have := HLE.out; omega) (by have := HLE.out; omega) q1 q2 hn).mono ?_
          rintro e' w3 ⟨rfl, HO, HG⟩
          have HR3 := Kp.mk (show Rw B g c n mm w0 w3 (P ++ (L1 ++ R1) ++ (L2 ++ R2 ++ S)) from by
            have := HR1.out.perm (List.Perm.append_right _ (by simp only [List.append_assoc]; exact List.Perm.append_left _ (List.Perm.append_left _ List.perm_append_comm))) HO.out HG.out
            simpa only [List.append_assoc] using this)
          clear HO HG HR1 t3 t4 q1 q2
          have hc2 := HC2.out
          rcases hc2 with ⟨u1, u2⟩ | ⟨u1, u2⟩ | u1
          · have t5 : decide ((a : Int) < st) = true := decide_eq_true (by omega)
            have t6 : decide ((st : Int) < mid) = true := decide_eq_true (by omega)
            go_wp2_with fail
            refine (HIA.out P L1 R1 (L2 ++ R2 ++ S) a st mid w3 (by have := HLE.out; omega) (by have := HR3.out; simpa only [List.append_assoc] using this) ha (by have := HLE.out; omega) (by have := HLE.out; omega) u1 u2 HUP.out.1 HUP.out.2.2.1).mono ?_
            rintro e' w4 ⟨rfl, M1, HM1, HR4⟩
            clear HR3 t5 t6 u1 u2
            have hm1 : M1.length = s + e := by have := HM1.out.1.length_eq; have := HLE.out; rw [List.length_append] at *; omega
            have hc3 := HC3.out
            rcases hc3 with ⟨v1, v2⟩ | ⟨v1, v2⟩ | v1
            · have t7 : decide ((mid : Int) < en) = true := decide_eq_true (by omega)
              have t8 : decide ((en : Int) < b) = true := decide_eq_true (by omega)
              go_wp2_with fail
              refine (HIA.out (P ++ M1) L2 R2 S mid en b w4 (by have := HLE.out; omega) (by have := HR4.out; simpa only [List.append_assoc] using this) (by rw [List.length_append]; omega) (by have := HLE.out; omega) (by have := HLE.out; omega) v1 v2 HUP.out.2.1 HUP.out.2.2.2).mono ?_
              rintro e' w5 ⟨rfl, M2, HM2, HR5⟩
              clear HR4
              go_wp2
              go_end0
              exact ⟨rfl, M1 ++ M2, ⟨HH.out.1 M1 M2 HM1.out HM2.out⟩, ⟨by have := HR5.out; simpa only [List.append_assoc] using this⟩⟩
            · have t7 : decide ((mid : Int) < en) = true := decide_eq_true (by omega)
              have t8 : decide ((en : Int) < b) = false := decide_eq_false (by omega)
              have HM2 := Kp.mk (show (L2 ++ R2).Perm (L2 ++ R2) ∧ Up key (L2 ++ R2) from ⟨List.Perm.refl _, up_small HUP.out.2.1 HUP.out.2.2.2 (by have := HLE.out; omega)⟩)
              go_wp2
              go_end0
              exact ⟨rfl, M1 ++ (L2 ++ R2), ⟨HH.out.1 M1 _ HM1.out HM2.out⟩, ⟨by have := HR4.out; simpa only [List.append_assoc] using this⟩⟩
            · have t7 : decide ((mid : Int) < en) = false := decide_eq_false (by omega)
              have HM2 := Kp.mk (show (L2 ++ R2).Perm (L2 ++ R2) ∧ Up key (L2 ++ R2) from ⟨List.Perm.refl _, up_small HUP.out.2.1 HUP.out.2.2.2 (by have := HLE.out; omega)⟩)
              go_wp2
              go_end0
              exact ⟨rfl, M1 ++ (L2 ++ R2), ⟨HH.out.1 M1 _ HM1.out HM2.out⟩, ⟨by have := HR4.out; simpa only [List.append_assoc] using this⟩⟩
          · have t5 : decide ((a : Int) < st) = true := decide_eq_true (by omega)
            have t6 : decide ((st : Int) < mid) = false := decide_eq_false (by omega)
            obtain ⟨M1, HM1, HR4⟩ : ∃ M1, Kp (M1.Perm (L1 ++ R1) ∧ Up key M1) ∧ Kp (Rw B g c n mm w0 w3 (P ++ M1 ++ (L2 ++ R2 ++ S))) := ⟨L1 ++ R1, ⟨List.Perm.refl _, up_small HUP.out.1 HUP.out.2.2.1 (by have := HLE.out; omega)⟩, HR3⟩
            clear HR3
            obtain ⟨w4, rfl⟩ : ∃ w4 : World, w4 = w3 := ⟨_, rfl⟩
            have hm1 : M1.length = s + e := by have := HM1.out.1.length_eq; have := HLE.out; rw [List.length_append] at *; omega
            have hc3 := HC3.out
            rcases hc3 with ⟨v1, v2⟩ | ⟨v1, v2⟩ | v1
            · have t7 : decide ((mid : Int) < en) = true := decide_eq_true (by omega)
              have t8 : decide ((en : Int) < b) = true := decide_eq_true (by omega)
              go_wp2_with fail
              refine (HIA.out (P ++ M1) L2 R2 S mid en b w4 (by have := HLE.out; omega) (by have := HR4.out; simpa only [List.append_assoc] using this) (by rw [List.length_append]; omega) (by have := HLE.out; omega) (by have := HLE.out; omega) v1 v2 HUP.out.2.1 HUP.out.2.2.2).mono ?_
              rintro e' w5 ⟨rfl, M2, HM2, HR5⟩
              clear HR4
              go_wp2
              go_end0
              exact ⟨rfl, M1 ++ M2, ⟨HH.out.1 M1 M2 HM1.out HM2.out⟩, ⟨by have := HR5.out; simpa only [List.append_assoc] using this⟩⟩
            · have t7 : decide ((mid : Int) < en) = true := decide_eq_true (by omega)
              have t8 : decide ((en : Int) < b) = false := decide_eq_false (by omega)
              have HM2 := Kp.mk (show (L2 ++ R2).Perm (L2 ++ R2) ∧ Up key (L2 ++ R2) from ⟨List.Perm.refl _, up_small HUP.out.2.1 HUP.out.2.2.2 (by have := HLE.out; omega)⟩)
              go_wp2
              go_end0
              exact ⟨rfl, M1 ++ (L2 ++ R2), ⟨HH.out.1 M1 _ HM1.out HM2.out⟩, ⟨by have := HR4.out; simpa only [List.append_assoc] using this⟩⟩
            · have t7 : decide ((mid : Int) < en) = false := decide_eq_false (by omega)
              have HM2 := Kp.mk (show (L2 ++ R2).Perm (L2 ++ R2) ∧ Up key (L2 ++ R2) from ⟨List.Perm.refl _, up_small HUP.out.2.1 HUP.out.2.2.2 (by have := HLE.out; omega)⟩)
              go_wp2
              go_end0
              exact ⟨rfl, M1 ++ (L2 ++ R2), ⟨HH.out.1 M1 _ HM1.out HM2.out⟩, ⟨by have := HR4.out; simpa only [List.append_assoc] using this⟩⟩
          · have t5 : decide ((a : Int) < st) = false := decide_eq_false (by omega)
            obtain ⟨M1, HM1, HR4⟩ : ∃ M1, Kp (M1.Perm (L1 ++ R1) ∧ Up key M1) ∧ Kp (Rw B g c n mm w0 w3 (P ++ M1 ++ (L2 ++ R2 ++ S))) := ⟨L1 ++ R1, ⟨List.Perm.refl _, up_small HUP.out.1 HUP.out.2.2.1 (by have := HLE.out; omega)⟩, HR3⟩
            clear HR3
            obtain ⟨w4, rfl⟩ : ∃ w4 : World, w4 = w3 := ⟨_, rfl⟩
            have hm1 : M1.length = s + e := by have := HM1.out.1.length_eq; have := HLE.out; rw [List.length_append] at *; omega
            have hc3 := HC3.out
            rcases hc3 with ⟨v1, v2⟩ | ⟨v1, v2⟩ | v1
            · have t7 : decide ((mid : Int) < en) = true := decide_eq_true (by omega)
              have t8 : decide ((en : Int) < b) = true := decide_eq_true (by omega)
              go_wp2_with fail
              refine (HIA.out (P ++ M1) L2 R2 S mid en b w4 (by have := HLE.out; omega) (by have := HR4.out; simpa only [List.append_assoc] using this) (by rw [List.length_append]; omega) (by have := HLE.out; omega) (by have := HLE.out; omega) v1 v2 HUP.out.2.1 HUP.out.2.2.2).mono ?_
              rintro e' w5 ⟨rfl, M2, HM2, HR5⟩
              clear HR4
              go_wp2
              go_end0
              exact ⟨rfl, M1 ++ M2, ⟨HH.out.1 M1 M2 HM1.out HM2.out⟩, ⟨by have := HR5.out; simpa only [List.append_assoc] using this⟩⟩
            · have t7 : decide ((mid : Int) < en) = true := decide_eq_true (by omega)
              have t8 : decide ((en : Int) < b) = false := decide_eq_false (by omega)
              have HM2 := Kp.mk (show (L2 ++ R2).Perm (L2 ++ R2) ∧ Up key (L2 ++ R2) from ⟨List.Perm.refl _, up_small HUP.out.2.1 HUP.out.2.2.2 (by have := HLE.out; omega)⟩)
              go_wp2
              go_end0
              exact ⟨rfl, M1 ++ (L2 ++ R2), ⟨HH.out.1 M1 _ HM1.out HM2.out⟩, ⟨by have := HR4.out; simpa only [List.append_assoc] using this⟩⟩
            · have t7 : decide ((mid : Int) < en) = false := decide_eq_false (by omega)
              have HM2 := Kp.mk (show (L2 ++ R2).Perm (L2 ++ R2) ∧ Up key (L2 ++ R2) from ⟨List.Perm.refl _, up_small HUP.out.2.1 HUP.out.2.2.2 (by have := HLE.out; omega)⟩)
              go_wp2
              go_end0
              exact ⟨rfl, M1 ++ (L2 ++ R2), ⟨HH.out.1 M1 _ HM1.out HM2.out⟩, ⟨by have := HR4.out; simpa only [List.append_assoc] using this⟩⟩
        · have t3 : decide ((st : Int) < m) = true := decide_eq_true (by omega)
          have t4 : decide ((m : Int) < en) = false := decide_eq_false (by omega)
          have HR3 := Kp.mk (show Rw B g c n mm w0 wr (P ++ (L1 ++ R1) ++ (L2 ++ R2 ++ S)) from by
            have h0 : R1 = [] := List.length_eq_zero_iff.1 (by have := HLE.out; omega)
            have := HR1.out
            rw [h0] at this ⊢
            simpa only [List.append_assoc, List.nil_append, List.append_nil] using this)
          clear HR1
          obtain ⟨w3, rfl⟩ : ∃ w3 : World, w3 = wr := ⟨_, rfl⟩
          have hc2 := HC2.out
          rcases hc2 with ⟨u1, u2⟩ | ⟨u1, u2⟩ | u1
          · have t5 : decide ((a : Int) < st) = true := decide_eq_true (by omega)
            have t6 : decide ((st : Int) < mid) = true := decide_eq_true (by omega)
            go_wp2_with fail
            refine (HIA.out P L1 R1 (L2 ++ R2 ++ S) a st mid w3 (by have := HLE.out; omega) (by have := HR3.out; simpa only [List.append_assoc] using this) ha (by have := HLE.out; omega) (by have := HLE.out; omega) u1 u2 HUP.out.1 HUP.out.2.2.1).mono ?_
            rintro e' w4 ⟨rfl, M1, HM1, HR4⟩
            clear HR3 t5 t6 u1 u2
            have hm1 : M1.length = s + e := by have := HM1.out.1.length_eq; have := HLE.out; rw [List.length_append] at *; omega
            have hc3 := HC3.out
            rcases hc3 with ⟨v1, v2⟩ | ⟨v1, v2⟩ | v1
            · have t7 : decide ((mid : Int) < en) = true := decide_eq_true (by omega)
              have t8 : decide ((en : Int) < b) = true := decide_eq_true (by omega)
              go_wp2_with fail
              refine (HIA.out (P ++ M1) L2 R2 S mid en b w4 (by have := HLE.out; omega) (by have := HR4.out; simpa only [List.append_assoc] using this) (by rw [List.length_append]; omega) (by have := HLE.out; omega) (by have := HLE.out; omega) v1 v2 HUP.out.2.1 HUP.out.2.2.2).mono ?_
              rintro e' w5 ⟨rfl, M2, HM2, HR5⟩
              clear HR4
              go_wp2
              go_end0
              exact ⟨rfl, M1 ++ M2, ⟨HH.out.1 M1 M2 HM1.out HM2.out⟩, ⟨by have := HR5.out; simpa only [List.append_assoc] using this⟩⟩
            · have t7 : decide ((mid : Int) < en) = true := decide_eq_true (by omega)
              have t8 : decide ((en : Int) < b) = false := decide_eq_false (by omega)
              have HM2 := Kp.mk (show (L2 ++ R2).Perm (L2 ++ R2) ∧ Up key (L2 ++ R2) from ⟨List.Perm.refl _, up_small HUP.out.2.1 HUP.out.2.2.2 (by have := HLE.out; omega)⟩)
              go_wp2
              go_end0
              exact ⟨rfl, M1 ++ (L2 ++ R2), ⟨HH.out.1 M1 _ HM1.out HM2.out⟩, ⟨by have := HR4.out; simpa only [List.append_assoc] using this⟩⟩
            · have t7 : decide ((mid : Int) < en) = false := decide_eq_false (by omega)
              have HM2 := Kp.mk (show (L2 ++ R2).Perm (L2 ++ R2) ∧ Up key (L2 ++ R2) from ⟨List.Perm.refl _, up_small HUP.out.2.1 HUP.out.2.2.2 (by have := HLE.out; omega)⟩)
              go_wp2
              go_end0
              exact ⟨rfl, M1 ++ (L2 ++ R2), ⟨HH.out.1 M1 _ HM1.out HM2.out⟩, ⟨by have := HR4.out; simpa only [List.append_assoc] using this⟩⟩
          · have t5 : decide ((a : Int) < st) = true := decide_eq_true (by omega)
            have t6 : decide ((st : Int) < mid) = false := decide_eq_false (by omega)
            obtain ⟨M1, HM1, HR4⟩ : ∃ M1, Kp (M1.Perm (L1 ++ R1) ∧ Up key M1) ∧ Kp (Rw B g c n mm w0 w3 (P ++ M1 ++ (L2 ++ R2 ++ S))) := ⟨L1 ++ R1, ⟨List.Perm.refl _, up_small HUP.out.1 HUP.out.2.2.1 (by have := HLE.out; omega)⟩, HR3⟩
            clear HR3
            obtain ⟨w4, rfl⟩ : ∃ w4 : World, w4 = w3 := ⟨_, rfl⟩
            have hm1 : M1.length = s + e := by have := HM1.out.1.length_eq; have := HLE.out; rw [List.length_append] at *; omega
            have hc3 := HC3.out
            rcases hc3 with ⟨v1, v2⟩ | ⟨v1, v2⟩ | v1
            · have t7 : decide ((mid : Int) < en) = true := decide_eq_true (by omega)
              have t8 : decide ((en : Int) < b) = true := decide_eq_true (by omega)
              go_wp2_with fail
              refine (HIA.out (P ++ M1) L2 R2 S mid en b w4 (by have := HLE.out; omega) (by have := HR4.out; simpa only [List.append_assoc] using this) (by rw [List.length_append]; omega) (by have := HLE.out; omega) (by have := HLE.out; omega) v1 v2 HUP.out.2.1 HUP.out.2.2.2).mono ?_
              rintro e' w5 ⟨rfl, M2, HM2, HR5⟩
              clear HR4
              go_wp2
              go_end0
              exact ⟨rfl, M1 ++ M2, ⟨HH.out.1 M1 M2 HM1.out HM2.out⟩, ⟨by have := HR5.out; simpa only [List.append_assoc] using this⟩⟩
            · have t7 : decide ((mid : Int) < en) = true := decide_eq_true (by omega)
              have t8 : decide ((en : Int) < b) = false := decide_eq_false (by omega)
              have HM2 := Kp.mk (show (L2 ++ R2).Perm (L2 ++ R2) ∧ Up key (L2 ++ R2) from ⟨List.Perm.refl _, up_small HUP.out.2.1 HUP.out.2.2.2 (by have := HLE.out; omega)⟩)
              go_wp2
              go_end0
              exact ⟨rfl, M1 ++ (L2 ++ R2), ⟨HH.out.1 M1 _ HM1.out HM2.out⟩, ⟨by have := HR4.out; simpa only [List.append_assoc] using this⟩⟩
            · have t7 : decide ((mid : Int) < en) = false := decide_eq_false (by omega)
              have HM2 := Kp.mk (show (L2 ++ R2).Perm (L2 ++ R2) ∧ Up key (L2 ++ R2) from ⟨List.Perm.refl _, up_small HUP.out.2.1 HUP.out.2.2.2 (by have := HLE.out; omega)⟩)
              go_wp2
              go_end0
              exact ⟨rfl, M1 ++ (L2 ++ R2), ⟨HH.out.1 M1 _ HM1.out HM2.out⟩, ⟨by have := HR4.out; simpa only [List.append_assoc] using this⟩⟩
          · have t5 : decide ((a : Int) < st) = false := decide_eq_false (by omega)
            obtain ⟨M1, HM1, HR4⟩ : ∃ M1, Kp (M1.Perm (L1 ++ R1) ∧ Up key M1) ∧ Kp (Rw B g c n mm w0 w3 (P ++ M1 ++ (L2 ++ R2 ++ S))) := ⟨L1 ++ R1, ⟨List.Perm.refl _, up_small HUP.out.1 HUP.out.2.2.1 (by have := HLE.out; omega)⟩, HR3⟩
            clear HR3
            obtain ⟨w4, rfl⟩ : ∃ w4 : World, w4 = w3 := ⟨_, rfl⟩
            have hm1 : M1.length = s + e := by have := HM1.out.1.length_eq; have := HLE.out; rw [List.length_append] at *; omega
            have hc3 := HC3.out
            rcases hc3 with ⟨v1, v2⟩ | ⟨v1, v2⟩ | v1
            · have t7 : decide ((mid : Int) < en) = true := decide_eq_true (by omega)
              have t8 : decide ((en : Int) < b) = true := decide_eq_true (by omega)
              go_wp2_with fail
              refine (HIA.out (P ++ M1) L2 R2 S mid en b w4 (by have := HLE.out; omega) (by have := HR4.out; simpa only [List.append_assoc] using this) (by rw [List.length_append]; omega) (by have := HLE.out; omega) (by have := HLE.out; omega) v1 v2 HUP.out.2.1 HUP.out.2.2.2).mono ?_
              rintro e' w5 ⟨rfl, M2, HM2, HR5⟩
              clear HR4
              go_wp2
              go_end0
              exact ⟨rfl, M1 ++ M2, ⟨HH.out.1 M1 M2 HM1.out HM2.out⟩, ⟨by have := HR5.out; simpa only [List.append_assoc] using this⟩⟩
            · have t7 : decide ((mid : Int) < en) = true := decide_eq_true (by omega)
              have t8 : decide ((en : Int) < b) = false := decide_eq_false (by omega)
              have HM2 := Kp.mk (show (L2 ++ R2).Perm (L2 ++ R2) ∧ Up key (L2 ++ R2) from ⟨List.Perm.refl _, up_small HUP.out.2.1 HUP.out.2.2.2 (by have := HLE.out; omega)⟩)
              go_wp2
              go_end0
              exact ⟨rfl, M1 ++ (L2 ++ R2), ⟨HH.out.1 M1 _ HM1.out HM2.out⟩, ⟨by have := HR4.out; simpa only [List.append_assoc] using this⟩⟩
            · have t7 : decide ((mid : Int) < en) = false := decide_eq_false (by omega)
              have HM2 := Kp.mk (show (L2 ++ R2).Perm (L2 ++ R2) ∧ Up key (L2 ++ R2) from ⟨List.Perm.refl _, up_small HUP.out.2.1 HUP.out.2.2.2 (by have := HLE.out; omega)⟩)
              go_wp2
              go_end0
              exact ⟨rfl, M1 ++ (L2 ++ R2), ⟨HH.out.1 M1 _ HM1.out HM2.out⟩, ⟨by have := HR4.out; simpa only [List.append_assoc] using this⟩⟩
        · have t3 : decide ((st : Int) < m) = false := decide_eq_false (by omega)
          have HR3 := Kp.mk (show Rw B g c n mm w0 wr (P ++ (L1 ++ R1) ++ (L2 ++ R2 ++ S)) from by
            have h0 : L2 = [] := List.length_eq_zero_iff.1 (by have := HLE.out; omega)
            have := HR1.out
            rw [h0] at this ⊢
            simpa only [List.append_assoc, List.nil_append, List.append_nil] using this)
          clear HR1
          obtain ⟨w3, rfl⟩ : ∃ w3 : World, w3 = wr := ⟨_, rfl⟩
          have hc2 := HC2.out
          rcases hc2 with ⟨u1, u2⟩ | ⟨u1, u2⟩ | u1
          · have t5 : decide ((a : Int) < st) = true := decide_eq_true (by omega)
            have t6 : decide ((st : Int) < mid) = true := decide_eq_true (by omega)
            go_wp2_with fail
            refine (HIA.out P L1 R1 (L2 ++ R2 ++ S) a st mid w3 (by have := HLE.out; omega) (by have := HR3.out; simpa only [List.append_assoc] using this) ha (by have := HLE.out; omega) (by have := HLE.out; omega) u1 u2 HUP.out.1 HUP.out.2.2.1).mono ?_
            rintro e' w4 ⟨rfl, M1, HM1, HR4⟩
            clear HR3 t5 t6 u1 u2
            have hm1 : M1.length = s + e := by have := HM1.out.1.length_eq; have := HLE.out; rw [List.length_append] at *; omega
            have hc3 := HC3.out
            rcases hc3 with ⟨v1, v2⟩ | ⟨v1, v2⟩ | v1
            · have t7 : decide ((mid : Int) < en) = true := decide_eq_true (by omega)
              have t8 : decide ((en : Int) < b) = true := decide_eq_true (by omega)
              go_wp2_with fail
              refine (HIA.out (P ++ M1) L2 R2 S mid en b w4 (by have := HLE.out; omega) (by have := HR4.out; simpa only [List.append_assoc] using this) (by rw [List.length_append]; omega) (by have := HLE.out; omega) (by have := HLE.out; omega) v1 v2 HUP.out.2.1 HUP.out.2.2.2).mono ?_
              rintro e' w5 ⟨rfl, M2, HM2, HR5⟩
              clear HR4
              go_wp2
              go_end0
              exact ⟨rfl, M1 ++ M2, ⟨HH.out.1 M1 M2 HM1.out HM2.out⟩, ⟨by have := HR5.out; simpa only [List.append_assoc] using this⟩⟩
            · have t7 : decide ((mid : Int) < en) = true := decide_eq_true (by omega)
              have t8 : decide ((en : Int) < b) = false := decide_eq_false (by omega)
              have HM2 := Kp.mk (show (L2 ++ R2).Perm (L2 ++ R2) ∧ Up key (L2 ++ R2) from ⟨List.Perm.refl _, up_small HUP.out.2.1 HUP.out.2.2.2 (by have := HLE.out; omega)⟩)
              go_wp2
              go_end0
              exact ⟨rfl, M1 ++ (L2 ++ R2), ⟨HH.out.1 M1 _ HM1.out HM2.out⟩, ⟨by have := HR4.out; simpa only [List.append_assoc] using this⟩⟩
            · have t7 : decide ((mid : Int) < en) = false := decide_eq_false (by omega)
              have HM2 := Kp.mk (show (L2 ++ R2).Perm (L2 ++ R2) ∧ Up key (L2 ++ R2) from ⟨List.Perm.refl _, up_small HUP.out.2.1 HUP.out.2.2.2 (by have := HLE.out; omega)⟩)
              go_wp2
              go_end0
              exact ⟨rfl, M1 ++ (L2 ++ R2), ⟨HH.out.1 M1 _ HM1.out HM2.out⟩, ⟨by have := HR4.out; simpa only [List.append_assoc] using this⟩⟩
          · have t5 : decide ((a : Int) < st) = true := decide_eq_true (by omega)
            have t6 : decide ((st : Int) < mid) = false := decide_eq_false (by omega)
            obtain ⟨M1, HM1, HR4⟩ : ∃ M1, Kp (M1.Perm (L1 ++ R1) ∧ Up key M1) ∧ Kp (Rw B g c n mm w0 w3 (P ++ M1 ++ (L2 ++ R2 ++ S))) := ⟨L1 ++ R1, ⟨List.Perm.refl _, up_small HUP.out.1 HUP.out.2.2.1 (by have := HLE.out; omega)⟩, HR3⟩
            clear HR3
            obtain ⟨w4, rfl⟩ : ∃ w4 : World, w4 = w3 := ⟨_, rfl⟩
            have hm1 : M1.length = s + e := by have := HM1.out.1.length_eq; have := HLE.out; rw [List.length_append] at *; omega
            have hc3 := HC3.out
            rcases hc3 with ⟨v1, v2⟩ | ⟨v1, v2⟩ | v1
            · have t7 : decide ((mid : Int) < en) = true := decide_eq_true (by omega)
              have t8 : decide ((en : Int) < b) = true := decide_eq_true (by omega)
              go_wp2_with fail
              refine (HIA.out (P ++ M1) L2 R2 S mid en b w4 (by have := HLE.out; omega) (by have := HR4.out; simpa only [List.append_assoc] using this) (by rw [List.length_append]; omega) (by have := HLE.out; omega) (by have := HLE.out; omega) v1 v2 HUP.out.2.1 HUP.out.2.2.2).mono ?_
              rintro e' w5 ⟨rfl, M2, HM2, HR5⟩
              clear HR4
              go_wp2
              go_end0
              exact ⟨rfl, M1 ++ M2, ⟨HH.out.1 M1 M2 HM1.out HM2.out⟩, ⟨by have := HR5.out; simpa only [List.append_assoc] using this⟩⟩
            · have t7 : decide ((mid : Int) < en) = true := decide_eq_true (by omega)
              have t8 : decide ((en : Int) < b) = false := decide_eq_false (by omega)
              have HM2 := Kp.mk (show (L2 ++ R2).Perm (L2 ++ R2) ∧ Up key (L2 ++ R2) from ⟨List.Perm.refl _, up_small HUP.out.2.1 HUP.out.2.2.2 (by have := HLE.out; omega)⟩)
              go_wp2
              go_end0
              exact ⟨rfl, M1 ++ (L2 ++ R2), ⟨HH.out.1 M1 _ HM1.out HM2.out⟩, ⟨by have := HR4.out; simpa only [List.append_assoc] using this⟩⟩
            · have t7 : decide ((mid : Int) < en) = false := decide_eq_false (by omega)
              have HM2 := Kp.mk (show (L2 ++ R2).Perm (L2 ++ R2) ∧ Up key (L2 ++ R2) from ⟨List.Perm.refl _, up_small HUP.out.2.1 HUP.out.2.2.2 (by have := HLE.out; omega)⟩)
              go_wp2
              go_end0
              exact ⟨rfl, M1 ++ (L2 ++ R2), ⟨HH.out.1 M1 _ HM1.out HM2.out⟩, ⟨by have := HR4.out; simpa only [List.append_assoc] using this⟩⟩
          · have t5 : decide ((a : Int) < st) = false := decide_eq_false (by omega)
            obtain ⟨M1, HM1, HR4⟩ : ∃ M1, Kp (M1.Perm (L1 ++ R1) ∧ Up key M1) ∧ Kp (Rw B g c n mm w0 w3 (P ++ M1 ++ (L2 ++ R2 ++ S))) := ⟨L1 ++ R1, ⟨List.Perm.refl _, up_small HUP.out.1 HUP.out.2.2.1 (by have := HLE.out; omega)⟩, HR3⟩
            clear HR3
            obtain ⟨w4, rfl⟩ : ∃ w4 : World, w4 = w3 := ⟨_, rfl⟩
            have hm1 : M1.length = s + e := by have := HM1.out.1.length_eq; have := HLE.out; rw [List.length_append] at *; omega
            have hc3 := HC3.out
            rcases hc3 with ⟨v1, v2⟩ | ⟨v1, v2⟩ | v1
            · have t7 : decide ((mid : Int) < en) = true := decide_eq_true (by omega)
              have t8 : decide ((en : Int) < b) = true := decide_eq_true (by omega)
              go_wp2_with fail
              refine (HIA.out (P ++ M1) L2 R2 S mid en b w4 (by have := HLE.out; omega) (by have := HR4.out; simpa only [List.append_assoc] using this) (by rw [List.length_append]; omega) (by have := HLE.out; omega) (by have := HLE.out; omega) v1 v2 HUP.out.2.1 HUP.out.2.2.2).mono ?_
              rintro e' w5 ⟨rfl, M2, HM2, HR5⟩
              clear HR4
              go_wp2
              go_end0
              exact ⟨rfl, M1 ++ M2, ⟨HH.out.1 M1 M2 HM1.out HM2.out⟩, ⟨by have := HR5.out; simpa only [List.append_assoc] using this⟩⟩
            · have t7 : decide ((mid : Int) < en) = true := decide_eq_true (by omega)
              have t8 : decide ((en : Int) < b) = false := decide_eq_false (by omega)
              have HM2 := Kp.mk (show (L2 ++ R2).Perm (L2 ++ R2) ∧ Up key (L2 ++ R2) from ⟨List.Perm.refl _, up_small HUP.out.2.1 HUP.out.2.2.2 (by have := HLE.out; omega)⟩)
              go_wp2
              go_end0
              exact ⟨rfl, M1 ++ (L2 ++ R2), ⟨HH.out.1 M1 _ HM1.out HM2.out⟩, ⟨by have := HR4.out; simpa only [List.append_assoc] using this⟩⟩
            · have t7 : decide ((mid : Int) < en) = false := decide_eq_false (by omega)
              have HM2 := Kp.mk (show (L2 ++ R2).Perm (L2 ++ R2) ∧ Up key (L2 ++ R2) from ⟨List.Perm.refl _, up_small HUP.out.2.1 HUP.out.2.2.2 (by have := HLE.out; omega)⟩)
              go_wp2
              go_end0
              exact ⟨rfl, M1 ++ (L2 ++ R2), ⟨HH.out.1 M1 _ HM1.out HM2.out⟩, ⟨by have := HR4.out; simpa only [List.append_assoc] using this⟩⟩
  · have tm : decide ((m : Int) > mid) = false := decide_eq_false (by omega)
    have HS0 := Kp.mk hs0
    have HR0 := Kp.mk hr0
    clear hs0 hr0
    go_enter Try.func170, Try.ntmps170
    go_wp2
    go_loopw [20, 21] (fun u v wr => ∃ (st r : Nat), s0 ≤ st ∧ st ≤ r ∧ r ≤ r0 ∧ u = .int .i64 (st : Nat) ∧ v = .int .i64 (r : Nat) ∧ Kp ((st = s0 ∨ key (X.getD (st - 1) 0) ≤ key (X.getD (mid + m - st) 0)) ∧ (r = r0 ∨ key (X.getD (p - r) 0) < key (X.getD r 0))) ∧ Kp (Rw B g c n mm w0 wr X)) (fun u v _ => (intOf v).toNat - (intOf u).toNat)
    case atStart => exact ⟨s0, r0, Nat.le_refl _, hsr, Nat.le_refl _, by first | rfl | rw [HS0.out], by rw [HR0.out], ⟨.inl rfl, .inl rfl⟩, H⟩
    case round =>
      clear H
      obtain ⟨st, r, hst, hle, hrr, rfl, rfl, HF, HR⟩ := hrel
      by_cases hlt : st < r
      · obtain ⟨h, hh⟩ : ∃ h, h = (st + r) / 2 := ⟨_, rfl⟩
        have e1 : ((st : Int) + r) / 2 = (h : Nat) := by omega
        have hph : st ≤ h := by omega
        have hhq : h < r := by omega
        obtain ⟨d, hd⟩ : ∃ d, d = p - h := ⟨_, rfl⟩
        have ed : (p : Int) - h = (d : Nat) := by omega
        have hdn : d < n := by omega
        have hhn : h < n := by omega
        have c1 := HR.out.at d hdn
        have c2 := HR.out.at h hhn
        have l1 := HR.out.lt_at d hdn
        have l2 := HR.out.lt_at h hhn
        have hgi : w0.grownBy wr (some g) := HR.out.gr
        have HGX := Kp.mk (fun (Y : Later wr) => grown_trans hgi (grown_of_below (r := some g) Y.le))
        have CK := Kp.mk (fun (W : World) (hW : w0.grownBy W (some g)) => HC.out W hW (X.getD d 0) (X.getD h 0) l1 l2)
        obtain ⟨y, hy⟩ : ∃ y, y = X.getD d 0 := ⟨_, rfl⟩
        obtain ⟨z, hz⟩ : ∃ z, z = X.getD h 0 := ⟨_, rfl⟩
        rw [← hy] at c1 l1 CK
        rw [← hz] at c2 l2 CK
        have k1 := later_cell c1
        have k2 := later_cell c2
        have HD := Kp.mk (And.intro hd (And.intro hy hz))
        have HMS := Kp.mk (show mid + m - (h + 1) = d by omega)
        clear hh hd hy hz
        by_cases hxy : key y < key z
        · have tc : decide (cmpI (key y) (key z) < 0) = true := decide_eq_true ((cmpI_lt _ _).2 hxy)
          have HF2 := Kp.mk (show (st = s0 ∨ key (X.getD (st - 1) 0) ≤ key (X.getD (mid + m - st) 0)) ∧ (h = r0 ∨ key (X.getD (p - h) 0) < key (X.getD h 0)) from ⟨HF.out.1, .inr (by rw [← HD.out.1, ← HD.out.2.1, ← HD.out.2.2]; exact hxy)⟩)
          clear hxy
          go_wp2
          refine region_later (by kernel_rfl) (by kernel_rfl) ?_
          iterate 14 (go_big_quiet_step ((go_at_fn f; exact q_later (CK.out _ (HGX.out _)))))
          refine wpQuiet_nil ?_
          rintro w' ⟨xl, rfl⟩
          have HR3 := Kp.mk (HR.out.later xl.le)
          clear k1 k2 c1 c2 CK HGX hgi HR
          go_wp2
          go_roundw
          case rel => exact ⟨st, h, hst, hph, by omega, rfl, by first | rfl | go_num, HF2, HR3⟩
          case measure => simp [intOf]; omega
        · have tc : decide (cmpI (key y) (key z) < 0) = false := decide_eq_false (fun hh => hxy ((cmpI_lt _ _).1 hh))
          have HF2 := Kp.mk (show (h + 1 = s0 ∨ key (X.getD (h + 1 - 1) 0) ≤ key (X.getD (mid + m - (h + 1)) 0)) ∧ (r = r0 ∨ key (X.getD (p - r) 0) < key (X.getD r 0)) from ⟨.inr (by rw [HMS.out, Nat.add_sub_cancel, ← HD.out.2.1, ← HD.out.2.2]; omega), HF.out.2⟩)
          clear hxy
          go_wp2
          refine region_later (by kernel_rfl) (by kernel_rfl) ?_
          iterate 14 (go_big_quiet_step ((go_at_fn f; exact q_later (CK.out _ (HGX.out _)))))
          refine wpQuiet_nil ?_
          rintro w' ⟨xl, rfl⟩
          have HR3 := Kp.mk (HR.out.later xl.le)
          clear k1 k2 c1 c2 CK HGX hgi HR
          go_wp2
          go_roundw
          case rel => exact ⟨h + 1, r, by omega, by omega, hrr, by go_num, rfl, HF2, HR3⟩
          case measure => simp [intOf]; omega
      · obtain rfl : st = r := by omega
        have HCUT := Kp.mk (merge_cut_at HUL.out HUR.out HAL.out HAR.out HE.out.2.1 HE.out.2.2 hp HCS.out hst hrr hmm1 hmid1 has HF.out.1 HF.out.2)
        obtain ⟨s, hs⟩ : ∃ s, a + s = st := ⟨st - a, by omega⟩
        obtain ⟨e, he⟩ : ∃ e, st + e = mid := ⟨mid - st, by omega⟩
        rw [show st - a = s by omega, show mid - st = e by omega] at HCUT
        obtain ⟨en, hen⟩ : ∃ en, en + st = mid + m := ⟨mid + m - st, by omega⟩
        have een : (mid : Int) + m - st = (en : Nat) := by omega
        obtain ⟨ha, hm, hb⟩ := HE.out
        obtain ⟨hN, hL2, hR2⟩ := HLL.out
        have hsL : s ≤ L.length := by omega
        have heR : e ≤ R.length := by omega
        have lt : (L.take s).length = s := by rw [List.length_take]; omega
        have ld : (L.drop s).length = L.length - s := by rw [List.length_drop]
        have rt : (R.take e).length = e := by rw [List.length_take]; omega
        have rd : (R.drop e).length = R.length - e := by rw [List.length_drop]
        have HR1 := Kp.mk (show Rw B g c n mm w0 wr ((P ++ L.take s) ++ L.drop s ++ R.take e ++ (R.drop e ++ S)) from by
          have := HR.out
          rwa [HXE.out, parts_eq P L R S s e] at this)
        have hUlt := up_take HUL.out s
        have hUld := up_drop HUL.out s
        have hUrt := up_take HUR.out e
        have hUrd := up_drop HUR.out e
        have hIa := HI.out
        unfold Merges at hIa
        have hc1 : (st < m ∧ m < en) ∨ (st < m ∧ ¬ m < en) ∨ ¬ st < m := by omega
        have hc2 : (a < st ∧ st < mid) ∨ (a < st ∧ ¬ st < mid) ∨ ¬ a < st := by omega
        have hc3 : (mid < en ∧ en < b) ∨ (mid < en ∧ ¬ en < b) ∨ ¬ mid < en := by omega
        have HH := Kp.mk (And.intro (show ∀ M1 M2 : List Nat, M1.Perm (L.take s ++ R.take e) ∧ Up key M1 → M2.Perm (L.drop s ++ R.drop e) ∧ Up key M2 → (M1 ++ M2).Perm (L ++ R) ∧ Up key (M1 ++ M2) from fun M1 M2 h1 h2 => (up_halves HCUT.out h1.1 h2.1 h1.2 h2.2).symm) trivial)
        clear HCUT HF HR HAL HAR HCS HC HUL HUR HLL HE HXE
        generalize hL1 : L.take s = L1 at *
        generalize hL2' : L.drop s = L2 at *
        generalize hR1 : R.take e = R1 at *
        generalize hR2' : R.drop e = R2 at *
        clear hL1 hL2' hR1 hR2'
        have HC3 := Kp.mk hc3
        have HC2 := Kp.mk hc2
        clear hc2 hc3
        have HIA := Kp.mk hIa
        have HUP := Kp.mk (And.intro hUlt (And.intro hUld (And.intro hUrt hUrd)))
        have HLE := Kp.mk (And.intro lt (And.intro ld (And.intro rt rd)))
        clear hIa hUlt hUld hUrt hUrd lt ld rt rd HI
        rcases hc1 with ⟨q1, q2⟩ | ⟨q1, q2⟩ | q1
        · have t3 : decide ((st : Int) < m) = true := decide_eq_true (by omega)
          have t4 : decide ((m : Int) < en) = true := decide_eq_true (by omega)
          go_wp2_with fail
          refine (rotate_any B g c n (P ++ L1) L2 R1 (R2 ++ S) st m en _ wr HR1.out.own (by have := HLE.out; rw [List.length_append]; omega) (by have := HLE.out; omega) (by have := HLE.out; omega) q1 q2 hn).mono ?_
          rintro e' w3 ⟨rfl, HO, HG⟩
          have HR3 := Kp.mk (show Rw B g c n mm w0 w3 (P ++ (L1 ++ R1) ++ (L2 ++ R2 ++ S)) from by
            have := HR1.out.perm (List.Perm.append_right _ (by simp only [List.append_assoc]; exact List.Perm.append_left _ (List.Perm.append_left _ List.perm_append_comm))) HO.out HG.out
            simpa only [List.append_assoc] using this)
          clear HO HG HR1 t3 t4 q1 q2
          have hc2 := HC2.out
          rcases hc2 with ⟨u1, u2⟩ | ⟨u1, u2⟩ | u1
          · have t5 : decide ((a : Int) < st) = true := decide_eq_true (by omega)
            have t6 : decide ((st : Int) < mid) = true := decide_eq_true (by omega)
            go_wp2_with fail
            refine (HIA.out P L1 R1 (L2 ++ R2 ++ S) a st mid w3 (by have := HLE.out; omega) (by have := HR3.out; simpa only [List.append_assoc] using this) ha (by have := HLE.out; omega) (by have := HLE.out; omega) u1 u2 HUP.out.1 HUP.out.2.2.1).mono ?_
            rintro e' w4 ⟨rfl, M1, HM1, HR4⟩
            clear HR3 t5 t6 u1 u2
            have hm1 : M1.length = s + e := by have := HM1.out.1.length_eq; have := HLE.out; rw [List.length_append] at *; omega
            have hc3 := HC3.out
            rcases hc3 with ⟨v1, v2⟩ | ⟨v1, v2⟩ | v1
            · have t7 : decide ((mid : Int) < en) = true := decide_eq_true (by omega)
              have t8 : decide ((en : Int) < b) = true := decide_eq_true (by omega)
              go_wp2_with fail
              refine (HIA.out (P ++ M1) L2 R2 S mid en b w4 (by have := HLE.out; omega) (by have := HR4.out; simpa only [List.append_assoc] using this) (by rw [List.length_append]; omega) (by have := HLE.out; omega) (by have := HLE.out; omega) v1 v2 HUP.out.2.1 HUP.out.2.2.2).mono ?_
              rintro e' w5 ⟨rfl, M2, HM2, HR5⟩
              clear HR4
              go_wp2
              go_end0
              exact ⟨rfl, M1 ++ M2, ⟨HH.out.1 M1 M2 HM1.out HM2.out⟩, ⟨by have := HR5.out; simpa only [List.append_assoc] using this⟩⟩
            · have t7 : decide ((mid : Int) < en) = true := decide_eq_true (by omega)
              have t8 : decide ((en : Int) < b) = false := decide_eq_false (by omega)
              have HM2 := Kp.mk (show (L2 ++ R2).Perm (L2 ++ R2) ∧ Up key (L2 ++ R2) from ⟨List.Perm.refl _, up_small HUP.out.2.1 HUP.out.2.2.2 (by have := HLE.out; omega)⟩)
              go_wp2
              go_end0
              exact ⟨rfl, M1 ++ (L2 ++ R2), ⟨HH.out.1 M1 _ HM1.out HM2.out⟩, ⟨by have := HR4.out; simpa only [List.append_assoc] using this⟩⟩
            · have t7 : decide ((mid : Int) < en) = false := decide_eq_false (by omega)
              have HM2 := Kp.mk (show (L2 ++ R2).Perm (L2 ++ R2) ∧ Up key (L2 ++ R2) from ⟨List.Perm.refl _, up_small HUP.out.2.1 HUP.out.2.2.2 (by have := HLE.out; omega)⟩)
              go_wp2
              go_end0
              exact ⟨rfl, M1 ++ (L2 ++ R2), ⟨HH.out.1 M1 _ HM1.out HM2.out⟩, ⟨by have := HR4.out; simpa only [List.append_assoc] using this⟩⟩
          · have t5 : decide ((a : Int) < st) = true := decide_eq_true (by omega)
            have t6 : decide ((st : Int) < mid) = false := decide_eq_false (by omega)
            obtain ⟨M1, HM1, HR4⟩ : ∃ M1, Kp (M1.Perm (L1 ++ R1) ∧ Up key M1) ∧ Kp (Rw B g c n mm w0 w3 (P ++ M1 ++ (L2 ++ R2 ++ S))) := ⟨L1 ++ R1, ⟨List.Perm.refl _, up_small HUP.out.1 HUP.out.2.2.1 (by have := HLE.out; omega)⟩, HR3⟩
            clear HR3
            obtain ⟨w4, rfl⟩ : ∃ w4 : World, w4 = w3 := ⟨_, rfl⟩
            have hm1 : M1.length = s + e := by have := HM1.out.1.length_eq; have := HLE.out; rw [List.length_append] at *; omega
            have hc3 := HC3.out
            rcases hc3 with ⟨v1, v2⟩ | ⟨v1, v2⟩ | v1
            · have t7 : decide ((mid : Int) < en) = true := decide_eq_true (by omega)
              have t8 : decide ((en : Int) < b) = true := decide_eq_true (by omega)
              go_wp2_with fail
              refine (HIA.out (P ++ M1) L2 R2 S mid en b w4 (by have := HLE.out; omega) (by have := HR4.out; simpa only [List.append_assoc] using this) (by rw [List.length_append]; omega) (by have := HLE.out; omega) (by have := HLE.out; omega) v1 v2 HUP.out.2.1 HUP.out.2.2.2).mono ?_
              rintro e' w5 ⟨rfl, M2, HM2, HR5⟩
              clear HR4
              go_wp2
              go_end0
              exact ⟨rfl, M1 ++ M2, ⟨HH.out.1 M1 M2 HM1.out HM2.out⟩, ⟨by have := HR5.out; simpa only [List.append_assoc] using this⟩⟩
            · have t7 : decide ((mid : Int) < en) = true := decide_eq_true (by omega)
              have t8 : decide ((en : Int) < b) = false := decide_eq_false (by omega)
              have HM2 := Kp.mk (show (L2 ++ R2).Perm (L2 ++ R2) ∧ Up key (L2 ++ R2) from ⟨List.Perm.refl _, up_small HUP.out.2.1 HUP.out.2.2.2 (by have := HLE.out; omega)⟩)
              go_wp2
              go_end0
              exact ⟨rfl, M1 ++ (L2 ++ R2), ⟨HH.out.1 M1 _ HM1.out HM2.out⟩, ⟨by have := HR4.out; simpa only [List.append_assoc] using this⟩⟩
            · have t7 : decide ((mid : Int) < en) = false := decide_eq_false (by omega)
              have HM2 := Kp.mk (show (L2 ++ R2).Perm (L2 ++ R2) ∧ Up key (L2 ++ R2) from ⟨List.Perm.refl _, up_small HUP.out.2.1 HUP.out.2.2.2 (by have := HLE.out; omega)⟩)
              go_wp2
              go_end0
              exact ⟨rfl, M1 ++ (L2 ++ R2), ⟨HH.out.1 M1 _ HM1.out HM2.out⟩, ⟨by have := HR4.out; simpa only [List.append_assoc] using this⟩⟩
          · have t5 : decide ((a : Int) < st) = false := decide_eq_false (by omega)
            obtain ⟨M1, HM1, HR4⟩ : ∃ M1, Kp (M1.Perm (L1 ++ R1) ∧ Up key M1) ∧ Kp (Rw B g c n mm w0 w3 (P ++ M1 ++ (L2 ++ R2 ++ S))) := ⟨L1 ++ R1, ⟨List.Perm.refl _, up_small HUP.out.1 HUP.out.2.2.1 (by have := HLE.out; omega)⟩, HR3⟩
            clear HR3
            obtain ⟨w4, rfl⟩ : ∃ w4 : World, w4 = w3 := ⟨_, rfl⟩
            have hm1 : M1.length = s + e := by have := HM1.out.1.length_eq; have := HLE.out; rw [List.length_append] at *; omega
            have hc3 := HC3.out
            rcases hc3 with ⟨v1, v2⟩ | ⟨v1, v2⟩ | v1
            · have t7 : decide ((mid : Int) < en) = true := decide_eq_true (by omega)
              have t8 : decide ((en : Int) < b) = true := decide_eq_true (by omega)
              go_wp2_with fail
              refine (HIA.out (P ++ M1) L2 R2 S mid en b w4 (by have := HLE.out; omega) (by have := HR4.out; simpa only [List.append_assoc] using this) (by rw [List.length_append]; omega) (by have := HLE.out; omega) (by have := HLE.out; omega) v1 v2 HUP.out.2.1 HUP.out.2.2.2).mono ?_
              rintro e' w5 ⟨rfl, M2, HM2, HR5⟩
              clear HR4
              go_wp2
              go_end0
              exact ⟨rfl, M1 ++ M2, ⟨HH.out.1 M1 M2 HM1.out HM2.out⟩, ⟨by have := HR5.out; simpa only [List.append_assoc] using this⟩⟩
            · have t7 : decide ((mid : Int) < en) = true := decide_eq_true (by omega)
              have t8 : decide ((en : Int) < b) = false := decide_eq_false (by omega)
              have HM2 := Kp.mk (show (L2 ++ R2).Perm (L2 ++ R2) ∧ Up key (L2 ++ R2) from ⟨List.Perm.refl _, up_small HUP.out.2.1 HUP.out.2.2.2 (by have := HLE.out; omega)⟩)
              go_wp2
              go_end0
              exact ⟨rfl, M1 ++ (L2 ++ R2), ⟨HH.out.1 M1 _ HM1.out HM2.out⟩, ⟨by have := HR4.out; simpa only [List.append_assoc] using this⟩⟩
            · have t7 : decide ((mid : Int) < en) = false := decide_eq_false (by omega)
              have HM2 := Kp.mk (show (L2 ++ R2).Perm (L2 ++ R2) ∧ Up key (L2 ++ R2) from ⟨List.Perm.refl _, up_small HUP.out.2.1 HUP.out.2.2.2 (by have := HLE.out; omega)⟩)
              go_wp2
              go_end0
              exact ⟨rfl, M1 ++ (L2 ++ R2), ⟨HH.out.1 M1 _ HM1.out HM2.out⟩, ⟨by have := HR4.out; simpa only [List.append_assoc] using this⟩⟩
        · have t3 : decide ((st : Int) < m) = true := decide_eq_true (by omega)
          have t4 : decide ((m : Int) < en) = false := decide_eq_false (by omega)
          have HR3 := Kp.mk (show Rw B g c n mm w0 wr (P ++ (L1 ++ R1) ++ (L2 ++ R2 ++ S)) from by
            have h0 : R1 = [] := List.length_eq_zero_iff.1 (by have := HLE.out; omega)
            have := HR1.out
            rw [h0] at this ⊢
            simpa only [List.append_assoc, List.nil_append, List.append_nil] using this)
          clear HR1
          obtain ⟨w3, rfl⟩ : ∃ w3 : World, w3 = wr := ⟨_, rfl⟩
          have hc2 := HC2.out
          rcases hc2 with ⟨u1, u2⟩ | ⟨u1, u2⟩ | u1
          · have t5 : decide ((a : Int) < st) = true := decide_eq_true (by omega)
            have t6 : decide ((st : Int) < mid) = true := decide_eq_true (by omega)
            go_wp2_with fail
            refine (HIA.out P L1 R1 (L2 ++ R2 ++ S) a st mid w3 (by have := HLE.out; omega) (by have := HR3.out; simpa only [List.append_assoc] using this) ha (by have := HLE.out; omega) (by have := HLE.out; omega) u1 u2 HUP.out.1 HUP.out.2.2.1).mono ?_
            rintro e' w4 ⟨rfl, M1, HM1, HR4⟩
            clear HR3 t5 t6 u1 u2
            have hm1 : M1.length = s + e := by have := HM1.out.1.length_eq; have := HLE.out; rw [List.length_append] at *; omega
            have hc3 := HC3.out
            rcases hc3 with ⟨v1, v2⟩ | ⟨v1, v2⟩ | v1
            · have t7 : decide ((mid : Int) < en) = true := decide_eq_true (by omega)
              have t8 : decide ((en : Int) < b) = true := decide_eq_true (by omega)
              go_wp2_with fail
              refine (HIA.out (P ++ M1) L2 R2 S mid en b w4 (by have := HLE.out; omega) (by have := HR4.out; simpa only [List.append_assoc] using this) (by rw [List.length_append]; omega) (by have := HLE.out; omega) (by have := HLE.out; omega) v1 v2 HUP.out.2.1 HUP.out.2.2.2).mono ?_
              rintro e' w5 ⟨rfl, M2, HM2, HR5⟩
              clear HR4
              go_wp2
              go_end0
              exact ⟨rfl, M1 ++ M2, ⟨HH.out.1 M1 M2 HM1.out HM2.out⟩, ⟨by have := HR5.out; simpa only [List.append_assoc] using this⟩⟩
            · have t7 : decide ((mid : Int) < en) = true := decide_eq_true (by omega)
              have t8 : decide ((en : Int) < b) = false := decide_eq_false (by omega)
              have HM2 := Kp.mk (show (L2 ++ R2).Perm (L2 ++ R2) ∧ Up key (L2 ++ R2) from ⟨List.Perm.refl _, up_small HUP.out.2.1 HUP.out.2.2.2 (by have := HLE.out; omega)⟩)
              go_wp2
              go_end0
              exact ⟨rfl, M1 ++ (L2 ++ R2), ⟨HH.out.1 M1 _ HM1.out HM2.out⟩, ⟨by have := HR4.out; simpa only [List.append_assoc] using this⟩⟩
            · have t7 : decide ((mid : Int) < en) = false := decide_eq_false (by omega)
              have HM2 := Kp.mk (show (L2 ++ R2).Perm (L2 ++ R2) ∧ Up key (L2 ++ R2) from ⟨List.Perm.refl _, up_small HUP.out.2.1 HUP.out.2.2.2 (by have := HLE.out; omega)⟩)
              go_wp2
              go_end0
              exact ⟨rfl, M1 ++ (L2 ++ R2), ⟨HH.out.1 M1 _ HM1.out HM2.out⟩, ⟨by have := HR4.out; simpa only [List.append_assoc] using this⟩⟩
          · have t5 : decide ((a : Int) < st) = true := decide_eq_true (by omega)
            have t6 : decide ((st : Int) < mid) = false := decide_eq_false (by omega)
            obtain ⟨M1, HM1, HR4⟩ : ∃ M1, Kp (M1.Perm (L1 ++ R1) ∧ Up key M1) ∧ Kp (Rw B g c n mm w0 w3 (P ++ M1 ++ (L2 ++ R2 ++ S))) := ⟨L1 ++ R1, ⟨List.Perm.refl _, up_small HUP.out.1 HUP.out.2.2.1 (by have := HLE.out; omega)⟩, HR3⟩
            clear HR3
            obtain ⟨w4, rfl⟩ : ∃ w4 : World, w4 = w3 := ⟨_, rfl⟩
            have hm1 : M1.length = s + e := by have := HM1.out.1.length_eq; have := HLE.out; rw [List.length_append] at *; omega
            have hc3 := HC3.out
            rcases hc3 with ⟨v1, v2⟩ | ⟨v1, v2⟩ | v1
            · have t7 : decide ((mid : Int) < en) = true := decide_eq_true (by omega)
              have t8 : decide ((en : Int) < b) = true := decide_eq_true (by omega)
              go_wp2_with fail
              refine (HIA.out (P ++ M1) L2 R2 S mid en b w4 (by have := HLE.out; omega) (by have := HR4.out; simpa only [List.append_assoc] using this) (by rw [List.length_append]; omega) (by have := HLE.out; omega) (by have := HLE.out; omega) v1 v2 HUP.out.2.1 HUP.out.2.2.2).mono ?_
              rintro e' w5 ⟨rfl, M2, HM2, HR5⟩
              clear HR4
              go_wp2
              go_end0
              exact ⟨rfl, M1 ++ M2, ⟨HH.out.1 M1 M2 HM1.out HM2.out⟩, ⟨by have := HR5.out; simpa only [List.append_assoc] using this⟩⟩
            · have t7 : decide ((mid : Int) < en) = true := decide_eq_true (by omega)
              have t8 : decide ((en : Int) < b) = false := decide_eq_false (by omega)
              have HM2 := Kp.mk (show (L2 ++ R2).Perm (L2 ++ R2) ∧ Up key (L2 ++ R2) from ⟨List.Perm.refl _, up_small HUP.out.2.1 HUP.out.2.2.2 (by have := HLE.out; omega)⟩)
              go_wp2
              go_end0
              exact ⟨rfl, M1 ++ (L2 ++ R2), ⟨HH.out.1 M1 _ HM1.out HM2.out⟩, ⟨by have := HR4.out; simpa only [List.append_assoc] using this⟩⟩
            · have t7 : decide ((mid : Int) < en) = false := decide_eq_false (by omega)
              have HM2 := Kp.mk (show (L2 ++ R2).Perm (L2 ++ R2) ∧ Up key (L2 ++ R2) from ⟨List.Perm.refl _, up_small HUP.out.2.1 HUP.out.2.2.2 (by have := HLE.out; omega)⟩)
              go_wp2
              go_end0
              exact ⟨rfl, M1 ++ (L2 ++ R2), ⟨HH.out.1 M1 _ HM1.out HM2.out⟩, ⟨by have := HR4.out; simpa only [List.append_assoc] using this⟩⟩
          · have t5 : decide ((a : Int) < st) = false := decide_eq_false (by omega)
            obtain ⟨M1, HM1, HR4⟩ : ∃ M1, Kp (M1.Perm (L1 ++ R1) ∧ Up key M1) ∧ Kp (Rw B g c n mm w0 w3 (P ++ M1 ++ (L2 ++ R2 ++ S))) := ⟨L1 ++ R1, ⟨List.Perm.refl _, up_small HUP.out.1 HUP.out.2.2.1 (by have := HLE.out; omega)⟩, HR3⟩
            clear HR3
            obtain ⟨w4, rfl⟩ : ∃ w4 : World, w4 = w3 := ⟨_, rfl⟩
            have hm1 : M1.length = s + e := by have := HM1.out.1.length_eq; have := HLE.out; rw [List.length_append] at *; omega
            have hc3 := HC3.out
            rcases hc3 with ⟨v1, v2⟩ | ⟨v1, v2⟩ | v1
            · have t7 : decide ((mid : Int) < en) = true := decide_eq_true (by omega)
              have t8 : decide ((en : Int) < b) = true := decide_eq_true (by omega)
              go_wp2_with fail
              refine (HIA.out (P ++ M1) L2 R2 S mid en b w4 (by have := HLE.out; omega) (by have := HR4.out; simpa only [List.append_assoc] using this) (by rw [List.length_append]; omega) (by have := HLE.out; omega) (by have := HLE.out; omega) v1 v2 HUP.out.2.1 HUP.out.2.2.2).mono ?_
              rintro e' w5 ⟨rfl, M2, HM2, HR5⟩
              clear HR4
              go_wp2
              go_end0
              exact ⟨rfl, M1 ++ M2, ⟨HH.out.1 M1 M2 HM1.out HM2.out⟩, ⟨by have := HR5.out; simpa only [List.append_assoc] using this⟩⟩
            · have t7 : decide ((mid : Int) < en) = true := decide_eq_true (by omega)
              have t8 : decide ((en : Int) < b) = false := decide_eq_false (by omega)
              have HM2 := Kp.mk (show (L2 ++ R2).Perm (L2 ++ R2) ∧ Up key (L2 ++ R2) from ⟨List.Perm.refl _, up_small HUP.out.2.1 HUP.out.2.2.2 (by have := HLE.out; omega)⟩)
              go_wp2
              go_end0
              exact ⟨rfl, M1 ++ (L2 ++ R2), ⟨HH.out.1 M1 _ HM1.out HM2.out⟩, ⟨by have := HR4.out; simpa only [List.append_assoc] using this⟩⟩
            · have t7 : decide ((mid : Int) < en) = false := decide_eq_false (by omega)
              have HM2 := Kp.mk (show (L2 ++ R2).Perm (L2 ++ R2) ∧ Up key (L2 ++ R2) from ⟨List.Perm.refl _, up_small HUP.out.2.1 HUP.out.2.2.2 (by have := HLE.out; omega)⟩)
              go_wp2
              go_end0
              exact ⟨rfl, M1 ++ (L2 ++ R2), ⟨HH.out.1 M1 _ HM1.out HM2.out⟩, ⟨by have := HR4.out; simpa only [List.append_assoc] using this⟩⟩
        · have t3 : decide ((st : Int) < m) = false := decide_eq_false (by omega)
          have HR3 := Kp.mk (show Rw B g c n mm w0 wr (P ++ (L1 ++ R1) ++ (L2 ++ R2 ++ S)) from by
            have h0 : L2 = [] := List.length_eq_zero_iff.1 (by have := HLE.out; omega)
            have := HR1.out
            rw [h0] at this ⊢
            simpa only [List.append_assoc, List.nil_append, List.append_nil] using this)
          clear HR1
          obtain ⟨w3, rfl⟩ : ∃ w3 : World, w3 = wr := ⟨_, rfl⟩
          have hc2 := HC2.out
          rcases hc2 with ⟨u1, u2⟩ | ⟨u1, u2⟩ | u1
          · have t5 : decide ((a : Int) < st) = true := decide_eq_true (by omega)
            have t6 : decide ((st : Int) < mid) = true := decide_eq_true (by omega)
            go_wp2_with fail
            refine (HIA.out P L1 R1 (L2 ++ R2 ++ S) a st mid w3 (by have := HLE.out; omega) (by have := HR3.out; simpa only [List.append_assoc] using this) ha (by have := HLE.out; omega) (by have := HLE.out; omega) u1 u2 HUP.out.1 HUP.out.2.2.1).mono ?_
            rintro e' w4 ⟨rfl, M1, HM1, HR4⟩
            clear HR3 t5 t6 u1 u2
            have hm1 : M1.length = s + e := by have := HM1.out.1.length_eq; have := HLE.out; rw [List.length_append] at *; omega
            have hc3 := HC3.out
            rcases hc3 with ⟨v1, v2⟩ | ⟨v1, v2⟩ | v1
            · have t7 : decide ((mid : Int) < en) = true := decide_eq_true (by omega)
              have t8 : decide ((en : Int) < b) = true := decide_eq_true (by omega)
              go_wp2_with fail
              refine (HIA.out (P ++ M1) L2 R2 S mid en b w4 (by have := HLE.out; omega) (by have := HR4.out; simpa only [List.append_assoc] using this) (by rw [List.length_append]; omega) (by have := HLE.out; omega) (by have := HLE.out; omega) v1 v2 HUP.out.2.1 HUP.out.2.2.2).mono ?_
              rintro e' w5 ⟨rfl, M2, HM2, HR5⟩
              clear HR4
              go_wp2
              go_end0
              exact ⟨rfl, M1 ++ M2, ⟨HH.out.1 M1 M2 HM1.out HM2.out⟩, ⟨by have := HR5.out; simpa only [List.append_assoc] using this⟩⟩
            · have t7 : decide ((mid : Int) < en) = true := decide_eq_true (by omega)
              have t8 : decide ((en : Int) < b) = false := decide_eq_false (by omega)
              have HM2 := Kp.mk (show (L2 ++ R2).Perm (L2 ++ R2) ∧ Up key (L2 ++ R2) from ⟨List.Perm.refl _, up_small HUP.out.2.1 HUP.out.2.2.2 (by have := HLE.out; omega)⟩)
              go_wp2
              go_end0
              exact ⟨rfl, M1 ++ (L2 ++ R2), ⟨HH.out.1 M1 _ HM1.out HM2.out⟩, ⟨by have := HR4.out; simpa only [List.append_assoc] using this⟩⟩
            · have t7 : decide ((mid : Int) < en) = false := decide_eq_false (by omega)
              have HM2 := Kp.mk (show (L2 ++ R2).Perm (L2 ++ R2) ∧ Up key (L2 ++ R2) from ⟨List.Perm.refl _, up_small HUP.out.2.1 HUP.out.2.2.2 (by have := HLE.out; omega)⟩)
              go_wp2
              go_end0
              exact ⟨rfl, M1 ++ (L2 ++ R2), ⟨HH.out.1 M1 _ HM1.out HM2.out⟩, ⟨by have := HR4.out; simpa only [List.append_assoc] using this⟩⟩
          · have t5 : decide ((a : Int) < st) = true := decide_eq_true (by omega)
            have t6 : decide ((st : Int) < mid) = false := decide_eq_false (by omega)
            obtain ⟨M1, HM1, HR4⟩ : ∃ M1, Kp (M1.Perm (L1 ++ R1) ∧ Up key M1) ∧ Kp (Rw B g c n mm w0 w3 (P ++ M1 ++ (L2 ++ R2 ++ S))) := ⟨L1 ++ R1, ⟨List.Perm.refl _, up_small HUP.out.1 HUP.out.2.2.1 (by have := HLE.out; omega)⟩, HR3⟩
            clear HR3
            obtain ⟨w4, rfl⟩ : ∃ w4 : World, w4 = w3 := ⟨_, rfl⟩
            have hm1 : M1.length = s + e := by have := HM1.out.1.length_eq; have := HLE.out; rw [List.length_append] at *; omega
            have hc3 := HC3.out
            rcases hc3 with ⟨v1, v2⟩ | ⟨v1, v2⟩ | v1
            · have t7 : decide ((mid : Int) < en) = true := decide_eq_true (by omega)
              have t8 : decide ((en : Int) < b) = true := decide_eq_true (by omega)
              go_wp2_with fail
              refine (HIA.out (P ++ M1) L2 R2 S mid en b w4 (by have := HLE.out; omega) (by have := HR4.out; simpa only [List.append_assoc] using this) (by rw [List.length_append]; omega) (by have := HLE.out; omega) (by have := HLE.out; omega) v1 v2 HUP.out.2.1 HUP.out.2.2.2).mono ?_
              rintro e' w5 ⟨rfl, M2, HM2, HR5⟩
              clear HR4
              go_wp2
              go_end0
              exact ⟨rfl, M1 ++ M2, ⟨HH.out.1 M1 M2 HM1.out HM2.out⟩, ⟨by have := HR5.out; simpa only [List.append_assoc] using this⟩⟩
            · have t7 : decide ((mid : Int) < en) = true := decide_eq_true (by omega)
              have t8 : decide ((en : Int) < b) = false := decide_eq_false (by omega)
              have HM2 := Kp.mk (show (L2 ++ R2).Perm (L2 ++ R2) ∧ Up key (L2 ++ R2) from ⟨List.Perm.refl _, up_small HUP.out.2.1 HUP.out.2.2.2 (by have := HLE.out; omega)⟩)
              go_wp2
              go_end0
              exact ⟨rfl, M1 ++ (L2 ++ R2), ⟨HH.out.1 M1 _ HM1.out HM2.out⟩, ⟨by have := HR4.out; simpa only [List.append_assoc] using this⟩⟩
            · have t7 : decide ((mid : Int) < en) = false := decide_eq_false (by omega)
              have HM2 := Kp.mk (show (L2 ++ R2).Perm (L2 ++ R2) ∧ Up key (L2 ++ R2) from ⟨List.Perm.refl _, up_small HUP.out.2.1 HUP.out.2.2.2 (by have := HLE.out; omega)⟩)
              go_wp2
              go_end0
              exact ⟨rfl, M1 ++ (L2 ++ R2), ⟨HH.out.1 M1 _ HM1.out HM2.out⟩, ⟨by have := HR4.out; simpa only [List.append_assoc] using this⟩⟩
          · have t5 : decide ((a : Int) < st) = false := decide_eq_false (by omega)
            obtain ⟨M1, HM1, HR4⟩ : ∃ M1, Kp (M1.Perm (L1 ++ R1) ∧ Up key M1) ∧ Kp (Rw B g c n mm w0 w3 (P ++ M1 ++ (L2 ++ R2 ++ S))) := ⟨L1 ++ R1, ⟨List.Perm.refl _, up_small HUP.out.1 HUP.out.2.2.1 (by have := HLE.out; omega)⟩, HR3⟩
            clear HR3
            obtain ⟨w4, rfl⟩ : ∃ w4 : World, w4 = w3 := ⟨_, rfl⟩
            have hm1 : M1.length = s + e := by have := HM1.out.1.length_eq; have := HLE.out; rw [List.length_append] at *; omega
            have hc3 := HC3.out
            rcases hc3 with ⟨v1, v2⟩ | ⟨v1, v2⟩ | v1
            · have t7 : decide ((mid : Int) < en) = true := decide_eq_true (by omega)
              have t8 : decide ((en : Int) < b) = true := decide_eq_true (by omega)
              go_wp2_with fail
              refine (HIA.out (P ++ M1) L2 R2 S mid en b w4 (by have := HLE.out; omega) (by have := HR4.out; simpa only [List.append_assoc] using this) (by rw [List.length_append]; omega) (by have := HLE.out; omega) (by have := HLE.out; omega) v1 v2 HUP.out.2.1 HUP.out.2.2.2).mono ?_
              rintro e' w5 ⟨rfl, M2, HM2, HR5⟩
              clear HR4
              go_wp2
              go_end0
              exact ⟨rfl, M1 ++ M2, ⟨HH.out.1 M1 M2 HM1.out HM2.out⟩, ⟨by have := HR5.out; simpa only [List.append_assoc] using this⟩⟩
            · have t7 : decide ((mid : Int) < en) = true := decide_eq_true (by omega)
              have t8 : decide ((en : Int) < b) = false := decide_eq_false (by omega)
              have HM2 := Kp.mk (show (L2 ++ R2).Perm (L2 ++ R2) ∧ Up key (L2 ++ R2) from ⟨List.Perm.refl _, up_small HUP.out.2.1 HUP.out.2.2.2 (by have := HLE.out; omega)⟩)
              go_wp2
              go_end0
              exact ⟨rfl, M1 ++ (L2 ++ R2), ⟨HH.out.1 M1 _ HM1.out HM2.out⟩, ⟨by have := HR4.out; simpa only [List.append_assoc] using this⟩⟩
            · have t7 : decide ((mid : Int) < en) = false := decide_eq_false (by omega)
              have HM2 := Kp.mk (show (L2 ++ R2).Perm (L2 ++ R2) ∧ Up key (L2 ++ R2) from ⟨List.Perm.refl _, up_small HUP.out.2.1 HUP.out.2.2.2 (by have := HLE.out; omega)⟩)
              go_wp2
              go_end0
              exact ⟨rfl, M1 ++ (L2 ++ R2), ⟨HH.out.1 M1 _ HM1.out HM2.out⟩, ⟨by have := HR4.out; simpa only [List.append_assoc] using this⟩⟩

end Go.Proofs.Ytlmdlholmlbcbaa
