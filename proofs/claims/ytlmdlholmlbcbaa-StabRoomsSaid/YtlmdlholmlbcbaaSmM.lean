/- Merging in place: the walk of symMerge. -/
import Derived.Test.YtlmdlholmlbcbaaSmI
namespace Go.Proofs.Ytlmdlholmlbcbaa
set_option linter.unusedVariables false
open Go.RowKit

/-- What symMerge is asked, of parts that hold N elements at most. -/
def Merges (f : FuncId) (cb : Array Value) (key : Nat → Int) (B g c n mm : Nat) (w0 : World) (N : Nat) : Prop :=
  ∀ (P L R S : List Nat) (a m b : Nat) (w : World), L.length + R.length ≤ N → Rw B g c n mm w0 w (P ++ L ++ R ++ S) → P.length = a → a + L.length = m → m + R.length = b → a < m → m < b → Up key L → Up key R →
    Calls Try.prog 170 #[.slice (some ⟨g, 0, none⟩) n c, .int .i64 a, .int .i64 m, .int .i64 b, .func (.func f) #[] cb] w fun e w' => e = .returned (.tuple #[]) ∧ ∃ M, Kp (M.Perm (L ++ R) ∧ Up key M) ∧ Kp (Rw B g c n mm w0 w' (P ++ M ++ S))

/-- The element at place q of a row whose parts are told. -/
theorem at_R (P L R S : List Nat) (a m q : Nat) (ha : P.length = a) (hm : a + L.length = m) (hq : q < R.length) : (P ++ L ++ R ++ S).getD (m + q) 0 = R.getD q 0 := by
  have := mid_at (P ++ L) R S q m (by rw [List.length_append]; omega) hq
  exact this
theorem at_L (P L R S : List Nat) (a q : Nat) (ha : P.length = a) (hq : q < L.length) : (P ++ L ++ R ++ S).getD (a + q) 0 = L.getD q 0 := by
  have := mid_at P L (R ++ S) q a ha hq
  simpa using this

set_option maxRecDepth 100000 in
set_option maxHeartbeats 8000000 in
/-- One element ahead of a row. -/
theorem merge_one (f : FuncId) (cb : Array Value) (eg : ∀ args w, (callFunc f args).run Try.prog w = .ok (.enter f args) w) (key : Nat → Int) (B g c n mm : Nat) (w0 : World) (hc : CmpK f cb key g mm w0) (hn : n ≤ 1000000)
    (P R S : List Nat) (x a m b : Nat) (w : World) (h : Rw B g c n mm w0 w (P ++ [x] ++ R ++ S)) (ha : P.length = a) (hm : a + 1 = m) (hb : m + R.length = b) (hR : Up key R) :
    Calls Try.prog 170 #[.slice (some ⟨g, 0, none⟩) n c, .int .i64 a, .int .i64 m, .int .i64 b, .func (.func f) #[] cb] w fun e w' => e = .returned (.tuple #[]) ∧ ∃ M, Kp (M.Perm ([x] ++ R) ∧ Up key M) ∧ Kp (Rw B g c n mm w0 w' (P ++ M ++ S)) := by
  have H := Kp.mk h
  have HC := Kp.mk hc
  have hl := h.len
  have hbn : b ≤ n := by simp only [List.length_append, List.length_singleton] at hl; omega
  have hcap := h.cap
  have hXa : (P ++ [x] ++ R ++ S).getD a 0 = x := by
    have := at_L P [x] R S a 0 ha (by simp)
    simpa using this
  have HXR := Kp.mk (show ∀ q, q < R.length → (P ++ [x] ++ R ++ S).getD (m + q) 0 = R.getD q 0 from fun q hq => at_R P [x] R S a m q ha (by simpa using hm) hq)
  have HE := Kp.mk (And.intro ha (And.intro hm hb))
  have HU := Kp.mk hR
  have t1 : ((m : Int) - a == 1) = true := by rw [beq_iff_eq]; omega
  have t1' : (m : Int) - a = 1 := by omega
  have HXA := Kp.mk hXa
  clear h hc hl ha hR hXa
  go_enter Try.func170, Try.ntmps170
  go_wp2
  go_loopw [10, 11] (fun u v wr => ∃ (p q : Nat), p ≤ q ∧ q ≤ R.length ∧ u = .int .i64 ((m + p : Nat) : Int) ∧ v = .int .i64 ((m + q : Nat) : Int) ∧ Kp ((p = 0 ∨ key (R.getD (p - 1) 0) < key x) ∧ (q = R.length ∨ key x ≤ key (R.getD q 0))) ∧ Kp (Rw B g c n mm w0 wr (P ++ [x] ++ R ++ S))) (fun u v _ => (intOf v).toNat - (intOf u).toNat)
  case atStart => exact ⟨0, R.length, Nat.zero_le _, Nat.le_refl _, rfl, by first | rfl | (rw [hb]), ⟨.inl rfl, .inl rfl⟩, H⟩
  case round =>
    clear H
    obtain ⟨p, q, hpq, hq, rfl, rfl, HI, HR⟩ := hrel
    by_cases hlt : p < q
    · obtain ⟨h, hh⟩ : ∃ h, h = (p + q) / 2 + (if (p + q) % 2 = 1 then 0 else 0) := ⟨_, rfl⟩
      have hh' : h = (p + q) / 2 := by rw [hh]; simp
      have e1 : (((m + p : Nat) : Int) + ((m + q : Nat) : Int)) / 2 = ((m + h : Nat) : Int) := by omega
      have e1' : ((m : Int) + p + ((m : Int) + q)) / 2 = ((m + h : Nat) : Int) := by omega
      have hph : p ≤ h := by omega
      have hhq : h < q := by omega
      have hhn : m + h < n := by omega
      have c1 := HR.out.at (m + h) hhn
      have c2 := HR.out.at a (by omega)
      have l1 := HR.out.lt_at (m + h) hhn
      have l2 := HR.out.lt_at a (by omega)
      rw [HXR.out h (by omega)] at c1 l1
      rw [HXA.out] at c2 l2
      have hgi : w0.grownBy wr (some g) := HR.out.gr
      have HGX := Kp.mk (fun (X : Later wr) => grown_trans hgi (grown_of_below (r := some g) X.le))
      have CK := Kp.mk (fun (W : World) (hW : w0.grownBy W (some g)) => HC.out W hW (R.getD h 0) x l1 l2)
      obtain ⟨y, hy⟩ : ∃ y, y = R.getD h 0 := ⟨_, rfl⟩
      rw [← hy] at c1 l1 CK
      have HY := Kp.mk hy
      have k1 := later_cell c1
      have k2 := later_cell c2
      clear hh hh' hy
      by_cases hxy : key y < key x
      · have tc : decide (cmpI (key y) (key x) < 0) = true := decide_eq_true ((cmpI_lt _ _).2 hxy)
        have HI2 := Kp.mk (show (h + 1 = 0 ∨ key (R.getD (h + 1 - 1) 0) < key x) ∧ (q = R.length ∨ key x ≤ key (R.getD q 0)) from ⟨.inr (by rw [Nat.add_sub_cancel, ← HY.out]; exact hxy), HI.out.2⟩)
        clear hxy
        go_wp2
        refine region_later (by kernel_rfl) (by kernel_rfl) ?_
        iterate 11 (go_big_quiet_step ((go_at_fn f; exact q_later (CK.out _ (HGX.out _)))))
        refine wpQuiet_nil ?_
        rintro w' ⟨xl, rfl⟩
        have HR3 := Kp.mk (HR.out.later xl.le)
        clear k1 k2 c1 c2 CK HGX hgi HR
        go_wp2
        go_roundw
        case rel => exact ⟨h + 1, q, by omega, hq, by go_num, rfl, HI2, HR3⟩
        case measure => simp [intOf]; omega
      · have tc : decide (cmpI (key y) (key x) < 0) = false := decide_eq_false (fun hh => hxy ((cmpI_lt _ _).1 hh))
        have HI2 := Kp.mk (show (p = 0 ∨ key (R.getD (p - 1) 0) < key x) ∧ (h = R.length ∨ key x ≤ key (R.getD h 0)) from ⟨HI.out.1, .inr (by rw [← HY.out]; omega)⟩)
        clear hxy
        go_wp2
        refine region_later (by kernel_rfl) (by kernel_rfl) ?_
        iterate 11 (go_big_quiet_step ((go_at_fn f; exact q_later (CK.out _ (HGX.out _)))))
        refine wpQuiet_nil ?_
        rintro w' ⟨xl, rfl⟩
        have HR3 := Kp.mk (HR.out.later xl.le)
        clear k1 k2 c1 c2 CK HGX hgi HR
        go_wp2
        go_roundw
        case rel => exact ⟨p, h, by omega, by omega, rfl, by first | rfl | go_num, HI2, HR3⟩
        case measure => simp [intOf]; omega
    · obtain rfl : p = q := by omega
      have HF := Kp.mk (show (R.take p ++ x :: R.drop p).Perm ([x] ++ R) ∧ Up key (R.take p ++ x :: R.drop p) from ins_at HU.out hq (by have := HI.out.1; omega) HI.out.2)
      clear HI
      go_wp2
      obtain ⟨w2, rfl⟩ : ∃ w2 : World, w2 = wr := ⟨_, rfl⟩
      go_loopw [13] (fun i wr => ∃ (s : Nat), s ≤ p ∧ i = .int .i64 ((a + s : Nat) : Int) ∧ Kp (Rw B g c n mm w0 wr (P ++ (R.take s ++ x :: R.drop s) ++ S))) (fun i _ => m + p - (intOf i).toNat)
      case atStart => exact ⟨0, Nat.zero_le _, rfl, by simpa using HR⟩
      case round =>
        clear HR
        obtain ⟨s, hs, rfl, HR⟩ := hrel
        by_cases hlt2 : s < p
        · have hsR : s < R.length := by omega
          obtain ⟨y, hy⟩ : ∃ y, y = R[s] := ⟨_, rfl⟩
          have hd : R.drop s = y :: R.drop (s + 1) := by rw [hy]; exact (List.getElem_cons_drop ..).symm
          have ht : R.take (s + 1) = R.take s ++ [y] := by rw [hy]; exact List.take_succ_eq_append_getElem hsR
          have hlt' : (R.take s).length = s := by rw [List.length_take]; omega
          obtain ⟨ha, hm, hb⟩ := HE.out
          have HR2 := Kp.mk (show Rw B g c n mm w0 wr ((P ++ R.take s) ++ x :: ([] ++ y :: (R.drop (s + 1) ++ S))) from by
            have := HR.out
            rw [hd] at this
            simpa using this)
          obtain ⟨t1, t2⟩ := two_at (P ++ R.take s) [] (R.drop (s + 1) ++ S) x y (a + s) (a + s + 1) (by rw [List.length_append]; omega) (by rw [List.length_append]; simp; omega)
          have hsw := swap_two (P ++ R.take s) [] (R.drop (s + 1) ++ S) x y (a + s) (a + s + 1) (by rw [List.length_append]; omega) (by rw [List.length_append]; simp; omega)
          have hin : a + s + 1 < n := by omega
          have HR4 := Kp.mk (HR2.out.swap (a := a + s) (b := a + s + 1) (by omega) hin t1 t2)
          rw [hsw] at HR4
          have HR5 := Kp.mk (show Rw B g c n mm w0 _ (P ++ (R.take (s + 1) ++ x :: R.drop (s + 1)) ++ S) from by
            have := HR4.out
            rw [ht]
            simpa using this)
          have c1 := HR2.out.at (a + s) (by omega)
          have c2 := HR2.out.at (a + s + 1) hin
          have f1 := HR2.out.own.frozenAt (a + s)
          have f2 := HR2.out.own.frozenAt (a + s + 1)
          rw [t1] at c1
          rw [t2] at c2
          obtain ⟨v2, hv2⟩ := cell?_setCell_some (w := wr) (p := ⟨g, a + s, none⟩) (x := .int .i64 (y : Int)) (q := ⟨g, a + s + 1, none⟩) (v := .int .i64 (y : Int)) c2
          have tl : decide (((a + s : Nat) : Int) < ((m + p : Nat) : Int) - 1) = true := decide_eq_true (by omega)
          have hap : a + s + 1 < m + p := by omega
          clear HR HR2 HR4 hsw t1 t2 hd ht hy ha hm hb
          go_wp2
          go_region
          go_wp2
          go_roundw
          case rel => exact ⟨s + 1, by omega, by go_num, HR5⟩
          case measure => simp [intOf]; omega
        · obtain rfl : s = p := by omega
          obtain ⟨ha, hm, hb⟩ := HE.out
          have hap : ¬ ((a + s : Nat) : Int) < ((m + s : Nat) : Int) - 1 := by omega
          have tl : decide (((a + s : Nat) : Int) < ((m + s : Nat) : Int) - 1) = false := decide_eq_false hap
          go_wp2
          (try simp only [Exit.inBlock, Exit.then])
          refine bodyPost_ret (results_none rfl _ _ _) rfl ?_
          exact ⟨rfl, R.take s ++ x :: R.drop s, HF, by rw [← List.append_assoc]; exact HR⟩

end Go.Proofs.Ytlmdlholmlbcbaa
