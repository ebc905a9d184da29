/- Merging in place: the walk of insertionSort, by a comparison of keys. -/
import Derived.Test.YtlmdlholmlbcbaaSmW
import Derived.Test.YtlmdlholmlbcbaaCmpI
import Derived.Shelf.Abstract
import Derived.StillTailTactics
namespace Go.Proofs.Ytlmdlholmlbcbaa
set_option linter.unusedVariables false
open Go.RowKit

/-- The comparison of two places by their keys, wherever but the row (block g) all is as it was. -/
def CmpK (f : FuncId) (cb : Array Value) (key : Nat → Int) (g m : Nat) (w0 : World) : Prop :=
  ∀ W, w0.grownBy W (some g) → ∀ x y : Nat, x < m → y < m → Calls Try.prog f (#[.int .i64 x, .int .i64 y] ++ cb) W fun e w' => e = .returned (.int .i64 (cmpI (key x) (key y))) ∧ Below W.heap.size W w'
theorem cmpI_lt (a b : Int) : cmpI a b < 0 ↔ a < b := by
  unfold cmpI
  repeat' split
  all_goals omega
theorem CmpK.grown {f : FuncId} {cb : Array Value} {key : Nat → Int} {g m : Nat} {w0 w1 : World} (h : CmpK f cb key g m w0) (hg : w0.grownBy w1 (some g)) : CmpK f cb key g m w1 := fun W hW x y hx hy => h W (grown_trans hg hW) x y hx hy
/-- A row, and what was changed till here. -/
structure Rw (B g c n m : Nat) (w0 w : World) (X : List Nat) : Prop where
  own : w.ownsRow B 3 1 (.slice (some ⟨g, 0, none⟩) n c) n (ints (X.map Int.ofNat))
  gr : w0.grownBy w (some g)
  lt : ∀ x ∈ X, x < m
theorem Rw.len {B g c n m : Nat} {w0 w : World} {X : List Nat} (h : Rw B g c n m w0 w X) : X.length = n := row_len h.own
theorem Rw.cap {B g c n m : Nat} {w0 w : World} {X : List Nat} (h : Rw B g c n m w0 w X) : n ≤ c := by have := (own_slc h.own).le; exact this
theorem Rw.at {B g c n m : Nat} {w0 w : World} {X : List Nat} (h : Rw B g c n m w0 w X) (i : Nat) (hi : i < n) : w.cell? ⟨g, i, none⟩ = some (.int .i64 ((X.getD i 0 : Nat) : Int)) := nat_at h.own h.len i hi
theorem Rw.lt_at {B g c n m : Nat} {w0 w : World} {X : List Nat} (h : Rw B g c n m w0 w X) (i : Nat) (hi : i < n) : X.getD i 0 < m := by
  have hl := h.len
  rw [getD_at _ _ (by omega)]; exact h.lt _ (List.getElem_mem _)
theorem Rw.later {B g c n m : Nat} {w0 w w' : World} {X : List Nat} (h : Rw B g c n m w0 w X) (hb : Below w.heap.size w w') : Rw B g c n m w0 w' X := ⟨own_below h.own hb, grown_trans h.gr (grown_of_below hb), h.lt⟩
theorem Rw.swap {B g c n m a b : Nat} {w0 w : World} {X : List Nat} {x y : Nat} (h : Rw B g c n m w0 w X) (ha : a < n) (hb : b < n) (hx : X.getD a 0 = x) (hy : X.getD b 0 = y) : Rw B g c n m w0 ((w.setCell ⟨g, a, none⟩ (.int .i64 (y : Int))).setCell ⟨g, b, none⟩ (.int .i64 (x : Int))).drew ((X.set a y).set b x) := by
  refine ⟨row_swap y x h.own, grown_trans h.gr (grown_swap w g a b _ _), fun z hz => ?_⟩
  rcases List.mem_or_eq_of_mem_set hz with hz | rfl
  · rcases List.mem_or_eq_of_mem_set hz with hz | rfl
    · exact h.lt z hz
    · rw [← hy]; exact h.lt_at b hb
  · rw [← hx]; exact h.lt_at a ha

set_option maxRecDepth 100000 in
set_option maxHeartbeats 8000000 in
theorem insSort_any (f : FuncId) (cb : Array Value) (eg : ∀ args w, (callFunc f args).run Try.prog w = .ok (.enter f args) w) (key : Nat → Int) (B g c n mm : Nat) (P L S : List Nat) (a b : Nat) (w0 w : World) (hc : CmpK f cb key g mm w0)
    (h : Rw B g c n mm w0 w (P ++ L ++ S)) (ha : P.length = a) (hb : a + L.length = b) (hn : n ≤ 1000000) :
    Calls Try.prog 141 #[.slice (some ⟨g, 0, none⟩) n c, .int .i64 a, .int .i64 b, .func (.func f) #[] cb] w fun e w' => e = .returned (.tuple #[]) ∧ ∃ M, Kp (M.Perm L ∧ Up key M) ∧ Kp (Rw B g c n mm w0 w' (P ++ M ++ S)) := by
  have H := Kp.mk h
  have HC := Kp.mk hc
  have hbn : b ≤ n := by have := h.len; simp only [List.length_append] at this; omega
  have hcap := h.cap
  have HE := Kp.mk (And.intro ha hb)
  clear h hc ha hb
  by_cases h0 : L.length = 0
  · have hL : L = [] := List.length_eq_zero_iff.1 h0
    subst hL
    have hba : b = a := by have := HE.out.2; simp at this; omega
    subst hba
    go_enter Try.func141, Try.ntmps141
    go_wp2
    refine wp_loop_rounds 1 ?_
    rw [rounds_succ]
    go_wp2
    go_end0
    exact ⟨rfl, [], ⟨List.Perm.refl _, up_nil key⟩, H⟩
  · obtain ⟨ha, hb⟩ := HE.out
    go_enter Try.func141, Try.ntmps141
    go_wp2
    go_loopw [8] (fun i wr => ∃ (k : Nat) (M : List Nat), 1 ≤ k ∧ k ≤ L.length ∧ i = .int .i64 ((a + k : Nat) : Int) ∧ Kp (M.Perm (L.take k) ∧ Up key M) ∧ Kp (Rw B g c n mm w0 wr (P ++ M ++ (L.drop k ++ S)))) (fun i _ => b - (intOf i).toNat)
    case atStart =>
      obtain ⟨x, l, rfl⟩ : ∃ x l, L = x :: l := by
        cases L with
        | nil => exact absurd rfl h0
        | cons x l => exact ⟨x, l, rfl⟩
      exact ⟨1, [x], Nat.le_refl _, by simp, rfl, ⟨List.Perm.refl _, up_one key x⟩, by simpa using H⟩
    case round =>
      clear H
      obtain ⟨k, M, hk1, hk, rfl, HM, HR⟩ := hrel
      by_cases hlt : k < L.length
      · have hkb : a + k < b := by omega
        have hml : M.length = k := by have := HM.out.1.length_eq; rw [List.length_take] at this; omega
        obtain ⟨x, hx⟩ : ∃ x, x = L[k] := ⟨_, rfl⟩
        have hdr : L.drop k = x :: L.drop (k + 1) := by rw [hx]; exact (List.getElem_cons_drop ..).symm
        have HR1 := Kp.mk (show Rw B g c n mm w0 wr (P ++ M ++ x :: ([] ++ (L.drop (k + 1) ++ S))) from by
          have := HR.out
          rw [hdr] at this
          simpa using this)
        have HTK := Kp.mk (show L.take (k + 1) = L.take k ++ [x] from by rw [List.take_succ_eq_append_getElem hlt, hx])
        clear hdr hx HR
        obtain ⟨w2, rfl⟩ : ∃ w2 : World, w2 = wr := ⟨_, rfl⟩
        go_wp2
        go_loopw [9] (fun i wr => ∃ (q : Nat) (M1 M2 : List Nat), q ≤ k ∧ i = .int .i64 ((a + q : Nat) : Int) ∧ M1.length = q ∧ Kp ((M1 ++ M2).Perm (L.take k) ∧ Up key (M1 ++ M2) ∧ ∀ y ∈ M2, key x ≤ key y) ∧ Kp (Rw B g c n mm w0 wr (P ++ M1 ++ x :: (M2 ++ (L.drop (k + 1) ++ S))))) (fun i _ => (intOf i).toNat)
        case atStart => exact ⟨k, M, [], Nat.le_refl _, rfl, hml, ⟨by simpa using HM.out.1, by simpa using HM.out.2, by simp⟩, HR1⟩
        case round =>
          clear HR1 HM hml
          obtain ⟨q, M1, M2, hq, rfl, hM1, HI, HR⟩ := hrel
          by_cases hq0 : q = 0
          · subst hq0
            have tq : decide ((a : Int) < ((a + 0 : Nat) : Int)) = false := decide_eq_false (by omega)
            have hM : M1 = [] := List.length_eq_zero_iff.1 hM1
            subst hM
            have HN := Kp.mk (show (x :: M2).Perm (L.take (k + 1)) ∧ Up key (x :: M2) from by
              rw [HTK.out]
              refine ⟨((List.Perm.cons x (by simpa using HI.out.1)).trans (List.perm_append_comm (l₁ := [x]))), ?_⟩
              have := ins_up (M1 := []) HI.out.2.1 (fun i hi => by simp at hi) HI.out.2.2
              simpa using this)
            have HR2 := Kp.mk (show Rw B g c n mm w0 wr (P ++ (x :: M2) ++ (L.drop (k + 1) ++ S)) from by simpa using HR.out)
            clear HI HR
            go_wp2
            refine region_later (by kernel_rfl) (by kernel_rfl) ?_
            iterate 17 (go_big_quiet_step (fail))
            refine wpQuiet_nil ?_
            rintro w' ⟨xl, rfl⟩
            have HR3 := Kp.mk (HR2.out.later xl.le)
            clear HR2
            go_wp2
            go_roundw
            case rel => exact ⟨k + 1, x :: M2, by omega, by omega, by go_num, HN, HR3⟩
            case measure => simp [intOf]; omega
          · obtain ⟨i, hi⟩ : ∃ i, q = i + 1 := ⟨q - 1, by omega⟩
            subst hi
            obtain ⟨y, hy⟩ : ∃ y, y = M1.getD i 0 := ⟨_, rfl⟩
            have hsp := last_split M1 i hM1
            rw [← hy] at hsp
            clear hy
            have hl1 : (M1.take i).length = i := by rw [List.length_take]; omega
            generalize M1.take i = N1 at *
            subst hsp
            have HR2 := Kp.mk (show Rw B g c n mm w0 wr ((P ++ N1) ++ y :: ([] ++ x :: (M2 ++ (L.drop (k + 1) ++ S)))) from by simpa using HR.out)
            obtain ⟨t1, t2⟩ := two_at (P ++ N1) [] (M2 ++ (L.drop (k + 1) ++ S)) y x (a + i) (a + (i + 1)) (by rw [List.length_append]; omega) (by rw [List.length_append]; simp; omega)
            have hsw := swap_two (P ++ N1) [] (M2 ++ (L.drop (k + 1) ++ S)) y x (a + i) (a + (i + 1)) (by rw [List.length_append]; omega) (by rw [List.length_append]; simp; omega)
            have hin : a + (i + 1) < n := by omega
            have c1 := HR2.out.at (a + i) (by omega)
            have c2 := HR2.out.at (a + (i + 1)) hin
            have f1 := HR2.out.own.frozenAt (a + i)
            have f2 := HR2.out.own.frozenAt (a + (i + 1))
            have lx := HR2.out.lt_at (a + (i + 1)) hin
            have ly := HR2.out.lt_at (a + i) (by omega)
            rw [t1] at c1 ly
            rw [t2] at c2 lx
            have HSW := Kp.mk (show ((((P ++ N1) ++ y :: ([] ++ x :: (M2 ++ (L.drop (k + 1) ++ S)))).set (a + (i + 1)) y).set (a + i) x) = P ++ N1 ++ x :: ((y :: M2) ++ (L.drop (k + 1) ++ S)) from by
              rw [List.set_comm _ _ (by omega), hsw]; simp)
            have HT := Kp.mk (And.intro t2 t1)
            have CK := Kp.mk (fun (W : World) (hW : w0.grownBy W (some g)) => HC.out W hW x y lx ly)
            have tq : decide ((a : Int) < ((a + (i + 1) : Nat) : Int)) = true := decide_eq_true (by omega)
            have tq' : decide ((a : Int) < (a : Int) + ((i : Int) + 1)) = true := decide_eq_true (by omega)
            have hgi : w0.grownBy wr (some g) := HR2.out.gr
            have HGX := Kp.mk (fun (X : Later wr) => grown_trans hgi (grown_of_below (r := some g) X.le))
            have l1 := later_cell c1
            have l2 := later_cell c2
            have HL1 := Kp.mk hl1
            have HQ := Kp.mk (And.intro hq (And.intro hlt hkb))
            clear hM1 hl1 h0 ha hb
            by_cases hxy : key x < key y
            · have tc : decide (cmpI (key x) (key y) < 0) = true := decide_eq_true ((cmpI_lt _ _).2 hxy)
              have HN := Kp.mk (show (N1 ++ (y :: M2)).Perm (L.take k) ∧ Up key (N1 ++ (y :: M2)) ∧ ∀ z ∈ y :: M2, key x ≤ key z from ⟨by simpa using HI.out.1, by simpa using HI.out.2.1, fun z hz => by
                rcases List.mem_cons.1 hz with rfl | hz
                · omega
                · exact HI.out.2.2 z hz⟩)
              clear HI hxy HR t1 t2 hsw
              go_wp2
              refine region_later (by kernel_rfl) (by kernel_rfl) ?_
              iterate 17 (go_big_quiet_step ((go_at_fn f; exact q_later (CK.out _ (HGX.out _)))))
              refine wpQuiet_nil ?_
              rintro w' ⟨xl, rfl⟩
              have HR3 := Kp.mk (HR2.out.later xl.le)
              clear HR2 l1 l2 c1 c2 f1 f2 CK HGX hgi
              generalize xl.val = w5 at *
              have HR4 := Kp.mk (HR3.out.swap (a := a + (i + 1)) (b := a + i) hin (by omega) HT.out.1 HT.out.2)
              rw [HSW.out] at HR4
              have c1 := HR3.out.at (a + i) (by omega)
              have c2 := HR3.out.at (a + (i + 1)) hin
              have f1 := HR3.out.own.frozenAt (a + i)
              have f2 := HR3.out.own.frozenAt (a + (i + 1))
              rw [HT.out.2] at c1
              rw [HT.out.1] at c2
              obtain ⟨v2, hv2⟩ := cell?_setCell_some (w := w5) (p := ⟨g, a + (i + 1), none⟩) (x := .int .i64 (y : Int)) (q := ⟨g, a + i, none⟩) (v := .int .i64 (y : Int)) c1
              clear HR3 HSW HT
              go_wp2
              go_region
              go_wp2
              go_roundw
              case rel => exact ⟨i, N1, y :: M2, by omega, by go_num, HL1.out, HN, HR4⟩
              case measure => simp [intOf]; omega
            · have tc : decide (cmpI (key x) (key y) < 0) = false := decide_eq_false (fun h => hxy ((cmpI_lt _ _).1 h))
              have HN := Kp.mk (show (N1 ++ [y] ++ x :: M2).Perm (L.take (k + 1)) ∧ Up key (N1 ++ [y] ++ x :: M2) from by
                rw [HTK.out]
                refine ⟨?_, ins_up HI.out.2.1 (fun j hj => ?_) HI.out.2.2⟩
                · exact (List.perm_middle.trans (List.Perm.cons x HI.out.1)).trans (List.perm_append_comm (l₁ := [x]))
                · have hl1 := HL1.out
                  have hji : j = i := by simp at hj; omega
                  have e : (N1 ++ [y]).getD j 0 = y := by
                    rw [hji, getD_at _ _ (by simp; omega), List.getElem_append_right (by omega)]; simp [hl1]
                  rw [e]; omega)
              have HE2 := Kp.mk (show P ++ N1 ++ y :: ([] ++ x :: (M2 ++ (L.drop (k + 1) ++ S))) = P ++ (N1 ++ [y] ++ x :: M2) ++ (L.drop (k + 1) ++ S) from by simp)
              clear HI hxy HR t1 t2 hsw
              go_wp2
              refine region_later (by kernel_rfl) (by kernel_rfl) ?_
              iterate 17 (go_big_quiet_step ((go_at_fn f; exact q_later (CK.out _ (HGX.out _)))))
              refine wpQuiet_nil ?_
              rintro w' ⟨xl, rfl⟩
              have HR3 := Kp.mk (HR2.out.later xl.le)
              clear HR2 l1 l2 c1 c2 f1 f2 CK HGX hgi
              generalize xl.val = w5 at *
              rw [HE2.out] at HR3
              go_wp2
              go_roundw
              case rel => exact ⟨k + 1, N1 ++ [y] ++ x :: M2, by omega, by omega, by go_num, HN, HR3⟩
              case measure => simp [intOf]; omega
      · obtain rfl : k = L.length := by omega
        have hM := HM.out
        rw [List.take_length] at hM
        have HM2 := Kp.mk hM
        have HR2 := Kp.mk (show Rw B g c n mm w0 wr (P ++ M ++ S) from by simpa using HR.out)
        have hab : ¬ a + L.length < b := by omega
        clear hM HM HR
        go_wp2
        go_end0
        exact ⟨rfl, M, HM2, HR2⟩

end Go.Proofs.Ytlmdlholmlbcbaa
