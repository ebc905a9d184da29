import Derived.Test.YteeeikninigeoaaGreatDoorMg34
import Derived.Test.YteeeikninigeoaaGreatDoorMg5
import Derived.Test.YteeeikninigeoaaGreatDoorMg0
import Derived.Shelf.SlSortCmp.NoneTotal
/- near.Nearest at no point, or where none is asked for: the walks. -/
namespace Go.Proofs.YteeeikninigeoaaGreatDoor
set_option linter.unusedVariables false
open Go.RowKit Go.Sort Go.Lib

set_option maxRecDepth 100000 in
set_option maxHeartbeats 2000000 in
theorem ksort_none (w : World) :
    Calls Tryz.prog 41 #[.slice none 0 0, .func (.func 42) #[] #[]] w fun e w' => e = .returned (.tuple #[]) ∧ w = w' := by
  have HP := Kp.mk (fun lim W => show Calls Tryz.prog 77 #[.slice none 0 0, .int .i64 0, .int .i64 0, .int .i64 lim, .func (.func 42) #[] #[]] W _ from AnyF.pdqsortCmpFunc_none Tryz.pdqFnd none 0 lim _ W)
  have HL := Kp.mk (fun W => show Calls Tryz.prog 78 #[.int .u64 0] W (fun e w' => e = .returned (.int .i64 (Lib.bitLen 0 : Nat)) ∧ w' = W) from Tryz.bits_Len 0 W (by omega) (by omega))
  go_enter Tryz.func41, Tryz.ntmps41
  go_wp2_with (first | (go_at_call 78; refine (HL.out _).mono ?_; rintro e w' ⟨rfl, rfl⟩) | (go_at_call 77; refine (HP.out _ _).mono ?_; rintro e w' ⟨rfl, rfl⟩) | fail)
  go_end0
  exact ⟨rfl, rfl⟩
set_option maxRecDepth 100000 in
set_option maxHeartbeats 2000000 in
theorem grow_none (a : Option Addr) (n cap : Nat) (w : World) :
    Calls Tryz.prog 39 #[.slice a n cap, .slice none 0 0, .int .i64 0] w fun e w' => e = .returned (.pointer none) ∧ Kp (Below w.heap.size w w') := by
  have HB := Kp.mk (below_then_alloc (below_alloc (Nat.le_refl w.heap.size) (.cells #[.slice a n cap] 24)) (.cells #[.int .i64 0] 3))
  go_enter Tryz.func39, Tryz.ntmps39
  go_wp2
  exact bodyPost_ret (v := .pointer none) (by simp [results, Tryz.results39, go_sem]) rfl ⟨rfl, HB⟩
set_option maxRecDepth 100000 in
set_option maxHeartbeats 2000000 in
theorem search_none (a : Option Addr) (n cap : Nat) (x y z : Int) (k : Int) (o : Value) (w : World) :
    Calls Tryz.prog 40 #[.pointer none, .slice a n cap, .agg #[.int .i64 x, .int .i64 y, .int .i64 z], .int .i64 0, .int .i64 k, o] w fun e w' => e = .returned (.tuple #[]) ∧ Kp (Below w.heap.size w w') := by
  have HB := Kp.mk (below_alloc (Nat.le_refl w.heap.size) (.cells #[.int .i64 x, .int .i64 y, .int .i64 z] 63))
  go_enter Tryz.func40, Tryz.ntmps40
  go_wp2
  refine bodyPost_ret (results_none rfl _ _ _) rfl ?_
  exact ⟨rfl, HB⟩
set_option maxRecDepth 100000 in
set_option maxHeartbeats 4000000 in
theorem nearest_none (a : Option Addr) (cap n k : Nat) (x y : Int) (L : List Pt) (w : World) (h : SlF ptL 3 w a n cap L) (hn : n ≤ 150) (hN : ∀ p ∈ L, p.Near) (hx : -1048576 ≤ x ∧ x ≤ 1048576) (hy : -1048576 ≤ y ∧ y ≤ 1048576) (hk : k ≤ 200) (h0 : n = 0 ∨ k = 0) :
    Calls Tryz.prog 21 #[.slice a n cap, .int .i64 x, .int .i64 y, .int .i64 (k : Int)] w fun e w' => e = .returned (.tuple #[.slice none 0 0, .int .i64 0]) ∧ Kp (Below w.heap.size w w') := by
  have C0 := Kp.mk (gcheck_any a cap n L w h (by omega) hN)
  have CX := Kp.mk (fun W => nnear_any x W hx)
  have CY := Kp.mk (fun W => nnear_any y W hy)
  have tk1 : ¬ ((k : Int) < 0) := by omega
  clear h hN hx hy
  by_cases hk0 : k = 0
  · subst hk0
    clear h0 tk1
    go_enter Tryz.func21, Tryz.ntmps21
    go_wp2_with (first
      | (go_at_call 31; refine C0.out.mono ?_; rintro e w1 ⟨rfl, HB1⟩)
      | (go_at_call 38; with_reducible refine (CX.out _).mono ?_; rintro e w' ⟨rfl, rfl⟩)
      | (go_at_call 38; with_reducible refine (CY.out _).mono ?_; rintro e w' ⟨rfl, rfl⟩)
      | fail)
    go_ret2
    exact ⟨rfl, HB1⟩
  · obtain rfl : n = 0 := by omega
    have tk2 : ((k : Int) == 0) = false := by rw [beq_eq_false_iff_ne]; omega
    have tk3 : ¬ k = 0 := hk0
    clear h0
    go_enter Tryz.func21, Tryz.ntmps21
    go_wp2_with (first
      | (go_at_call 31; refine C0.out.mono ?_; rintro e w1 ⟨rfl, HB1⟩)
      | (go_at_call 38; with_reducible refine (CX.out _).mono ?_; rintro e w' ⟨rfl, rfl⟩)
      | (go_at_call 38; with_reducible refine (CY.out _).mono ?_; rintro e w' ⟨rfl, rfl⟩)
      | fail)
    clear CX CY C0
    go_loopw [11, 41] (fun v i wr => i = .int .i64 0 ∧ v = .slice none 0 0 ∧ wr = w1) (fun _ _ _ => 0)
    case atStart => exact ⟨rfl, rfl, rfl⟩
    case round =>
      obtain ⟨rfl, rfl, rfl⟩ := hrel
      have hal := below_alloc (Nat.le_refl wr.heap.size) (.cells #[.slice none 0 0] 92)
      have hx0 := Box.new wr #[.slice none 0 0] 92
      obtain ⟨b0, hb0⟩ : ∃ b0, wr.heap.size = b0 := ⟨_, rfl⟩
      rw [hb0] at hx0
      obtain ⟨w4, hw4⟩ : ∃ w4, wr.alloc (.cells #[.slice none 0 0] 92) = w4 := ⟨_, rfl⟩
      rw [hw4] at hx0 hal
      have HX0 := Kp.mk hx0
      have HAL := Kp.mk hal
      have HW4 := Kp.mk hw4
      have HB0E := Kp.mk hb0
      clear hb0 hw4 hx0 hal
      go_wp2_with fail
      rw [HW4.out]
      simp only [HB0E.out]
      refine (grow_none _ _ _ w4).mono ?_
      rintro e w5 ⟨rfl, HB5⟩
      have HX5 := Kp.mk (HX0.out.below HB5.out)
      have c5 := HX5.out.cell 0 rfl
      go_wp2_with fail
      refine (search_none _ _ _ _ _ _ _ _ w5).mono ?_
      rintro e w6 ⟨rfl, HB6⟩
      have HX6 := Kp.mk (HX5.out.below HB6.out)
      clear c5
      have c6 := HX6.out.cell 0 rfl
      go_wp2_with fail
      refine (ksort_none w6).mono ?_
      rintro e w7 ⟨rfl, rfl⟩
      go_wp2
      go_loopw [14, 62] (fun v i wr => i = .int .i64 0 ∧ v = .slice none 0 0 ∧ wr = w6) (fun _ _ _ => 0)
      case atStart => exact ⟨rfl, rfl, rfl⟩
      case round =>
        obtain ⟨rfl, rfl, rfl⟩ := hrel
        go_wp2
        go_ret2
        exact ⟨rfl, ⟨below_step HB1.out (HAL.out.trans ((below_step HB5.out HB6.out).mono HAL.out.size))⟩⟩

end Go.Proofs.YteeeikninigeoaaGreatDoor

/- Package damasktop: points (a copy), and near.Nearest at any number. -/
namespace Go.Proofs.YteeeikninigeoaaGreatDoor
set_option linter.unusedVariables false
open Go.RowKit
open Hp (IsNear)

theorem topPoints_any (a : Option Addr) (cap n : Nat) (L : List Pt) (w : World) (h : SlF ptL 3 w a n cap L) (hn : n ≤ 10000) :
    Calls Tryz.prog 18 #[.slice a n cap] w fun e w' => ∃ ra rc, e = .returned (.slice ra n rc) ∧ Kp (SlF ptL 3 w' ra n rc L) ∧ Below w.heap.size w w' := by
  have H := Kp.mk h
  clear h
  go_enter Tryz.func18, Tryz.ntmps18
  go_wp2_with (at_builtin; refine wpList_cat tPts rfl _ _ rfl w.heap.size none 0 0 [] rfl (World.ownsRow_nil _ _ _ _) _ _ _ _ rfl H.out (flat_one ptL_one L) ?c1 (by decide) (Nat.le_refl _) ?c2)
  case c1 => omega
  case c2 =>
    intro sa cap' w' hown hbel
    have HS := Kp.mk (show SlF ptL 3 w' sa n cap' L from own_slc (by simpa using hown))
    clear hown
    go_wp2
    go_ret
    exact ⟨sa, cap', rfl, HS, hbel⟩

/-- What near.Nearest answers: a matter of the points. -/
def NearAns (L : List Pt) (x y : Int) (n k : Nat) (out : List Nat) : Prop := (n = 0 ∨ k = 0) ∧ out = [] ∨ (0 < n ∧ 0 < k) ∧ IsNear (fun i => fdist (L.getD i pt0) ⟨x, y, 0⟩) n k out
theorem NearAns.unique {L : List Pt} {x y : Int} {n k : Nat} {a b : List Nat} (ha : NearAns L x y n k a) (hb : NearAns L x y n k b) : a = b := by
  rcases ha with ⟨h1, rfl⟩ | ⟨h1, h2⟩
  · rcases hb with ⟨_, rfl⟩ | ⟨h3, _⟩
    · rfl
    · omega
  · rcases hb with ⟨h3, _⟩ | ⟨_, h4⟩
    · omega
    · exact Hp.near_unique h2 h4
theorem nearest_sure (a : Option Addr) (cap n k : Nat) (x y : Int) (L : List Pt) (w : World) (h : SlF ptL 3 w a n cap L) (hn : n ≤ 150) (hN : ∀ p ∈ L, p.Near) (hx : -1048576 ≤ x ∧ x ≤ 1048576) (hy : -1048576 ≤ y ∧ y ≤ 1048576) (hk : k ≤ 200) :
    Calls Tryz.prog 21 #[.slice a n cap, .int .i64 x, .int .i64 y, .int .i64 (k : Int)] w fun e w' => ∃ oa oc out, e = .returned (.tuple #[.slice oa (min k n) oc, .int .i64 0]) ∧ Kp (NearAns L x y n k out) ∧ Kp (w'.ownsRow w.heap.size 3 1 (.slice oa (min k n) oc) (min k n) (natV out)) ∧ Kp (Below w.heap.size w w') := by
  by_cases h0 : n = 0 ∨ k = 0
  · refine (nearest_none a cap n k x y L w h hn hN hx hy hk h0).mono ?_
    rintro e w' ⟨rfl, hb⟩
    have e0 : min k n = 0 := by omega
    exact ⟨none, 0, [], by rw [e0], ⟨.inl ⟨h0, rfl⟩⟩, ⟨by rw [e0]; exact World.ownsRow_nil _ _ _ _⟩, hb⟩
  · refine (nearest_any a cap n k x y L w h (by omega) hn hN hx hy (by omega) hk).mono ?_
    rintro e w' ⟨oa, oc, out, h1, h2, h3, h4⟩
    exact ⟨oa, oc, out, h1, ⟨.inr ⟨by omega, h2.out⟩⟩, h3, h4⟩

end Go.Proofs.YteeeikninigeoaaGreatDoor

/- copied of the package damasktop. -/
namespace Go.Proofs.YteeeikninigeoaaGreatDoor
set_option linter.unusedVariables false
open Go.RowKit

end Go.Proofs.YteeeikninigeoaaGreatDoor

