/- Library functions walked: cmp.Less, slices.IsSorted, slices.Equal (words), sort.SearchInts. -/
import Derived.Test.YtjicgndahpffbaaSrch
import Derived.Test.YtjicgndahpffbaaWord
namespace Go.Proofs.Ytjicgndahpffbaa
set_option linter.unusedVariables false
open Go.RowKit

set_option maxHeartbeats 400000 in
theorem isNaN_any (x : Int) (w : World) : Calls Try.prog 121 #[.int .i64 x] w fun e w' => e = .returned (.bool false) ∧ w = w' := by
  go_enter Try.func121, Try.ntmps121
  go_wp2
  go_ret
  exact ⟨by simp, rfl⟩

set_option maxHeartbeats 400000 in
theorem less_any (x y : Int) (w : World) : Calls Try.prog 89 #[.int .i64 x, .int .i64 y] w fun e w' => e = .returned (.bool (decide (x < y))) ∧ w = w' := by
  have C := Kp.mk (isNaN_any x)
  go_enter Try.func89, Try.ntmps89
  go_wp2_with fail
  refine (C.out _).mono ?_
  rintro e w' ⟨rfl, rfl⟩
  go_wp2
  go_ret
  exact ⟨rfl, rfl⟩

set_option maxRecDepth 100000 in
set_option maxHeartbeats 1000000 in
theorem isSorted_any (a : Option Addr) (cap n : Nat) (l : List Int) (w : World) (h : SlI w a cap l) (hl : l.length = n) (hn : n ≤ 1000000) (hs : ∀ i, i + 1 < n → l.getD i 0 ≤ l.getD (i + 1) 0) :
    Calls Try.prog 57 #[.slice a n cap] w fun e w' => e = .returned (.bool true) ∧ Below w.heap.size w w' := by
  have H := Kp.mk h
  have HL := Kp.mk hl
  have HS := Kp.mk hs
  have C := Kp.mk less_any
  have e0 : IntKind.i64.wrap ((n : Int) - 1) = (n : Int) - 1 := IntWalk.i64_in _ (by omega)
  clear h hl hs
  go_enter Try.func57, Try.ntmps57
  go_wp2
  go_loopw [3] (fun i wr => ∃ k : Int, -1 ≤ k ∧ k < n ∧ i = .int .i64 k ∧ Kp (Below w.heap.size w wr)) (fun i _ => (intOf i).toNat)
  case atStart => exact ⟨(n : Int) - 1, by omega, by omega, rfl, ⟨Below.refl _ _⟩⟩
  case round =>
    obtain ⟨k, hk, hk2, rfl, HB⟩ := hrel
    by_cases hlt : 0 < k
    · obtain ⟨q, rfl⟩ : ∃ q : Nat, k = (q : Int) := ⟨k.toNat, by omega⟩
      obtain ⟨j, hj⟩ : ∃ j, j = q - 1 := ⟨_, rfl⟩
      have HW := Kp.mk (H.out.below HB.out)
      obtain ⟨b, off, rfl, c1⟩ := HW.out.at q (by rw [HL.out]; omega)
      obtain ⟨_, _, e2, c0⟩ := HW.out.at j (by rw [HL.out]; omega)
      simp only [Option.some.injEq, Addr.mk.injEq, and_true] at e2
      obtain ⟨rfl, rfl⟩ := e2
      have ho := HS.out j (by omega)
      rw [show j + 1 = q by omega, getD_at _ _ (by rw [HL.out]; omega), getD_at _ _ (by rw [HL.out]; omega)] at ho
      generalize l[j]'(by rw [HL.out]; omega) = x0 at *
      generalize l[q]'(by rw [HL.out]; omega) = x1 at *
      have t1 : decide (x1 < x0) = false := decide_eq_false (by omega)
      have e1 : IntKind.i64.wrap ((q : Int) - 1) = j := by rw [show (q : Int) - 1 = j by omega]; exact IntWalk.i64_in _ (by omega)
      have hjn : (j : Int) < n := by omega
      have hqn : q < n := by omega
      have hjn2 : j < n := by omega
      have hq0 : 0 < q := by omega
      have HJ := Kp.mk hj
      clear ho hj
      go_wp2
      go_quiet ((go_at_call 89; exact q_same (by have := C.out x1 x0; rw [t1] at this; exact this _)))
      have HBN := Kp.mk (HB.out.trans (drewN_below (w := wr) nq))
      go_wp2
      go_roundw
      case rel => exact ⟨j, by omega, by omega, by go_num, HBN⟩
      case measure => simp [intOf]; have := HJ.out; omega
    · go_wp2
      go_ret
      exact ⟨rfl, HB.out⟩

set_option maxRecDepth 100000 in
set_option maxHeartbeats 1000000 in
theorem eqWords_same (a b : Option Addr) (c d n : Nat) (l : List Nat) (w : World) (h1 : SlC w a n c 1 (wds l)) (h2 : SlC w b n d 1 (wds l)) (hn : n ≤ 1000000) :
    Calls Try.prog 93 #[.slice a n c, .slice b n d] w fun e w' => e = .returned (.bool true) ∧ Below w.heap.size w w' := by
  have hl := h1.hlen
  rw [wds_length, Nat.mul_one] at hl
  have H1 := Kp.mk h1
  have H2 := Kp.mk h2
  have HL := Kp.mk hl
  clear h1 h2 hl
  go_enter Try.func93, Try.ntmps93
  go_wp2
  go_loopw [13] (fun i wr => ∃ k : Nat, k ≤ n ∧ i = .int .i64 k ∧ Kp (Below w.heap.size w wr)) (fun i _ => n - (intOf i).toNat)
  case atStart => exact ⟨0, Nat.zero_le _, rfl, ⟨Below.refl _ _⟩⟩
  case round =>
    obtain ⟨k, hk, rfl, HB⟩ := hrel
    by_cases hlt : k < n
    · obtain ⟨b1, o1, rfl, c1⟩ := (H1.out.below HB.out).cell k (by rw [wds_length, HL.out]; exact hlt)
      obtain ⟨b2, o2, rfl, c2⟩ := (H2.out.below HB.out).cell k (by rw [wds_length, HL.out]; exact hlt)
      have e : (wds l)[k]'(by rw [wds_length, HL.out]; exact hlt) = .int .u64 ((l[k]'(by rw [HL.out]; exact hlt) : Nat) : Int) := by simp [wds]
      rw [e] at c1 c2
      generalize ((l[k]'(by rw [HL.out]; exact hlt) : Nat) : Int) = x at *
      clear e
      go_wp2
      go_quiet (fail)
      have HBN := Kp.mk (HB.out.trans (drewN_below (w := wr) nq))
      go_wp2
      go_roundw
      case rel => exact ⟨k + 1, by omega, by go_num, HBN⟩
      case measure => simp [intOf]; omega
    · go_wp2
      go_ret
      exact ⟨rfl, HB.out⟩

set_option maxRecDepth 100000 in
set_option maxHeartbeats 1000000 in
theorem sitest_any (l : List Int) (n p q k : Nat) (x : Int) (a : Option Addr) (cap : Nat) (W : World) (h : SlI W a cap l) (hl : l.length = n) (hp : W.cell? ⟨p, 0, none⟩ = some (.slice a n cap)) (hq : W.cell? ⟨q, 0, none⟩ = some (.int .i64 x)) (hk : k < n) :
    Calls Try.prog 96 #[.int .i64 k, .pointer (some ⟨p, 0, none⟩), .pointer (some ⟨q, 0, none⟩)] W fun e w' => e = .returned (.bool (decide (x ≤ l.getD k 0))) ∧ Drew W w' := by
  obtain ⟨b, off, rfl, c⟩ := h.at k (by omega)
  have HV := Kp.mk (getD_at l 0 (show k < l.length by omega))
  generalize l[k] = y at *
  have hkn : (k : Int) < n := by omega
  clear h hl
  go_enter Try.func96, Try.ntmps96
  go_wp2
  go_quiet (fail)
  go_wp2
  go_ret
  exact ⟨by rw [HV.out]; rfl, ⟨_, rfl⟩⟩

set_option maxRecDepth 100000 in
set_option maxHeartbeats 1000000 in
theorem srchInts_any (a : Option Addr) (cap n : Nat) (l : List Int) (x : Int) (w : World) (h : SlI w a cap l) (hl : l.length = n) (hn : n ≤ 100000) (hs : ∀ i j, i ≤ j → j < n → l.getD i 0 ≤ l.getD j 0) :
    Calls Try.prog 62 #[.slice a n cap, .int .i64 x] w fun e w' => ∃ k : Nat, e = .returned (.int .i64 k) ∧ k ≤ n ∧ Kp (∀ i, i < k → l.getD i 0 < x) ∧ Kp (k < n → x ≤ l.getD k 0) ∧ Kp (Below w.heap.size w w') := by
  have HF := Kp.mk (fun (W : World) (hb : Below w.heap.size w W) (p q : Nat) (hp : W.cell? ⟨p, 0, none⟩ = some (.slice a n cap)) (hq : W.cell? ⟨q, 0, none⟩ = some (.int .i64 x)) =>
    search_any 96 #[.pointer (some ⟨p, 0, none⟩), .pointer (some ⟨q, 0, none⟩)] (fun k => decide (x ≤ l.getD k 0)) n (enters_of Try.func96 (by kernel_rfl) rfl) W (by omega)
      (fun W2 hd k hk => sitest_any l n p q k x a cap W2 ((h.below hb).below (hd.below _)) hl ((hd.cell _).trans hp) ((hd.cell _).trans hq) hk)
      (fun i j hij hj hi => by
        have := hs i j hij hj
        rw [decide_eq_true_eq] at hi ⊢
        omega))
  clear h hl hs
  go_enter Try.func62, Try.ntmps62
  go_wp2_with fail
  have hb1 := below_alloc (Nat.le_refl w.heap.size) (.cells #[.slice a n cap] 22)
  have hb2 := below_then_alloc hb1 (.cells #[.int .i64 x] 3)
  have hp := ((Box.new w #[.slice a n cap] 22).alloc (.cells #[.int .i64 x] 3)).cell 0 rfl
  have hq := (Box.new (w.alloc (.cells #[.slice a n cap] 22)) #[.int .i64 x] 3).cell 0 rfl
  rw [alloc_size] at hq
  refine (HF.out _ hb2 _ _ hp hq).mono ?_
  rintro e w1 ⟨k, rfl, hk, h1, h2, hd⟩
  have H1 := Kp.mk (show ∀ i, i < k → l.getD i 0 < x from fun i hi => by have := h1 i hi; rw [decide_eq_false_iff_not] at this; omega)
  have H2 := Kp.mk (show k < n → x ≤ l.getD k 0 from fun h => by have := h2 h; rwa [decide_eq_true_eq] at this)
  have HB := Kp.mk (hb2.trans (hd.below _))
  clear hb1 hb2 hp hq h1 h2 hd HF
  go_wp2
  go_ret
  exact ⟨k, rfl, hk, H1, H2, HB⟩

end Go.Proofs.Ytjicgndahpffbaa
