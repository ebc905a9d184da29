/- sort.SearchInts. -/
import Derived.Test.YteeeikninigeoaaDoorSrch
namespace Go.Proofs.YteeeikninigeoaaDoor
set_option linter.unusedVariables false
open Go.RowKit

set_option maxRecDepth 100000 in
set_option maxHeartbeats 1000000 in
theorem sitest_any (l : List Int) (n p q k : Nat) (x : Int) (a : Option Addr) (cap : Nat) (W : World) (h : SlI W a cap l) (hl : l.length = n) (hp : W.cell? ⟨p, 0, none⟩ = some (.slice a n cap)) (hq : W.cell? ⟨q, 0, none⟩ = some (.int .i64 x)) (hk : k < n) :
    Calls Tryd.prog 104 #[.int .i64 k, .pointer (some ⟨p, 0, none⟩), .pointer (some ⟨q, 0, none⟩)] W fun e w' => e = .returned (.bool (decide (x ≤ l.getD k 0))) ∧ Drew W w' := by
  obtain ⟨b, off, rfl, c⟩ := h.at k (by omega)
  have HV := Kp.mk (getD_at l 0 (show k < l.length by omega))
  generalize l[k] = y at *
  have hkn : (k : Int) < n := by omega
  clear h hl
  go_enter Tryd.func104, Tryd.ntmps104
  go_wp2
  go_quiet (fail)
  go_wp2
  go_ret
  exact ⟨by rw [HV.out]; rfl, ⟨_, rfl⟩⟩

set_option maxRecDepth 100000 in
set_option maxHeartbeats 1000000 in
theorem srchInts_any (a : Option Addr) (cap n : Nat) (l : List Int) (x : Int) (w : World) (h : SlI w a cap l) (hl : l.length = n) (hn : n ≤ 100000) (hs : ∀ i j, i ≤ j → j < n → l.getD i 0 ≤ l.getD j 0) :
    Calls Tryd.prog 78 #[.slice a n cap, .int .i64 x] w fun e w' => ∃ k : Nat, e = .returned (.int .i64 k) ∧ k ≤ n ∧ Kp (∀ i, i < k → l.getD i 0 < x) ∧ Kp (k < n → x ≤ l.getD k 0) ∧ Kp (Below w.heap.size w w') := by
  have HF := Kp.mk (fun (W : World) (hb : Below w.heap.size w W) (p q : Nat) (hp : W.cell? ⟨p, 0, none⟩ = some (.slice a n cap)) (hq : W.cell? ⟨q, 0, none⟩ = some (.int .i64 x)) =>
    search_any 104 #[.pointer (some ⟨p, 0, none⟩), .pointer (some ⟨q, 0, none⟩)] (fun k => decide (x ≤ l.getD k 0)) n (enters_of Tryd.func104 (by kernel_rfl) rfl) W (by omega)
      (fun W2 hd k hk => sitest_any l n p q k x a cap W2 ((h.below hb).below (hd.below _)) hl ((hd.cell _).trans hp) ((hd.cell _).trans hq) hk)
      (fun i j hij hj hi => by
        have := hs i j hij hj
        rw [decide_eq_true_eq] at hi ⊢
        omega))
  clear h hl hs
  go_enter Tryd.func78, Tryd.ntmps78
  go_wp2_with fail
  have hb1 := below_alloc (Nat.le_refl w.heap.size) (.cells #[.slice a n cap] 22)
  have hb2 := below_then_alloc hb1 (.cells #[.int .i64 x] 3)
  have hp := ((Box.new w #[.slice a n cap] 22).alloc (.cells #[.int .i64 x] 3)).cell 0 rfl
  have hq := (Box.new (w.alloc (.cells #[.slice a n cap] 22)) #[.int .i64 x] 3).cell 0 rfl
  rw [alloc_size] at hq
  refine (HF.out _ hb2 _ _ hp hq).mono ?_
  rintro e w1 ⟨k, rfl, hk, h1, h2, hd⟩
  have H1 := Kp.mk (show ∀ i, i < k → l.getD i 0 < x from fun i hi => by have := h1 i hi; rw [decide_eq_false_iff_not] at this; omega)
  have H2 := Kp.mk (show k < n → x ≤ l.getD k 0 from fun h => by have := h2 h; rwa [decide_eq_true_eq] at this)
  have HB := Kp.mk (hb2.trans (hd.below _))
  clear hb1 hb2 hp hq h1 h2 hd HF
  go_wp2
  go_ret
  exact ⟨k, rfl, hk, H1, H2, HB⟩

end Go.Proofs.YteeeikninigeoaaDoor
