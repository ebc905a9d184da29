/- Package grid: below, Count. -/
import Derived.Test.YtepcmpcnkmfpcaaGrdD
namespace Go.Proofs.Ytepcmpcnkmfpcaa
set_option linter.unusedVariables false
open Go.RowKit

set_option maxRecDepth 100000 in
set_option maxHeartbeats 2000000 in
theorem beltest_any (bq b2 b3 g k n : Nat) (y : Int) (at' : Bool) (a : Option Addr) (cap : Nat) (L : List Pt) (oa : Option Addr) (oc : Nat) (O : List Nat) (va : Option Addr) (v vc : Nat) (V : List Int) (wa : Option Addr) (wc : Nat) (R : List Nat) (W : World)
    (h : GIdx W g a cap n L oa oc O va v vc V wa wc R) (hv : v ≤ 1000) (c1 : W.cell? ⟨bq, 0, none⟩ = some (.pointer (some ⟨g, 0, none⟩))) (c2 : W.cell? ⟨b2, 0, none⟩ = some (.int .i64 y)) (c3 : W.cell? ⟨b3, 0, none⟩ = some (.bool at')) (hk : k < v) :
    Calls Try.prog 78 #[.int .i64 k, .pointer (some ⟨bq, 0, none⟩), .pointer (some ⟨b2, 0, none⟩), .pointer (some ⟨b3, 0, none⟩)] W fun e w' => e = .returned (.bool (past y at' (V.getD k 0))) ∧ Drew W w' := by
  have hvl := h.vlen
  obtain ⟨ob, oo, rfl, co⟩ := h.vals.at k (by omega)
  rw [← getD_at V 0 (by omega)] at co
  have g2 := h.bx.cell 2 rfl
  generalize V.getD k 0 = x at *
  have hkz : (k : Int) < v := by omega
  have hor : (decide (y < x) = true ∧ Kp (past y at' x = true)) ∨ (decide (y < x) = false ∧ at' = true ∧ Kp (past y at' x = false)) ∨ (decide (y < x) = false ∧ at' = false ∧ (x == y) = true ∧ Kp (past y at' x = true)) ∨ (decide (y < x) = false ∧ at' = false ∧ (x == y) = false ∧ Kp (past y at' x = false)) := by
    unfold past
    by_cases h1 : y < x
    · exact .inl ⟨decide_eq_true h1, ⟨by simp [h1]⟩⟩
    · cases at' with
      | true => exact .inr (.inl ⟨decide_eq_false h1, rfl, ⟨by simp [h1]⟩⟩)
      | false =>
        by_cases h2 : x = y
        · exact .inr (.inr (.inl ⟨decide_eq_false h1, rfl, by simpa using h2, ⟨by simp [h2]⟩⟩))
        · exact .inr (.inr (.inr ⟨decide_eq_false h1, rfl, by simpa using h2, ⟨by simp [h1, h2]⟩⟩))
  generalize past y at' x = r at *
  clear h hvl
  rcases hor with ⟨t1, HE⟩ | ⟨t1, rfl, HE⟩ | ⟨t1, rfl, t2, HE⟩ | ⟨t1, rfl, t2, HE⟩
  all_goals
    rw [HE.out]
    clear HE
    go_enter Try.func78, Try.ntmps78
    go_wp2
    go_quiet (fail)
    go_wp2
    go_ret
    exact ⟨rfl, nq, rfl⟩

section
variable {g n : Nat} {a : Option Addr} {cap : Nat} {L : List Pt} {oa : Option Addr} {oc : Nat} {O : List Nat} {va : Option Addr} {v vc : Nat} {V : List Int} {wa : Option Addr} {wc : Nat} {R : List Nat}

set_option maxRecDepth 100000 in
set_option maxHeartbeats 2000000 in
theorem gbelow_any (p q : Nat) (y : Int) (at' : Bool) (w : World) (h : GIdx w g a cap n L oa oc O va v vc V wa wc R) (hf : GFacts n L O V R) (hn : n ≤ 150) (hpq : p ≤ q) (hq : q ≤ n) :
    Calls Try.prog 42 #[.pointer (some ⟨g, 0, none⟩), .int .i64 p, .int .i64 q, .int .i64 y, .bool at'] w fun e w' => e = .returned (.int .i64 (cntY L O p q y at' : Nat)) ∧ Below w.heap.size w w' := by
  have eg : ∀ args w, (callFunc 78 args).run Try.prog w = .ok (.enter 78 args) w := enters_of Try.func78 (by kernel_rfl) rfl
  obtain ⟨w2, hw2⟩ : ∃ w2, w2 = ((w.alloc (.cells #[.pointer (some ⟨g, 0, none⟩)] 77)).alloc (.cells #[.int .i64 y] 3)).alloc (.cells #[.bool at'] 4) := ⟨_, rfl⟩
  have HB := Kp.mk (show Below w.heap.size w w2 from by rw [hw2]; exact below_then_alloc (below_then_alloc (below_alloc (Nat.le_refl _) _) _) _)
  have H2 := Kp.mk (h.below HB.out)
  have c1 : w2.cell? ⟨w.heap.size, 0, none⟩ = some (.pointer (some ⟨g, 0, none⟩)) := by rw [hw2]; exact (((Box.new w #[.pointer (some ⟨g, 0, none⟩)] 77).alloc _).alloc _).cell 0 rfl
  have c2 : w2.cell? ⟨w.heap.size + 1, 0, none⟩ = some (.int .i64 y) := by
    have := ((Box.new (w.alloc (.cells #[.pointer (some ⟨g, 0, none⟩)] 77)) #[.int .i64 y] 3).alloc (.cells #[.bool at'] 4)).cell 0 rfl
    rw [alloc_size] at this
    rw [hw2]; exact this
  have c3 : w2.cell? ⟨w.heap.size + 1 + 1, 0, none⟩ = some (.bool at') := by
    have := (Box.new ((w.alloc (.cells #[.pointer (some ⟨g, 0, none⟩)] 77)).alloc (.cells #[.int .i64 y] 3)) #[.bool at'] 4).cell 0 rfl
    rw [alloc_size, alloc_size] at this
    rw [hw2]; exact this
  have g2 := H2.out.bx.cell 2 rfl
  have hvl := H2.out.vlen
  have hvn := hf.vl
  have CS := Kp.mk (search_any 78 #[.pointer (some ⟨w.heap.size, 0, none⟩), .pointer (some ⟨w.heap.size + 1, 0, none⟩), .pointer (some ⟨w.heap.size + 1 + 1, 0, none⟩)] (fun k => past y at' (V.getD k 0)) v eg w2 (by omega)
    (fun W hd k hk => beltest_any w.heap.size (w.heap.size + 1) (w.heap.size + 1 + 1) g k n y at' a cap L oa oc O va v vc V wa wc R W (H2.out.below (hd.below _)) (by omega) ((hd.cell _).trans c1) ((hd.cell _).trans c2) ((hd.cell _).trans c3) hk)
    (fun i j hij hj hi => past_mono (up_le hf.up hij (by omega)) hi))
  have HE0 := Kp.mk (show ∀ k, k ≤ v → (∀ i, i < k → past y at' (V.getD i 0) = false) → (k < v → past y at' (V.getD k 0) = true) → cntBelow (sg R p q) k = cntY L O p q y at' from fun k hk h1 h2 => by
    rw [← below_eq hf p q hq y at', hvl]
    congr 1
    exact (fstIdx_uniq _ _ _ hk h1 h2).symm)
  have HF := Kp.mk hf
  have hw3 := hw2.symm
  have hvn' : v ≤ n := by omega
  obtain ⟨r, hr⟩ : ∃ r, cntY L O p q y at' = r := ⟨_, rfl⟩
  rw [hr] at HE0 ⊢
  clear h hf c2 c3 hw2 hvl hvn hr
  go_enter Try.func42, Try.ntmps42
  go_wp2_with fail
  refine CS.out.mono ?_
  rintro e w3 ⟨k, rfl, hk, h1, h2, hd⟩
  have HE := Kp.mk (HE0.out k hk h1 h2)
  have H3 := Kp.mk (H2.out.below (hd.below _))
  have d1 := (hd.cell ⟨w.heap.size, 0, none⟩).trans c1
  have g3 := H3.out.bx.cell 3 rfl
  have HB3 := Kp.mk (below_step HB.out (hd.below _))
  have CW := Kp.mk (wBelow_any wa wc 8 n k p q R w3 H3.out.wave HF.out.rl (by omega) (by omega) (by omega) hpq hq (fun z hz => by
    obtain ⟨i, hi, rfl⟩ := List.getElem_of_mem hz
    have := HF.out.rk i (by rw [← HF.out.rl]; exact hi)
    rw [getD_at R 0 hi] at this
    have := HF.out.vl
    omega) (by omega))
  rw [HE.out] at CW
  clear h1 h2 hd CS HE0 HE c1 g2 hw3
  go_wp2_with fail
  refine CW.out.mono ?_
  rintro e w4 ⟨rfl, hb4⟩
  have HB4 := Kp.mk (below_step HB3.out hb4)
  clear hb4 CW
  go_wp2
  go_ret
  exact ⟨rfl, HB4.out⟩

end
end Go.Proofs.Ytepcmpcnkmfpcaa
