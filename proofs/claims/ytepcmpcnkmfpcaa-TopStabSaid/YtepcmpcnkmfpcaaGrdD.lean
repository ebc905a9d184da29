/- Package grid: columns, below, Count. -/
import Derived.Test.YtepcmpcnkmfpcaaGrdC
namespace Go.Proofs.Ytepcmpcnkmfpcaa
set_option linter.unusedVariables false
open Go.RowKit

/-- The first place of an order from which on points stand behind a number (or at it). -/
def colAt (L : List Pt) (O : List Nat) (n : Nat) (from' : Int) (above : Bool) : Nat := fstIdx (fun k => past from' above (L.getD (O.getD k 0) pt0).x) n
section
variable {g n : Nat} {a : Option Addr} {cap : Nat} {L : List Pt} {oa : Option Addr} {oc : Nat} {O : List Nat} {va : Option Addr} {v vc : Nat} {V : List Int} {wa : Option Addr} {wc : Nat} {R : List Nat}

set_option maxRecDepth 100000 in
set_option maxHeartbeats 1000000 in
theorem first_any (bq : Nat) (from' : Int) (above : Bool) (w : World) (h : GIdx w g a cap n L oa oc O va v vc V wa wc R) (hf : GFacts n L O V R) (hn : n ≤ 1000) (c1 : w.cell? ⟨bq, 0, none⟩ = some (.pointer (some ⟨g, 0, none⟩))) :
    Calls Try.prog 75 #[.int .i64 from', .bool above, .pointer (some ⟨bq, 0, none⟩)] w fun e w' => e = .returned (.int .i64 (colAt L O n from' above : Nat)) ∧ Below w.heap.size w w' := by
  have eg : ∀ args w, (callFunc 77 args).run Try.prog w = .ok (.enter 77 args) w := enters_of Try.func77 (by kernel_rfl) rfl
  obtain ⟨w2, hw2⟩ : ∃ w2, w2 = (w.alloc (.cells #[.int .i64 from'] 3)).alloc (.cells #[.bool above] 4) := ⟨_, rfl⟩
  have HB := Kp.mk (show Below w.heap.size w w2 from by rw [hw2]; exact below_then_alloc (below_alloc (Nat.le_refl _) _) _)
  have H2 := Kp.mk (h.below HB.out)
  have c1' : w2.cell? ⟨bq, 0, none⟩ = some (.pointer (some ⟨g, 0, none⟩)) := (HB.out.cell (p := ⟨bq, 0, none⟩) (World.block_lt_of_cell? _ _ c1)).trans c1
  have c2 : w2.cell? ⟨w.heap.size, 0, none⟩ = some (.int .i64 from') := by rw [hw2]; exact ((Box.new w #[.int .i64 from'] 3).alloc _).cell 0 rfl
  have c3 : w2.cell? ⟨w.heap.size + 1, 0, none⟩ = some (.bool above) := by
    have := (Box.new (w.alloc (.cells #[.int .i64 from'] 3)) #[.bool above] 4).cell 0 rfl
    rw [alloc_size] at this
    rw [hw2]; exact this
  have g1 := H2.out.bx.cell 1 rfl
  have CS := Kp.mk (search_any 77 #[.pointer (some ⟨bq, 0, none⟩), .pointer (some ⟨w.heap.size, 0, none⟩), .pointer (some ⟨w.heap.size + 1, 0, none⟩)] (fun k => past from' above (L.getD (O.getD k 0) pt0).x) n eg w2 (by omega)
    (fun W hd k hk => coltest_any bq w.heap.size (w.heap.size + 1) g k n from' above a cap L oa oc O va v vc V wa wc R W (H2.out.below (hd.below _)) hf hn ((hd.cell _).trans c1') ((hd.cell _).trans c2) ((hd.cell _).trans c3) hk)
    (fun i j hij hj hi => past_mono (by
      rcases Nat.eq_or_lt_of_le hij with e | e
      · rw [e]; exact Int.le_refl _
      · have := hf.ord.up i j e (by rw [hf.ord.len, hf.len]; exact hj)
        unfold lexLe at this; omega) hi))
  have hw3 := hw2.symm
  clear h hf c2 c3 hw2
  go_enter Try.func75, Try.ntmps75
  go_wp2_with fail
  refine CS.out.mono ?_
  rintro e w' ⟨k, rfl, hk, h1, h2, hd⟩
  have HE := Kp.mk (show colAt L O n from' above = k from fstIdx_uniq _ _ _ hk h1 h2)
  have HB2 := Kp.mk (below_step HB.out (hd.below _))
  clear h1 h2 hd CS
  go_wp2
  go_ret
  exact ⟨by rw [HE.out]; rfl, HB2.out⟩

theorem colAt_le (L : List Pt) (O : List Nat) (n : Nat) (y : Int) (b : Bool) : colAt L O n y b ≤ n := fstIdx_le _ _
theorem max_cast (p q : Nat) : max (p : Int) q = ((max p q : Nat) : Int) := by omega
attribute [local irreducible] colAt

set_option maxRecDepth 100000 in
set_option maxHeartbeats 1000000 in
theorem columns_any (X0 Y0 X1 Y1 : Int) (w : World) (h : GIdx w g a cap n L oa oc O va v vc V wa wc R) (hf : GFacts n L O V R) (hn : n ≤ 1000) :
    Calls Try.prog 41 #[.pointer (some ⟨g, 0, none⟩), .agg #[.int .i64 X0, .int .i64 Y0, .int .i64 X1, .int .i64 Y1]] w fun e w' => e = .returned (.tuple #[.int .i64 (colAt L O n X0 false : Nat), .int .i64 (max (colAt L O n X0 false) (colAt L O n X1 true) : Nat)]) ∧ Below w.heap.size w w' := by
  have eg : ∀ args w, (callFunc 75 args).run Try.prog w = .ok (.enter 75 args) w := enters_of Try.func75 (by kernel_rfl) rfl
  obtain ⟨w2, hw2⟩ : ∃ w2, w2 = (w.alloc (.cells #[.pointer (some ⟨g, 0, none⟩)] 77)).alloc (.cells #[.int .i64 X0, .int .i64 Y0, .int .i64 X1, .int .i64 Y1] 26) := ⟨_, rfl⟩
  have HB := Kp.mk (show Below w.heap.size w w2 from by rw [hw2]; exact below_then_alloc (below_alloc (Nat.le_refl _) _) _)
  have H2 := Kp.mk (h.below HB.out)
  have c1 : w2.cell? ⟨w.heap.size, 0, none⟩ = some (.pointer (some ⟨g, 0, none⟩)) := by rw [hw2]; exact ((Box.new w #[.pointer (some ⟨g, 0, none⟩)] 77).alloc _).cell 0 rfl
  have hbx : Box w2 (w.heap.size + 1) #[.int .i64 X0, .int .i64 Y0, .int .i64 X1, .int .i64 Y1] 26 := by
    have := Box.new (w.alloc (.cells #[.pointer (some ⟨g, 0, none⟩)] 77)) #[.int .i64 X0, .int .i64 Y0, .int .i64 X1, .int .i64 Y1] 26
    rw [alloc_size] at this
    rw [hw2]; exact this
  have r0 := later_cell (show w2.cell? ⟨w.heap.size + 1, 0, none⟩ = some (.int .i64 X0) from hbx.cell 0 rfl)
  have r2 := later_cell (show w2.cell? ⟨w.heap.size + 1, 2, none⟩ = some (.int .i64 X1) from hbx.cell 2 rfl)
  have C1 := Kp.mk (fun x : Later w2 => first_any w.heap.size X0 false x.val (H2.out.below x.le) hf hn (later_cell c1 x))
  have C2 := Kp.mk (fun x : Later w2 => first_any w.heap.size X1 true x.val (H2.out.below x.le) hf hn (later_cell c1 x))
  obtain ⟨p, hp⟩ : ∃ p, p = colAt L O n X0 false := ⟨_, rfl⟩
  obtain ⟨q, hq⟩ : ∃ q, q = colAt L O n X1 true := ⟨_, rfl⟩
  have hpn : p ≤ n := by rw [hp]; exact colAt_le _ _ _ _ _
  have hqn : q ≤ n := by rw [hq]; exact colAt_le _ _ _ _ _
  rw [← hp] at C1 ⊢
  rw [← hq] at C2 ⊢
  have hw3 := hw2.symm
  have HEM := Kp.mk (max_cast p q)
  clear h hf hw2 hbx c1 hp hq
  go_enter Try.func41, Try.ntmps41
  go_wp2
  refine region_later (by kernel_rfl) (by kernel_rfl) ?_
  iterate 10 (go_big_quiet_step ((go_at_fn 75; first | (with_reducible exact q_later (C1.out _)) | (with_reducible exact q_later (C2.out _)))))
  refine wpQuiet_nil ?_
  rintro w' ⟨xl, rfl⟩
  have HB5 := Kp.mk (below_step HB.out xl.le)
  clear r0 r2 C1 C2
  go_wp2
  refine bodyPost_ret (v := .tuple #[.int .i64 p, .int .i64 (max (p : Int) q)]) (by simp [results, Try.results41, go_sem]) rfl ?_
  exact ⟨by rw [HEM.out], HB5.out⟩

end
end Go.Proofs.Ytepcmpcnkmfpcaa
