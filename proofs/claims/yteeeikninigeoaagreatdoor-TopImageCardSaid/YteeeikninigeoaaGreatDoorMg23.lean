import Derived.Test.YteeeikninigeoaaGreatDoorMg22
import Derived.Test.YteeeikninigeoaaGreatDoorMg5
import Derived.Test.YteeeikninigeoaaGreatDoorMg0
/- Images: what the laws ask; the walks of the laws' own comparisons. -/
namespace Go.Proofs.YteeeikninigeoaaGreatDoor
set_option linter.unusedVariables false
open Go.RowKit

theorem ptsX_nums : ∀ L : List Pt, ptsX (numsP L) = L := by
  intro L
  induction L with
  | nil => rfl
  | cons p L ih =>
    have e : numsP (p :: L) = foldN p.x :: foldN p.y :: foldN p.w :: numsP L := by simp [numsP]
    rw [e, ptsX, ih, unf_fold, unf_fold, unf_fold]
theorem numsP_lt {L : List Pt} (h : ∀ p ∈ L, p.Near) : ∀ x ∈ numsP L, x < 268435456 := by
  intro x hx
  obtain ⟨p, hp, h2⟩ := List.mem_flatMap.1 hx
  have h3 := h p hp
  unfold Pt.Near at h3
  simp only [List.mem_cons, List.not_mem_nil, or_false] at h2
  rcases h2 with rfl | rfl | rfl
  · exact foldN_lt _ (by omega) (by omega)
  · exact foldN_lt _ (by omega) (by omega)
  · exact foldN_lt _ (by omega) (by omega)
theorem nums_ptsX : ∀ (c : Nat) (xs : List Nat), xs.length = 3 * c → numsP (ptsX xs) = xs := by
  intro c
  induction c with
  | zero => intro xs h; obtain rfl : xs = [] := List.length_eq_zero_iff.1 (by omega); rfl
  | succ c ih =>
    intro xs h
    match xs, h with
    | x :: y :: z :: r, h =>
      have h1 := ih r (by simp at h; omega)
      have e : numsP (ptsX (x :: y :: z :: r)) = foldN (unfN x) :: foldN (unfN y) :: foldN (unfN z) :: numsP (ptsX r) := by simp [ptsX, numsP]
      rw [e, h1, fold_unf, fold_unf, fold_unf]
    | [x, y], h => simp at h; omega
    | [x], h => simp at h; omega
    | [], h => simp at h
theorem be4_len (n : Nat) : (be4 n).length = 4 := by unfold be4; rfl
theorem encI_len (l : List Nat) : 5 ≤ (encI l).length := by
  have := putL_pos (l.length / 3)
  unfold encI
  simp [headL]
  omega
theorem saveL_len (L : List Pt) : (saveL L).length = (encI (numsP L)).length + 4 := by unfold saveL; rw [List.length_append, be4_len]
theorem saveL_take (L : List Pt) : (saveL L).take (encI (numsP L)).length = encI (numsP L) := by unfold saveL; exact List.take_left
theorem saveL_drop (L : List Pt) : (saveL L).drop (encI (numsP L)).length = be4 (crc (encI (numsP L))) := by unfold saveL; exact List.drop_left
/-- What is loaded of what was saved. -/
theorem load_back {B : Nat} {w' : World} {L : List Pt} {n : Nat} {ra : Option Addr} {c rc : Nat} {code : Int} (hN : ∀ p ∈ L, p.Near) (hn : L.length = n) (hn2 : n ≤ 150) (h : LoadSays B w' (saveL L) (encI (numsP L)).length ra c rc code) : code = 0 ∧ c = n ∧ w'.ownsRow B 63 3 (.slice ra n rc) n (flat ptL L) := by
  unfold LoadSays at h
  rw [saveL_take, saveL_drop, be4_sum _ (crc_lt _)] at h
  have hp : parseL (encI (numsP L)) = some (numsP L, []) := by
    have := parseL_enc (numsP L) [] n (by rw [numsP_length, hn]) hn2 (numsP_lt hN)
    rwa [List.append_nil] at this
  rcases h with ⟨_, _, h⟩ | ⟨_, _, _, h⟩ | ⟨h1, h2, _, xs, h3, h4, _, h6⟩
  · exact absurd rfl h
  · exact absurd (by rw [ptsX_nums]; exact hN) (h _ hp)
  · rw [hp] at h3
    simp only [Option.some.injEq, Prod.mk.injEq, and_true] at h3
    subst h3
    rw [numsP_length, hn] at h4
    obtain rfl : c = n := by omega
    rw [ptsX_nums] at h6
    exact ⟨h1, rfl, h6⟩
/-- What is cut off is not loaded. -/
theorem load_cut {B : Nat} {w' : World} {L : List Pt} {n m : Nat} {ra : Option Addr} {c rc : Nat} {code : Int} (hN : ∀ p ∈ L, p.Near) (hn : L.length = n) (hn2 : n ≤ 150) (hm : m < (encI (numsP L)).length) (h : LoadSays B w' ((saveL L).take (m + 4)) m ra c rc code) : code = 6 ∨ code = 4 := by
  unfold LoadSays at h
  rcases h with ⟨_, h, _⟩ | ⟨_, h, _⟩ | ⟨h1, h2, _, xs, h3, _⟩
  · exact .inl h
  · exact .inr h
  · exfalso
    have e1 : ((saveL L).take (m + 4)).take m = (encI (numsP L)).take m := by
      rw [List.take_take, Nat.min_eq_left (by omega)]
      unfold saveL
      rw [List.take_append_of_le_length (by omega)]
    rw [e1] at h3
    refine parse_cut (l := numsP L) (b := (encI (numsP L)).take m) (t := (encI (numsP L)).drop m) (c := n) (by rw [numsP_length, hn]) hn2 (numsP_lt hN) (List.take_append_drop _ _) (fun e => ?_) (fun x hx => encI_lt _ x (List.mem_of_mem_take hx)) xs h3
    have := congrArg List.length e
    rw [List.length_drop] at this
    simp at this
    omega
theorem sumB_set (t : List Nat) (k y : Nat) (ht : ∀ x ∈ t, x < 256) (h4 : t.length = 4) (hk : k < t.length) (hy : y < 256) (hne : y ≠ t[k]) : sumB (t.set k y) ≠ sumB t := by
  match t, h4 with
  | [a, b, c, d], _ =>
    have h1 := ht a (by simp)
    have h2 := ht b (by simp)
    have h3 := ht c (by simp)
    have h4 := ht d (by simp)
    simp at hk
    rcases (show k = 0 ∨ k = 1 ∨ k = 2 ∨ k = 3 by omega) with rfl | rfl | rfl | rfl <;> simp [sumB] at hne ⊢ <;> omega
/-- What is changed at a byte is told by the sum. -/
theorem load_set {B : Nat} {w' : World} {L : List Pt} {k y : Nat} {ra : Option Addr} {c rc : Nat} {code : Int} (hk : k < (saveL L).length) (hy : y < 256) (hne : y ≠ (saveL L)[k]) (h : LoadSays B w' ((saveL L).set k y) (encI (numsP L)).length ra c rc code) : code = 6 ∧ c = 0 := by
  have key : crc (((saveL L).set k y).take (encI (numsP L)).length) ≠ sumB (((saveL L).set k y).drop (encI (numsP L)).length) := by
    have hl := saveL_len L
    by_cases hc : k < (encI (numsP L)).length
    · have e0 : (saveL L)[k] = (encI (numsP L))[k] := by
        unfold saveL; exact List.getElem_append_left hc
      rw [List.take_set, saveL_take, List.drop_set_of_lt hc, saveL_drop, be4_sum _ (crc_lt _)]
      exact crc_set (encI_lt _) hc hy (by rw [← e0]; exact hne)
    · have e0 : (saveL L)[k] = (be4 (crc (encI (numsP L))))[k - (encI (numsP L)).length]'(by rw [be4_len]; omega) := by
        unfold saveL; exact List.getElem_append_right (by omega)
      have e1 : ((saveL L).set k y).take (encI (numsP L)).length = encI (numsP L) := by
        rw [List.take_set_of_le (by omega), saveL_take]
      have e2 : ((saveL L).set k y).drop (encI (numsP L)).length = (be4 (crc (encI (numsP L)))).set (k - (encI (numsP L)).length) y := by
        unfold saveL
        rw [List.set_append_right _ _ (by omega), List.drop_left]
      rw [e1, e2]
      have h1 := sumB_set (be4 (crc (encI (numsP L)))) (k - (encI (numsP L)).length) y (be4_lt _ (crc_lt _)) (be4_len _) (by rw [be4_len]; omega) hy (by rw [← e0]; exact hne)
      rw [be4_sum _ (crc_lt _)] at h1
      exact fun e => h1 e.symm
  unfold LoadSays at h
  rcases h with ⟨h1, h2, _⟩ | ⟨_, _, h, _⟩ | ⟨_, _, h, _⟩
  · exact ⟨h2, h1⟩
  · exact absurd h key
  · exact absurd h key

end Go.Proofs.YteeeikninigeoaaGreatDoor

/- A comparison of two places by x, y and place: the walk of the closure. -/
namespace Go.Proofs.YteeeikninigeoaaGreatDoor
set_option linter.unusedVariables false
open Go.RowKit Go.Sort

set_option maxRecDepth 100000 in
set_option maxHeartbeats 2000000 in
theorem skyOrd_any (bs : Nat) (a : Option Addr) (cap n x y : Nat) (L : List Pt) (w : World) (h : SlF ptL 3 w a n cap L) (hn : n ≤ 1000) (hb : w.cell? ⟨bs, 0, none⟩ = some (.slice a n cap)) (hx : x < n) (hy : y < n) :
    Calls Tryz.prog 80 #[.int .i64 x, .int .i64 y, .pointer (some ⟨bs, 0, none⟩)] w fun e w' => e = .returned (.int .i64 (cmpP L x y)) ∧ ∃ q os, w' = grow (w.drewN q) os := by
  have hl := h.len ptL_len (by omega)
  obtain ⟨b, off, rfl, hbw, cx⟩ := h.at ptL_len (by omega) x (by omega)
  obtain ⟨_, _, e1, _, cy⟩ := h.at ptL_len (by omega) y (by omega)
  simp only [Option.some.injEq, Addr.mk.injEq, and_true] at e1
  obtain ⟨rfl, rfl⟩ := e1
  rw [← getD_at L pt0 (by omega)] at cx cy
  have HP := Kp.mk (show cmpP L x y = or3 (cmpI (L.getD x pt0).x (L.getD y pt0).x) (cmpI (L.getD x pt0).y (L.getD y pt0).y) (cmpI x y) from rfl)
  generalize L.getD x pt0 = p at *
  generalize L.getD y pt0 = q at *
  have x0 : w.cell? ⟨b, off + x * 3, none⟩ = some (.int .i64 p.x) := cx 0 (by omega)
  have x1 : w.cell? ⟨b, off + x * 3 + 1, none⟩ = some (.int .i64 p.y) := cx 1 (by omega)
  have y0 : w.cell? ⟨b, off + y * 3, none⟩ = some (.int .i64 q.x) := cy 0 (by omega)
  have y1 : w.cell? ⟨b, off + y * 3 + 1, none⟩ = some (.int .i64 q.y) := cy 1 (by omega)
  have C1 := Kp.mk (fun W => q_eq (compare_any p.x q.x W))
  have C2 := Kp.mk (fun W => q_eq (compare_any p.y q.y W))
  have C3 := Kp.mk (fun W => q_eq (compare_any (x : Int) (y : Int) W))
  rw [HP.out]
  clear h cx cy HP hl
  generalize cmpI p.x q.x = c1 at *
  generalize cmpI p.y q.y = c2 at *
  generalize cmpI (x : Int) (y : Int) = c3 at *
  go_enter Tryz.func80, Tryz.ntmps80
  go_wp2
  go_still_tail 25, (by kernel_rfl)
  still_call (C1.out _)
  repeat still_step
  still_call (C2.out _)
  repeat still_step
  still_call (C3.out _)
  try refine wpStill_nil ?_
  have bx := Box.new w.drew #[.int .i64 c1, .int .i64 c2, .int .i64 c3] 3
  have CO := Kp.mk (or3_any w.heap.size c1 c2 c3 (w.drew.alloc (.cells #[.int .i64 c1, .int .i64 c2, .int .i64 c3] 3)) (bx.cell 0 rfl) (bx.cell 1 rfl) (bx.cell 2 rfl))
  clear bx
  go_wp2_with fail
  refine CO.out.mono ?_
  rintro e w' ⟨rfl, rfl⟩
  go_wp2
  go_ret
  exact ⟨rfl, 1, #[.cells #[.int .i64 c1, .int .i64 c2, .int .i64 c3] 3], by rw [alloc_eq_grow, drew_grow]; rfl⟩

end Go.Proofs.YteeeikninigeoaaGreatDoor

/- Rows of the first numbers. -/
namespace Go.Proofs.YteeeikninigeoaaGreatDoor
set_option linter.unusedVariables false
open Go.RowKit

theorem ints_range_succ (k : Nat) : ints ((List.range (k + 1)).map Int.ofNat) = ints ((List.range k).map Int.ofNat) ++ [.int .i64 (k : Int)] := by
  rw [List.range_succ, List.map_append, ints_append]; rfl
theorem own_len' {w : World} {B e size n m c : Nat} {a : Option Addr} {xs : List Value} (h : w.ownsRow B e size (.slice a m c) n xs) (hm : m = n) : w.ownsRow B e size (.slice a n c) n xs := by subst hm; exact h


end Go.Proofs.YteeeikninigeoaaGreatDoor

