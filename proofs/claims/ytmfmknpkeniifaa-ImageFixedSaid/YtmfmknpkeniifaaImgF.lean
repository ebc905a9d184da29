/- Images: what the laws ask; the walks of the laws' own comparisons. -/
import Derived.Test.YtmfmknpkeniifaaImgE
namespace Go.Proofs.Ytmfmknpkeniifaa
set_option linter.unusedVariables false
open Go.RowKit

theorem ptsX_nums : ∀ L : List Pt, ptsX (numsP L) = L := by
  intro L
  induction L with
  | nil => rfl
  | cons p L ih =>
    have e : numsP (p :: L) = foldN p.x :: foldN p.y :: foldN p.w :: numsP L := by simp [numsP]
    rw [e, ptsX, ih, unf_fold, unf_fold, unf_fold]
theorem numsP_lt {L : List Pt} (h : ∀ p ∈ L, p.Near) : ∀ x ∈ numsP L, x < 268435456 := by
  intro x hx
  obtain ⟨p, hp, h2⟩ := List.mem_flatMap.1 hx
  have h3 := h p hp
  unfold Pt.Near at h3
  simp only [List.mem_cons, List.not_mem_nil, or_false] at h2
  rcases h2 with rfl | rfl | rfl
  · exact foldN_lt _ (by omega) (by omega)
  · exact foldN_lt _ (by omega) (by omega)
  · exact foldN_lt _ (by omega) (by omega)
theorem nums_ptsX : ∀ (c : Nat) (xs : List Nat), xs.length = 3 * c → numsP (ptsX xs) = xs := by
  intro c
  induction c with
  | zero => intro xs h; obtain rfl : xs = [] := List.length_eq_zero_iff.1 (by omega); rfl
  | succ c ih =>
    intro xs h
    match xs, h with
    | x :: y :: z :: r, h =>
      have h1 := ih r (by simp at h; omega)
      have e : numsP (ptsX (x :: y :: z :: r)) = foldN (unfN x) :: foldN (unfN y) :: foldN (unfN z) :: numsP (ptsX r) := by simp [ptsX, numsP]
      rw [e, h1, fold_unf, fold_unf, fold_unf]
    | [x, y], h => simp at h; omega
    | [x], h => simp at h; omega
    | [], h => simp at h
theorem be4_len (n : Nat) : (be4 n).length = 4 := by unfold be4; rfl
theorem encI_len (l : List Nat) : 5 ≤ (encI l).length := by
  have := putL_pos (l.length / 3)
  unfold encI
  simp [headL]
  omega
theorem saveL_len (L : List Pt) : (saveL L).length = (encI (numsP L)).length + 4 := by unfold saveL; rw [List.length_append, be4_len]
theorem saveL_take (L : List Pt) : (saveL L).take (encI (numsP L)).length = encI (numsP L) := by unfold saveL; exact List.take_left
theorem saveL_drop (L : List Pt) : (saveL L).drop (encI (numsP L)).length = be4 (crc (encI (numsP L))) := by unfold saveL; exact List.drop_left
/-- What is loaded of what was saved. -/
theorem load_back {B : Nat} {w' : World} {L : List Pt} {n : Nat} {ra : Option Addr} {c rc : Nat} {code : Int} (hN : ∀ p ∈ L, p.Near) (hn : L.length = n) (hn2 : n ≤ 150) (h : LoadSays B w' (saveL L) (encI (numsP L)).length ra c rc code) : code = 0 ∧ c = n ∧ w'.ownsRow B 26 3 (.slice ra n rc) n (flat ptL L) := by
  unfold LoadSays at h
  rw [saveL_take, saveL_drop, be4_sum _ (crc_lt _)] at h
  have hp : parseL (encI (numsP L)) = some (numsP L, []) := by
    have := parseL_enc (numsP L) [] n (by rw [numsP_length, hn]) hn2 (numsP_lt hN)
    rwa [List.append_nil] at this
  rcases h with ⟨_, _, h⟩ | ⟨_, _, _, h⟩ | ⟨h1, h2, _, xs, h3, h4, _, h6⟩
  · exact absurd rfl h
  · exact absurd (by rw [ptsX_nums]; exact hN) (h _ hp)
  · rw [hp] at h3
    simp only [Option.some.injEq, Prod.mk.injEq, and_true] at h3
    subst h3
    rw [numsP_length, hn] at h4
    obtain rfl : c = n := by omega
    rw [ptsX_nums] at h6
    exact ⟨h1, rfl, h6⟩
/-- What is cut off is not loaded. -/
theorem load_cut {B : Nat} {w' : World} {L : List Pt} {n m : Nat} {ra : Option Addr} {c rc : Nat} {code : Int} (hN : ∀ p ∈ L, p.Near) (hn : L.length = n) (hn2 : n ≤ 150) (hm : m < (encI (numsP L)).length) (h : LoadSays B w' ((saveL L).take (m + 4)) m ra c rc code) : code = 6 ∨ code = 4 := by
  unfold LoadSays at h
  rcases h with ⟨_, h, _⟩ | ⟨_, h, _⟩ | ⟨h1, h2, _, xs, h3, _⟩
  · exact .inl h
  · exact .inr h
  · exfalso
    have e1 : ((saveL L).take (m + 4)).take m = (encI (numsP L)).take m := by
      rw [List.take_take, Nat.min_eq_left (by omega)]
      unfold saveL
      rw [List.take_append_of_le_length (by omega)]
    rw [e1] at h3
    refine parse_cut (l := numsP L) (b := (encI (numsP L)).take m) (t := (encI (numsP L)).drop m) (c := n) (by rw [numsP_length, hn]) hn2 (numsP_lt hN) (List.take_append_drop _ _) (fun e => ?_) (fun x hx => encI_lt _ x (List.mem_of_mem_take hx)) xs h3
    have := congrArg List.length e
    rw [List.length_drop] at this
    simp at this
    omega
theorem sumB_set (t : List Nat) (k y : Nat) (ht : ∀ x ∈ t, x < 256) (h4 : t.length = 4) (hk : k < t.length) (hy : y < 256) (hne : y ≠ t[k]) : sumB (t.set k y) ≠ sumB t := by
  match t, h4 with
  | [a, b, c, d], _ =>
    have h1 := ht a (by simp)
    have h2 := ht b (by simp)
    have h3 := ht c (by simp)
    have h4 := ht d (by simp)
    simp at hk
    rcases (show k = 0 ∨ k = 1 ∨ k = 2 ∨ k = 3 by omega) with rfl | rfl | rfl | rfl <;> simp [sumB] at hne ⊢ <;> omega
/-- What is changed at a byte is told by the sum. -/
theorem load_set {B : Nat} {w' : World} {L : List Pt} {k y : Nat} {ra : Option Addr} {c rc : Nat} {code : Int} (hk : k < (saveL L).length) (hy : y < 256) (hne : y ≠ (saveL L)[k]) (h : LoadSays B w' ((saveL L).set k y) (encI (numsP L)).length ra c rc code) : code = 6 ∧ c = 0 := by
  have key : crc (((saveL L).set k y).take (encI (numsP L)).length) ≠ sumB (((saveL L).set k y).drop (encI (numsP L)).length) := by
    have hl := saveL_len L
    by_cases hc : k < (encI (numsP L)).length
    · have e0 : (saveL L)[k] = (encI (numsP L))[k] := by
        unfold saveL; exact List.getElem_append_left hc
      rw [List.take_set, saveL_take, List.drop_set_of_lt hc, saveL_drop, be4_sum _ (crc_lt _)]
      exact crc_set (encI_lt _) hc hy (by rw [← e0]; exact hne)
    · have e0 : (saveL L)[k] = (be4 (crc (encI (numsP L))))[k - (encI (numsP L)).length]'(by rw [be4_len]; omega) := by
        unfold saveL; exact List.getElem_append_right (by omega)
      have e1 : ((saveL L).set k y).take (encI (numsP L)).length = encI (numsP L) := by
        rw [List.take_set_of_le (by omega), saveL_take]
      have e2 : ((saveL L).set k y).drop (encI (numsP L)).length = (be4 (crc (encI (numsP L)))).set (k - (encI (numsP L)).length) y := by
        unfold saveL
        rw [List.set_append_right _ _ (by omega), List.drop_left]
      rw [e1, e2]
      have h1 := sumB_set (be4 (crc (encI (numsP L)))) (k - (encI (numsP L)).length) y (be4_lt _ (crc_lt _)) (be4_len _) (by rw [be4_len]; omega) hy (by rw [← e0]; exact hne)
      rw [be4_sum _ (crc_lt _)] at h1
      exact fun e => h1 e.symm
  unfold LoadSays at h
  rcases h with ⟨h1, h2, _⟩ | ⟨_, _, h, _⟩ | ⟨_, _, h, _⟩
  · exact ⟨h2, h1⟩
  · exact absurd h key
  · exact absurd h key

set_option maxHeartbeats 4000000 in
theorem samePts_any (a b : Option Addr) (n c c' : Nat) (L : List Pt) (w : World) (h : SlF ptL 3 w a n c L) (h' : SlF ptL 3 w b n c' L) (hn : n ≤ 1000000) :
    Calls Try.prog 18 #[.slice a n c, .slice b n c'] w fun e w' => e = .returned (.bool true) ∧ Below w.heap.size w w' := by
  have H := Kp.mk h
  have H' := Kp.mk h'
  clear h h'
  obtain ⟨wo, rfl⟩ : ∃ wo : World, wo = w := ⟨_, rfl⟩
  go_enter Try.func18, Try.ntmps18
  go_wp2
  go_loopw [5] (fun i wr => ∃ k : Nat, k ≤ n ∧ i = .int .i64 k ∧ Kp (Below wo.heap.size wo wr)) (fun i _ => n - (intOf i).toNat)
  case atStart => exact ⟨0, Nat.zero_le _, rfl, ⟨Below.refl _ _⟩⟩
  case round =>
    obtain ⟨k, hk, rfl, HB⟩ := hrel
    by_cases hlt : k < n
    · obtain ⟨b1, o1, rfl, x0, x1, x2⟩ := pt_cells (SlF.below H.out HB.out) k hlt
      obtain ⟨b2, o2, rfl, y0, y1, y2⟩ := pt_cells (SlF.below H'.out HB.out) k hlt
      generalize L.getD k pt0 = p at *
      have l0 := later_cell x0
      have l1 := later_cell x1
      have l2 := later_cell x2
      have m0 := later_cell y0
      have m1 := later_cell y1
      have m2 := later_cell y2
      go_wp2
      refine region_later (by kernel_rfl) (by kernel_rfl) ?_
      iterate 9 (go_big_quiet_step (fail))
      refine wpQuiet_nil ?_
      rintro w' ⟨xl, rfl⟩
      have HB6 := Kp.mk (HB.out.trans (xl.le.mono HB.out.size))
      clear l0 l1 l2 m0 m1 m2 x0 x1 x2 y0 y1 y2
      go_wp2
      go_roundw
      case rel => exact ⟨k + 1, by omega, by go_num, HB6⟩
      case measure => simp [intOf]; omega
    · obtain rfl : k = n := by omega
      go_wp2
      go_ret
      exact ⟨rfl, HB.out⟩

set_option maxHeartbeats 4000000 in
theorem sameByt_any (a b : Option Addr) (n c c' : Nat) (l : List Nat) (w : World) (h : SlB w a n c l) (h' : SlB w b n c' l) (hn : n ≤ 9223372036854775000) :
    Calls Try.prog 20 #[.slice a n c, .slice b n c'] w fun e w' => e = .returned (.bool true) ∧ Below w.heap.size w w' := by
  have H := Kp.mk h
  have H' := Kp.mk h'
  clear h h'
  obtain ⟨wo, rfl⟩ : ∃ wo : World, wo = w := ⟨_, rfl⟩
  go_enter Try.func20, Try.ntmps20
  go_wp2
  go_loopw [5] (fun i wr => ∃ k : Nat, k ≤ n ∧ i = .int .i64 k ∧ Kp (Below wo.heap.size wo wr)) (fun i _ => n - (intOf i).toNat)
  case atStart => exact ⟨0, Nat.zero_le _, rfl, ⟨Below.refl _ _⟩⟩
  case round =>
    obtain ⟨k, hk, rfl, HB⟩ := hrel
    by_cases hlt : k < n
    · obtain ⟨b1, o1, rfl, x0⟩ := byte_cell (SlB.below H.out HB.out) k hlt
      obtain ⟨b2, o2, rfl, y0⟩ := byte_cell (SlB.below H'.out HB.out) k hlt
      generalize l.getD k 0 = p at *
      have l0 := later_cell x0
      have m0 := later_cell y0
      have t0 : ((p : Int) != (p : Int)) = false := by simp
      go_wp2
      refine region_later (by kernel_rfl) (by kernel_rfl) ?_
      iterate 9 (go_big_quiet_step (fail))
      refine wpQuiet_nil ?_
      rintro w' ⟨xl, rfl⟩
      have HB6 := Kp.mk (HB.out.trans (xl.le.mono HB.out.size))
      clear l0 m0 x0 y0
      go_wp2
      go_roundw
      case rel => exact ⟨k + 1, by omega, by go_num, HB6⟩
      case measure => simp [intOf]; omega
    · obtain rfl : k = n := by omega
      go_wp2
      go_ret
      exact ⟨rfl, HB.out⟩

end Go.Proofs.Ytmfmknpkeniifaa
