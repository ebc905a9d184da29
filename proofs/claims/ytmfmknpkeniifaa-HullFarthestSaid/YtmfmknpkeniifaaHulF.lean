/- Package hull: the walk of Far. -/
import Derived.Test.YtmfmknpkeniifaaHulL
namespace Go.Proofs.Ytmfmknpkeniifaa
set_option linter.unusedVariables false
open Go.RowKit

theorem hnear_any (x : Int) (w : World) (h1 : -1048576 ≤ x) (h2 : x ≤ 1048576) :
    Calls Try.prog 71 #[.int .i64 x] w fun e w' => e = .returned (.bool true) ∧ w = w' := by
  have h1' : decide (-1048576 ≤ x) = true := decide_eq_true h1
  have h2' : decide (x ≤ 1048576) = true := decide_eq_true h2
  go_enter Try.func71, Try.ntmps71
  go_wp2
  go_ret
  exact ⟨rfl, rfl⟩

/-- How far a point is in a direction. -/
def farP (a b : Int) (p : Pt) : Int := a * p.x + b * p.y
theorem farP_in {a b : Int} {p : Pt} (ha : -1048576 ≤ a ∧ a ≤ 1048576) (hb : -1048576 ≤ b ∧ b ≤ 1048576) (hp : p.Near) : (-4398046511104 ≤ a * p.x ∧ a * p.x ≤ 4398046511104) ∧ (-4398046511104 ≤ b * p.y ∧ b * p.y ≤ 4398046511104) ∧ (-8796093022208 ≤ farP a b p ∧ farP a b p ≤ 8796093022208) := by
  unfold Pt.Near at hp
  have h1 := mul_in a p.x (by omega) (by omega)
  have h2 := mul_in b p.y (by omega) (by omega)
  unfold farP
  omega
theorem farP_w {a b : Int} {p : Pt} (ha : -1048576 ≤ a ∧ a ≤ 1048576) (hb : -1048576 ≤ b ∧ b ≤ 1048576) (hp : p.Near) : ∃ u v f, f = farP a b p ∧ IntKind.i64.wrap (a * p.x) = u ∧ IntKind.i64.wrap (b * p.y) = v ∧ IntKind.i64.wrap (u + v) = f := by
  obtain ⟨h1, h2, h3⟩ := farP_in ha hb hp
  refine ⟨a * p.x, b * p.y, _, rfl, IntWalk.i64_in _ (by omega), IntWalk.i64_in _ (by omega), IntWalk.i64_in _ (by unfold farP at h3; omega)⟩
attribute [irreducible] farP

set_option maxRecDepth 100000 in
set_option maxHeartbeats 4000000 in
theorem far_any (a : Option Addr) (cap M : Nat) (L : List Pt) (dx dy : Int) (w : World) (h : SlF ptL 3 w a M cap L) (hM0 : 0 < M) (hm : M ≤ 150) (hN : ∀ p ∈ L, p.Near) (hx1 : -1048576 ≤ dx) (hx2 : dx ≤ 1048576) (hy1 : -1048576 ≤ dy) (hy2 : dy ≤ 1048576) :
    Calls Try.prog 41 #[.slice a M cap, .int .i64 dx, .int .i64 dy] w fun e w' => ∃ b : Nat, e = .returned (.tuple #[.int .i64 b, .int .i64 0]) ∧ b < M ∧ Kp (∀ j, j < M → farP dx dy (L.getD j pt0) ≤ farP dx dy (L.getD b pt0)) ∧ Kp (Below w.heap.size w w') := by
  have CF := Kp.mk (show Calls Try.prog 70 #[.slice a M cap] w (fun e w' => e = .returned (.int .i64 0) ∧ Kp (Below w.heap.size w w')) from by
    obtain ⟨m, rfl⟩ : ∃ m, M = m + 1 := ⟨M - 1, by omega⟩
    exact hfault_any a cap m L w h hm hN)
  have CX := Kp.mk (fun W => hnear_any dx W hx1 hx2)
  have CY := Kp.mk (fun W => hnear_any dy W hy1 hy2)
  have HL := Kp.mk (h.len ptL_len (by omega))
  have H := Kp.mk h
  have HNr := Kp.mk (show ∀ i, i < M → (L.getD i pt0).Near from fun i hi => by
    rw [getD_at _ _ (by rw [HL.out]; exact hi)]; exact hN _ (List.getElem_mem _))
  have HX := Kp.mk (And.intro hx1 hx2)
  have HY := Kp.mk (And.intro hy1 hy2)
  clear h hN hx1 hx2 hy1 hy2
  clear HL
  go_enter Try.func41, Try.ntmps41
  go_wp2_with (first
    | (go_at_call 70; refine CF.out.mono ?_; rintro e w1 ⟨rfl, HB1⟩)
    | (go_at_call 71; (first | (with_reducible refine (CX.out _).mono ?_) | (with_reducible refine (CY.out _).mono ?_)); rintro e w' ⟨rfl, rfl⟩))
  have H1 := Kp.mk (SlF.below H.out HB1.out)
  obtain ⟨wo, rfl⟩ : ∃ wo : World, wo = w1 := ⟨_, rfl⟩
  clear CF CX CY H
  go_loopw [9, 29] (fun b i wr => ∃ (k best : Nat), k ≤ M ∧ best < M ∧ i = .int .i64 k ∧ b = .int .i64 best ∧ Kp (∀ j, j < k → farP dx dy (L.getD j pt0) ≤ farP dx dy (L.getD best pt0)) ∧ Kp (Below wo.heap.size wo wr)) (fun _ i _ => M - (intOf i).toNat)
  case atStart => exact ⟨0, 0, Nat.zero_le _, hM0, rfl, rfl, ⟨fun j hj => by omega⟩, ⟨Below.refl _ _⟩⟩
  case round =>
    obtain ⟨k, best, hk, hb, rfl, rfl, HF, HB⟩ := hrel
    by_cases hlt : k < M
    · obtain ⟨pb, po, rfl, x0, x1, x2⟩ := pt_cells (SlF.below H1.out HB.out) k hlt
      obtain ⟨_, _, e1, y0, y1, y2⟩ := pt_cells (SlF.below H1.out HB.out) best hb
      simp only [Option.some.injEq, Addr.mk.injEq, and_true] at e1
      obtain ⟨rfl, rfl⟩ := e1
      obtain ⟨u1, v1, f1, hf1, e1, e2, e3⟩ := farP_w HX.out HY.out (HNr.out k hlt)
      obtain ⟨u2, v2, f2, hf2, e4, e5, e6⟩ := farP_w HX.out HY.out (HNr.out best hb)
      have HF1 := Kp.mk hf1
      have HF2 := Kp.mk hf2
      clear hf1 hf2
      have HN1 := Kp.mk (show f2 < f1 → ∀ j, j < k + 1 → farP dx dy (L.getD j pt0) ≤ farP dx dy (L.getD k pt0) from fun hlt j hj => by
        have e1 := HF1.out; have e2 := HF2.out
        by_cases h : j = k
        · rw [h]; exact Int.le_refl _
        · have := HF.out j (by omega); omega)
      have HN2 := Kp.mk (show ¬ f2 < f1 → ∀ j, j < k + 1 → farP dx dy (L.getD j pt0) ≤ farP dx dy (L.getD best pt0) from fun hlt j hj => by
        have e1 := HF1.out; have e2 := HF2.out
        by_cases h : j = k
        · rw [h]; omega
        · exact HF.out j (by omega))
      clear HF1 HF2
      obtain ⟨p, hp⟩ : ∃ p, p = L.getD k pt0 := ⟨_, rfl⟩
      obtain ⟨q, hq⟩ : ∃ q, q = L.getD best pt0 := ⟨_, rfl⟩
      rw [← hp] at x0 x1 x2 e1 e2
      rw [← hq] at y0 y1 y2 e4 e5
      clear hp hq
      have hbel : Below wr.heap.size wr (wr.alloc (.cells #[.int .i64 p.x, .int .i64 p.y, .int .i64 p.w] 26)) := below_alloc (Nat.le_refl _) _
      have hnew := Box.new wr #[.int .i64 p.x, .int .i64 p.y, .int .i64 p.w] 26
      have c0 : (wr.alloc (.cells #[.int .i64 p.x, .int .i64 p.y, .int .i64 p.w] 26)).cell? ⟨wr.heap.size, 0, none⟩ = some (.int .i64 p.x) := hnew.cell 0 rfl
      have c1 : (wr.alloc (.cells #[.int .i64 p.x, .int .i64 p.y, .int .i64 p.w] 26)).cell? ⟨wr.heap.size, 1, none⟩ = some (.int .i64 p.y) := hnew.cell 1 rfl
      have d0 := (hbel.cell (p := ⟨pb, po + best * 3, none⟩) (World.block_lt_of_cell? wr _ y0)).trans y0
      have d1 := (hbel.cell (p := ⟨pb, po + best * 3 + 1, none⟩) (World.block_lt_of_cell? wr _ y1)).trans y1
      have HBA := Kp.mk (HB.out.trans (hbel.mono HB.out.size))
      have hkz : (k : Int) < M := by omega
      clear y0 y1 y2 hbel hnew
      generalize hWA : wr.alloc (.cells #[.int .i64 p.x, .int .i64 p.y, .int .i64 p.w] 26) = WA at *
      have l0 := later_cell c0
      have l1 := later_cell c1
      have m0 := later_cell d0
      have m1 := later_cell d1
      clear c0 c1 d0 d1
      by_cases hgt : f2 < f1
      · have tg : decide (f2 < f1) = true := decide_eq_true hgt
        have HN := Kp.mk (HN1.out hgt)
        go_wp2
        refine region_later (by kernel_rfl) (by kernel_rfl) ?_
        iterate 25 (go_big_quiet_step (fail))
        refine wpQuiet_nil ?_
        rintro w' ⟨xl, rfl⟩
        have HB6 := Kp.mk (HBA.out.trans (xl.le.mono HBA.out.size))
        clear l0 l1 m0 m1
        go_wp2
        go_roundw
        case rel => exact ⟨k + 1, k, by omega, hlt, by go_num, rfl, HN, HB6⟩
        case measure => simp [intOf]; omega
      · have tg : decide (f2 < f1) = false := decide_eq_false hgt
        have HN := Kp.mk (HN2.out hgt)
        go_wp2
        refine region_later (by kernel_rfl) (by kernel_rfl) ?_
        iterate 25 (go_big_quiet_step (fail))
        refine wpQuiet_nil ?_
        rintro w' ⟨xl, rfl⟩
        have HB6 := Kp.mk (HBA.out.trans (xl.le.mono HBA.out.size))
        clear l0 l1 m0 m1
        go_wp2
        go_roundw
        case rel => exact ⟨k + 1, best, by omega, hb, by go_num, rfl, HN, HB6⟩
        case measure => simp [intOf]; omega
    · obtain rfl : k = M := by omega
      have HBF := Kp.mk (below_step HB1.out HB.out)
      go_wp2
      refine bodyPost_ret (v := .tuple #[.int .i64 best, .int .i64 0]) (by simp [results, Try.results41, go_sem]) rfl ?_
      exact ⟨best, rfl, hb, HF, HBF⟩

end Go.Proofs.Ytmfmknpkeniifaa
