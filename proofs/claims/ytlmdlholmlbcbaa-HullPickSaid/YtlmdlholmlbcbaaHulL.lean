/- Hulls: what the laws see of one; the walks of Hull and of the laws' own 'fenced'. -/
import Derived.Test.YtlmdlholmlbcbaaHulK
namespace Go.Proofs.Ytlmdlholmlbcbaa
set_option linter.unusedVariables false
open Go.RowKit

/-- D: the corners of the points L, in turn. -/
structure IsHull (L D : List Pt) : Prop where
  len : 0 < D.length
  sub : ∀ i, i < D.length → D.getD i pt0 ∈ L
  thin : D.length < 3 → ∀ p ∈ L, turnP (D.getD 0 pt0) (D.getD (D.length - 1) pt0) p = 0
  hold : 3 ≤ D.length → ∀ i, i < D.length → ∀ p ∈ L, 0 ≤ turnP (D.getD i pt0) (D.getD ((i + 1) % D.length) pt0) p
  left : 3 ≤ D.length → ∀ i, i < D.length → 0 < turnP (D.getD i pt0) (D.getD ((i + 1) % D.length) pt0) (D.getD ((i + 2) % D.length) pt0)
  far : ∀ a b : Int, ∀ p ∈ L, ∃ i, i < D.length ∧ a * p.x + b * p.y ≤ a * (D.getD i pt0).x + b * (D.getD i pt0).y
theorem getD_pts (L : List Pt) (C : List Nat) (i : Nat) (h : i < C.length) : (C.map (ptAt L)).getD i pt0 = ptAt L (C.getD i 0) := by
  rw [getD_at _ _ (by rw [List.length_map]; exact h), List.getElem_map, getD_at _ _ h]
theorem turn_place {a b p q : Pt} (hx : p.x = q.x) (hy : p.y = q.y) : turnP a b p = turnP a b q := by unfold turnP; rw [hx, hy]
theorem turn_zero (a p : Pt) : turnP a a p = 0 := by unfold turnP; grind
theorem turn_swap (a b p : Pt) : turnP b a p = - turnP a b p := by unfold turnP; grind
theorem ptAt_mem {L : List Pt} {i : Nat} (h : i < L.length) : ptAt L i ∈ L := by
  unfold ptAt; rw [getD_at _ _ h]; exact List.getElem_mem _
theorem hull_of {L : List Pt} {K C : List Nat} (h : IsCorners L K C) : IsHull L (C.map (ptAt L)) := by
  have hpl : ∀ p ∈ L, ∃ x ∈ K, (ptAt L x).x = p.x ∧ (ptAt L x).y = p.y := fun p hp => by
    obtain ⟨i, hi, rfl⟩ := List.getElem_of_mem hp
    have := h.all i hi
    unfold ptAt at this ⊢
    rw [getD_at L pt0 hi] at this
    exact this
  by_cases h1 : K.length = 1
  · obtain rfl := h.one h1
    obtain ⟨k, rfl⟩ : ∃ k, C = [k] := List.length_eq_one_iff.1 h1
    refine ⟨by simp, fun i hi => ?_, fun _ p hp => ?_, fun h3 => by simp at h3, fun h3 => by simp at h3, fun a b p hp => ?_⟩
    · rw [getD_pts _ _ _ (by simpa using hi)]
      obtain rfl : i = 0 := by simpa using hi
      exact ptAt_mem (h.lt k (by simp))
    · exact turn_zero _ _
    · obtain ⟨x, hx, e1, e2⟩ := hpl p hp
      obtain rfl : x = k := by simpa using hx
      exact ⟨0, by simp, by rw [← e1, ← e2]; exact Int.le_refl _⟩
  · have h2 : 2 ≤ K.length := by have := h.pos; omega
    have hF := fence_is (g := ptAt L) K h2 h.up
    rw [← h.two h2] at hF
    have hl : (C.map (ptAt L)).length = C.length := List.length_map ..
    have hc : ∀ i, i < C.length → (C.map (ptAt L)).getD i pt0 = ptAt L (C.getD i 0) := fun i hi => getD_pts L C i hi
    have hm : ∀ i, i % C.length < C.length := fun i => Nat.mod_lt _ (by have := hF.len; omega)
    have hlen := hF.len
    refine ⟨by omega, fun i hi => ?_, fun h3 p hp => ?_, fun h3 i hi p hp => ?_, fun h3 i hi => ?_, fun a b p hp => ?_⟩
    · rw [hl] at hi
      rw [hc i hi]
      exact ptAt_mem (h.lt _ (hF.sub i hi))
    · rw [hl] at h3 ⊢
      have h2' : C.length = 2 := by omega
      rw [hc 0 (by omega), hc (C.length - 1) (by omega)]
      obtain ⟨x, hx, e1, e2⟩ := hpl p hp
      rw [← turn_place e1 e2]
      have k1 := hF.hold 0 (by omega) x hx
      have k2 := hF.hold 1 (by omega) x hx
      rw [h2'] at k1 k2 ⊢
      rw [show (0 + 1) % 2 = 1 from rfl] at k1
      rw [show (1 + 1) % 2 = 0 from rfl, turn_swap] at k2
      show turnP (ptAt L (C.getD 0 0)) (ptAt L (C.getD 1 0)) (ptAt L x) = 0
      omega
    · rw [hl] at hi h3 ⊢
      rw [hc i hi, hc _ (hm _)]
      obtain ⟨x, hx, e1, e2⟩ := hpl p hp
      rw [← turn_place e1 e2]
      exact hF.hold i hi x hx
    · rw [hl] at hi h3 ⊢
      rw [hc i hi, hc _ (hm _), hc _ (hm _)]
      exact hF.left h3 i hi
    · obtain ⟨x, hx, e1, e2⟩ := hpl p hp
      obtain ⟨i, hi, hle⟩ := hF.far a b x hx
      refine ⟨i, by rw [hl]; exact hi, ?_⟩
      rw [hc i hi, ← e1, ← e2]; exact hle
theorem corners_len {L : List Pt} {K C : List Nat} (h : IsCorners L K C) : C.length = (C.map (ptAt L)).length := (List.length_map ..).symm
theorem corners_lt {L : List Pt} {K C : List Nat} (h : IsCorners L K C) : ∀ i, i < C.length → C.getD i 0 < L.length := fun i hi => by
  by_cases h1 : K.length = 1
  · obtain rfl := h.one h1
    rw [getD_at _ _ hi]; exact h.lt _ (List.getElem_mem _)
  · have hF := fence_is (g := ptAt L) K (by have := h.pos; omega) h.up
    rw [← h.two (by have := h.pos; omega)] at hF
    exact h.lt _ (hF.sub i hi)

theorem hfault_any (a : Option Addr) (cap m : Nat) (L : List Pt) (w : World) (h : SlF ptL 3 w a (m + 1) cap L) (hn : m + 1 ≤ 150) (hN : ∀ p ∈ L, p.Near) :
    Calls Try.prog 49 #[.slice a (m + 1) cap] w fun e w' => e = .returned (.int .i64 0) ∧ Kp (Below w.heap.size w w') := by
  have C := Kp.mk (gcheck_any a cap (m + 1) L w h hn hN)
  clear h hN
  go_enter Try.func49, Try.ntmps49
  go_wp2_with fail
  refine C.out.mono ?_
  rintro e w' ⟨rfl, HB⟩
  go_wp2
  go_ret
  exact ⟨rfl, HB⟩

end Go.Proofs.Ytlmdlholmlbcbaa
