/- Slices of structs: lists whose elements lie cell behind cell. -/
import Derived.Test.YtakabjkhcdkkjaaDoorKeep
namespace Go.Proofs.YtakabjkhcdkkjaaDoor
set_option linter.unusedVariables false
open Go.RowKit

/-- The cells of a list, k for each element. -/
def flat {α : Type} (f : α → List Value) (L : List α) : List Value := L.flatMap f
section
variable {α : Type} {f : α → List Value} {k : Nat}
theorem flat_length (hk : ∀ x, (f x).length = k) (L : List α) : (flat f L).length = L.length * k := by
  induction L with
  | nil => simp [flat]
  | cons x L ih =>
    simp only [flat, List.flatMap_cons, List.length_append, List.length_cons] at *
    rw [ih, hk, Nat.succ_mul]; omega
theorem flat_append (L M : List α) : flat f (L ++ M) = flat f L ++ flat f M := by simp [flat, List.flatMap_append]
theorem flat_get (hk : ∀ x, (f x).length = k) (L : List α) (i j : Nat) (hi : i < L.length) (hj : j < k) : (flat f L)[i * k + j]? = (f L[i])[j]? := by
  induction L generalizing i with
  | nil => simp at hi
  | cons x L ih =>
    have e : flat f (x :: L) = f x ++ flat f L := by simp [flat]
    rw [e]
    cases i with
    | zero => rw [Nat.zero_mul, Nat.zero_add, List.getElem?_append_left (by rw [hk]; exact hj)]; rfl
    | succ i =>
      rw [Nat.succ_mul, List.getElem?_append_right (by rw [hk]; omega), hk, show i * k + k + j - k = i * k + j by omega, ih i (by simpa using hi)]
      rfl
theorem flat_one (h1 : ∀ x, ∀ u ∈ f x, u.oneCell' = true) (L : List α) : ∀ u ∈ flat f L, u.oneCell' = true := by
  intro u hu
  obtain ⟨x, _, hx⟩ := List.mem_flatMap.1 hu
  exact h1 x u hx
theorem flat_take (hk : ∀ x, (f x).length = k) (L : List α) (n : Nat) : (flat f L).take (n * k) = flat f (L.take n) := by
  induction L generalizing n with
  | nil => simp [flat]
  | cons x L ih =>
    have e : flat f (x :: L) = f x ++ flat f L := by simp [flat]
    cases n with
    | zero => simp [flat]
    | succ n =>
      have h2 : flat f ((x :: L).take (n + 1)) = f x ++ flat f (L.take n) := by simp [flat]
      rw [e, h2, List.take_append, hk, List.take_of_length_le (by rw [hk, Nat.succ_mul]; omega), Nat.succ_mul, Nat.add_sub_cancel, ih]

/-- A slice of structs, n long, that reads as L. -/
def SlF (f : α → List Value) (k : Nat) (w : World) (a : Option Addr) (n cap : Nat) (L : List α) : Prop := SlC w a n cap k (flat f L)
theorem SlF.below {w w' : World} {a : Option Addr} {n cap : Nat} {L : List α} (h : SlF f k w a n cap L) (hb : Below w.heap.size w w') : SlF f k w' a n cap L := SlC.below h hb
theorem SlF.len (hk : ∀ x, (f x).length = k) (hp : 0 < k) {w : World} {a : Option Addr} {n cap : Nat} {L : List α} (h : SlF f k w a n cap L) : L.length = n := by
  have h1 := h.hlen
  rw [flat_length hk] at h1
  exact Nat.eq_of_mul_eq_mul_right hp h1
/-- One element: each of its cells. -/
theorem SlF.at (hk : ∀ x, (f x).length = k) (hp : 0 < k) {w : World} {a : Option Addr} {n cap : Nat} {L : List α} (h : SlF f k w a n cap L) (i : Nat) (hi : i < L.length) :
    ∃ b off, a = some ⟨b, off, none⟩ ∧ b < w.heap.size ∧ ∀ j (hj : j < k), w.cell? ⟨b, off + i * k + j, none⟩ = (f L[i])[j]? := by
  have hlt : i * k + 0 < (flat f L).length := by
    rw [flat_length hk]
    have := Nat.mul_le_mul_right k (show i + 1 ≤ L.length by omega)
    rw [Nat.succ_mul] at this; omega
  obtain ⟨b, off, ha, hc⟩ := SlC.cell h (i * k + 0) hlt
  refine ⟨b, off, ha, World.block_lt_of_cell? w _ hc, fun j hj => ?_⟩
  have hlt2 : i * k + j < (flat f L).length := by
    rw [flat_length hk]
    have := Nat.mul_le_mul_right k (show i + 1 ≤ L.length by omega)
    rw [Nat.succ_mul] at this; omega
  obtain ⟨b', off', ha', hc'⟩ := SlC.cell h (i * k + j) hlt2
  rw [ha] at ha'
  simp only [Option.some.injEq, Addr.mk.injEq, and_true] at ha'
  obtain ⟨rfl, rfl⟩ := ha'
  rw [Nat.add_assoc, hc', ← flat_get hk L i j hi hj, List.getElem?_eq_getElem hlt2]
/-- Of a row of the call's own. -/
theorem own_at (hk : ∀ x, (f x).length = k) {w : World} {B e n cap g : Nat} {L : List α} (h : w.ownsRow B e k (.slice (some ⟨g, 0, none⟩) n cap) n (flat f L)) (hl : L.length = n) (i : Nat) (hi : i < L.length) (j : Nat) (hj : j < k) :
    w.cell? ⟨g, i * k + j, none⟩ = (f L[i])[j]? := by
  have hlt : i * k + j < n * k := by
    have := Nat.mul_le_mul_right k (show i + 1 ≤ n by omega)
    rw [Nat.succ_mul] at this; omega
  rw [h.cellAt (i * k + j) hlt, flat_get hk L i j hi hj]
end

/-- What a law is told of a slice of structs of k integers that came in. -/
def IsFlat (k : Nat) (w : World) (a : Option Addr) (len cap : Nat) (zs : List Int) : Prop :=
  (a = none ∧ len = 0 ∧ cap = 0 ∧ zs = []) ∨
  ∃ x, a = some x ∧ len ≤ cap ∧ cap ≤ maxLen ∧ zs.length = len * k ∧ (∀ i, i < zs.length → w.cell? (x.add i) = some (.int .i64 (zs.getD i 0))) ∧ ∀ n ∈ zs, (Lit.int .i64 n).wf = true
/-- The integers in groups of k. -/
def grp (k : Nat) (zs : List Int) (n : Nat) : List (List Int) := (List.range n).map fun i => (zs.drop (i * k)).take k
theorem flat_slc {k : Nat} (hk : 0 < k) {w : World} {a : Option Addr} {len cap : Nat} {zs : List Int} (h : IsFlat k w a len cap zs) : SlC w a len cap k (ints zs) ∧ (∀ n ∈ zs, (Lit.int .i64 n).wf = true) ∧ len ≤ maxLen ∧ zs.length = len * k := by
  rcases h with ⟨rfl, rfl, rfl, rfl⟩ | ⟨x, rfl, hl, hm, hz, hc, hw⟩
  · exact ⟨⟨by simp [ints], Nat.le_refl _, Nat.zero_le _, fun _ => rfl, fun i hi => by simp [ints] at hi⟩, by simp, Nat.zero_le _, by simp⟩
  · refine ⟨⟨by rw [ints_length, hz], hl, hm, (fun h => by cases h), fun i hi => ?_⟩, hw, by omega, hz⟩
    rw [ints_length] at hi
    obtain ⟨b, off, spot⟩ := x
    have hspot : spot = none := by
      have := World.cell?_spot (hc 0 (by omega))
      simpa [Addr.add] using this
    subst hspot
    have h1 := hc i hi
    rw [add_none] at h1
    exact ⟨b, off, rfl, by rw [h1, ints_get, getD_at _ _ hi]⟩

end Go.Proofs.YtakabjkhcdkkjaaDoor
