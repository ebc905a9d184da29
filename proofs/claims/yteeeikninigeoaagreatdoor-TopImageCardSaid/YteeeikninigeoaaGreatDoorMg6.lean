import Derived.Test.YteeeikninigeoaaGreatDoorMg5
import Derived.Test.YteeeikninigeoaaGreatDoorMg0
import Derived.Lib.RowBridge
import Derived.Lib.SlicesCompact
/- A comparison of two places by x, y and place: the walk of the closure. -/
namespace Go.Proofs.YteeeikninigeoaaGreatDoor
set_option linter.unusedVariables false
open Go.RowKit Go.Sort

set_option maxRecDepth 100000 in
set_option maxHeartbeats 2000000 in
theorem gridOrd_any (bs : Nat) (a : Option Addr) (cap n x y : Nat) (L : List Pt) (w : World) (h : SlF ptL 3 w a n cap L) (hn : n ≤ 1000) (hb : w.cell? ⟨bs, 0, none⟩ = some (.slice a n cap)) (hx : x < n) (hy : y < n) :
    Calls Tryz.prog 131 #[.int .i64 x, .int .i64 y, .pointer (some ⟨bs, 0, none⟩)] w fun e w' => e = .returned (.int .i64 (cmpP L x y)) ∧ ∃ q os, w' = grow (w.drewN q) os := by
  have hl := h.len ptL_len (by omega)
  obtain ⟨b, off, rfl, hbw, cx⟩ := h.at ptL_len (by omega) x (by omega)
  obtain ⟨_, _, e1, _, cy⟩ := h.at ptL_len (by omega) y (by omega)
  simp only [Option.some.injEq, Addr.mk.injEq, and_true] at e1
  obtain ⟨rfl, rfl⟩ := e1
  rw [← getD_at L pt0 (by omega)] at cx cy
  have HP := Kp.mk (show cmpP L x y = or3 (cmpI (L.getD x pt0).x (L.getD y pt0).x) (cmpI (L.getD x pt0).y (L.getD y pt0).y) (cmpI x y) from rfl)
  generalize L.getD x pt0 = p at *
  generalize L.getD y pt0 = q at *
  have x0 : w.cell? ⟨b, off + x * 3, none⟩ = some (.int .i64 p.x) := cx 0 (by omega)
  have x1 : w.cell? ⟨b, off + x * 3 + 1, none⟩ = some (.int .i64 p.y) := cx 1 (by omega)
  have y0 : w.cell? ⟨b, off + y * 3, none⟩ = some (.int .i64 q.x) := cy 0 (by omega)
  have y1 : w.cell? ⟨b, off + y * 3 + 1, none⟩ = some (.int .i64 q.y) := cy 1 (by omega)
  have C1 := Kp.mk (fun W => q_eq (compare_any p.x q.x W))
  have C2 := Kp.mk (fun W => q_eq (compare_any p.y q.y W))
  have C3 := Kp.mk (fun W => q_eq (compare_any (x : Int) (y : Int) W))
  rw [HP.out]
  clear h cx cy HP hl
  generalize cmpI p.x q.x = c1 at *
  generalize cmpI p.y q.y = c2 at *
  generalize cmpI (x : Int) (y : Int) = c3 at *
  go_enter Tryz.func131, Tryz.ntmps131
  go_wp2
  go_still_tail 25, (by kernel_rfl)
  still_call (C1.out _)
  repeat still_step
  still_call (C2.out _)
  repeat still_step
  still_call (C3.out _)
  try refine wpStill_nil ?_
  have bx := Box.new w.drew #[.int .i64 c1, .int .i64 c2, .int .i64 c3] 3
  have CO := Kp.mk (or3_any w.heap.size c1 c2 c3 (w.drew.alloc (.cells #[.int .i64 c1, .int .i64 c2, .int .i64 c3] 3)) (bx.cell 0 rfl) (bx.cell 1 rfl) (bx.cell 2 rfl))
  clear bx
  go_wp2_with fail
  refine CO.out.mono ?_
  rintro e w' ⟨rfl, rfl⟩
  go_wp2
  go_ret
  exact ⟨rfl, 1, #[.cells #[.int .i64 c1, .int .i64 c2, .int .i64 c3] 3], by rw [alloc_eq_grow, drew_grow]; rfl⟩

end Go.Proofs.YteeeikninigeoaaGreatDoor

/- Ranks: plain. -/
namespace Go.Proofs.YteeeikninigeoaaGreatDoor
set_option linter.unusedVariables false
open Go.Lib

/-- Rising, none twice. -/
def Up (l : List Int) : Prop := l.Pairwise (· < ·)
theorem compact_inv (zs : List Int) (hs : ∀ i j, i ≤ j → j < zs.length → zs.toArray[i]! ≤ zs.toArray[j]!) : ∀ m, m ≤ zs.length →
    Up (compactUpTo zs.toArray m) ∧ (∀ x, x ∈ compactUpTo zs.toArray m ↔ ∃ j, j < m ∧ zs.toArray[j]! = x) := by
  intro m
  induction m with
  | zero => intro _; refine ⟨by simp [compactUpTo, Up], fun x => by simp [compactUpTo]⟩
  | succ m ih =>
    intro hm
    obtain ⟨h1, h2⟩ := ih (by omega)
    rw [compactUpTo_succ]
    by_cases hk : keeps zs.toArray m = true
    · rw [if_pos hk]
      refine ⟨?_, fun x => ?_⟩
      · unfold Up
        rw [List.pairwise_append]
        refine ⟨h1, by simp, fun a ha b hb => ?_⟩
        rw [List.mem_singleton] at hb
        subst hb
        obtain ⟨j, hj, rfl⟩ := (h2 a).1 ha
        have hm0 : m ≠ 0 := by omega
        have hne : zs.toArray[m]! ≠ zs.toArray[m - 1]! := by
          unfold keeps at hk
          rw [decide_eq_true_eq] at hk
          rcases hk with h | h
          · exact absurd h hm0
          · exact h
        have a1 := hs j (m - 1) (by omega) (by omega)
        have a2 := hs (m - 1) m (by omega) (by omega)
        omega
      · rw [List.mem_append, h2, List.mem_singleton]
        constructor
        · rintro (⟨j, hj, e⟩ | e)
          · exact ⟨j, by omega, e⟩
          · exact ⟨m, by omega, e.symm⟩
        · rintro ⟨j, hj, e⟩
          by_cases hjm : j = m
          · subst hjm; exact .inr e.symm
          · exact .inl ⟨j, by omega, e⟩
    · rw [if_neg hk, List.append_nil]
      refine ⟨h1, fun x => ?_⟩
      rw [h2]
      have hm0 : m ≠ 0 := fun e => hk (by unfold keeps; rw [decide_eq_true_eq]; exact .inl e)
      have he : zs.toArray[m]! = zs.toArray[m - 1]! := by
        apply Classical.byContradiction
        intro h
        exact hk (keeps_pos h)
      constructor
      · rintro ⟨j, hj, e⟩; exact ⟨j, by omega, e⟩
      · rintro ⟨j, hj, e⟩
        by_cases hjm : j = m
        · subst hjm; exact ⟨j - 1, by omega, by rw [← he]; exact e⟩
        · exact ⟨j, by omega, e⟩
/-- The values of a list: sorted, each once. -/
def valL (l : List Int) : List Int := compact (l.mergeSort fun x y => decide (x ≤ y))
theorem msort_le (l : List Int) (i j : Nat) (hij : i ≤ j) (hj : j < (l.mergeSort fun x y => decide (x ≤ y)).length) : (l.mergeSort fun x y => decide (x ≤ y)).toArray[i]! ≤ (l.mergeSort fun x y => decide (x ≤ y)).toArray[j]! := by
  have h := List.pairwise_mergeSort (le := fun x y : Int => decide (x ≤ y)) (fun a b c h1 h2 => by simp at *; omega) (fun a b => by simp; omega) l
  rcases Nat.eq_or_lt_of_le hij with e | e
  · subst e; exact Int.le_refl _
  · have := List.pairwise_iff_getElem.1 h i j (by omega) hj e
    simp only [decide_eq_true_eq] at this
    have hi : i < (l.mergeSort fun x y => decide (x ≤ y)).length := by omega
    rw [getElem!_pos (l.mergeSort fun x y => decide (x ≤ y)).toArray i (by simpa using hi), getElem!_pos (l.mergeSort fun x y => decide (x ≤ y)).toArray j (by simpa using hj)]
    simpa using this
theorem valL_up (l : List Int) : Up (valL l) := (compact_inv _ (msort_le l) _ (Nat.le_refl _)).1
theorem valL_mem (l : List Int) (x : Int) : x ∈ valL l ↔ x ∈ l := by
  unfold valL compact
  rw [(compact_inv _ (msort_le l) _ (Nat.le_refl _)).2 x]
  have e : x ∈ l ↔ x ∈ (l.mergeSort fun x y => decide (x ≤ y)) := List.mem_mergeSort.symm
  rw [e]
  constructor
  · rintro ⟨j, hj, rfl⟩
    rw [getElem!_pos _ _ (by simpa using hj)]
    simp
  · intro h
    obtain ⟨j, hj, e⟩ := List.getElem_of_mem h
    exact ⟨j, hj, by rw [getElem!_pos _ _ (by simpa using hj)]; simpa using e⟩
theorem valL_length (l : List Int) : (valL l).length ≤ l.length := by
  unfold valL
  have := compact_length_le (l.mergeSort fun x y => decide (x ≤ y))
  rwa [List.length_mergeSort] at this
/-- Rank of a number among values. -/
def IsRk (V : List Int) (x : Int) (k : Nat) : Prop := k ≤ V.length ∧ (∀ i, i < k → V.getD i 0 < x) ∧ (k < V.length → x ≤ V.getD k 0)
theorem up_lt {V : List Int} (h : Up V) {i j : Nat} (hij : i < j) (hj : j < V.length) : V.getD i 0 < V.getD j 0 := by
  rw [getD_at _ _ (by omega), getD_at _ _ hj]
  exact List.pairwise_iff_getElem.1 h i j (by omega) hj hij
theorem up_le {V : List Int} (h : Up V) {i j : Nat} (hij : i ≤ j) (hj : j < V.length) : V.getD i 0 ≤ V.getD j 0 := by
  rcases Nat.eq_or_lt_of_le hij with e | e
  · rw [e]; exact Int.le_refl _
  · exact Int.le_of_lt (up_lt h e hj)
theorem rk_uniq {V : List Int} {x : Int} {a b : Nat} (ha : IsRk V x a) (hb : IsRk V x b) : a = b := by
  rcases Nat.lt_trichotomy a b with h | h | h
  · have h1 := hb.2.1 a h
    have h2 := ha.2.2 (by have := hb.1; omega)
    omega
  · exact h
  · have h1 := ha.2.1 b h
    have h2 := hb.2.2 (by have := ha.1; omega)
    omega
/-- The place of a number is its rank. -/
theorem rk_at {V : List Int} (h : Up V) (k : Nat) (hk : k < V.length) : IsRk V (V.getD k 0) k := ⟨by omega, fun i hi => up_lt h hi hk, fun _ => Int.le_refl _⟩
theorem rk_next {V : List Int} (h : Up V) (k : Nat) (hk : k < V.length) : IsRk V (V.getD k 0 + 1) (k + 1) := by
  refine ⟨hk, fun i hi => ?_, fun h1 => ?_⟩
  · have := up_le h (show i ≤ k by omega) hk
    omega
  · have := up_lt h (show k < k + 1 by omega) h1
    omega
theorem rk_get {V : List Int} (h : Up V) {x : Int} (hx : x ∈ V) {k : Nat} (hk : IsRk V x k) : k < V.length ∧ V.getD k 0 = x := by
  obtain ⟨j, hj, e⟩ := List.getElem_of_mem hx
  have := rk_at h j hj
  rw [getD_at _ _ hj, e] at this
  obtain rfl := rk_uniq hk this
  exact ⟨hj, by rw [getD_at _ _ hj, e]⟩
/-- Ranks, one for each number. -/
def Rks (l V : List Int) (R : List Nat) : Prop := R.length = l.length ∧ ∀ i, i < l.length → IsRk V (l.getD i 0) (R.getD i 0)
/-- What rises over the numbers below v is the row of them. -/
theorem up_range {U : List Int} (h : Up U) (v : Nat) (hm : ∀ x : Int, x ∈ U ↔ 0 ≤ x ∧ x < v) : U.length = v ∧ ∀ i, i < v → U.getD i 0 = i := by
  have key : ∀ i, i < U.length → (i : Int) ≤ U.getD i 0 := by
    intro i
    induction i with
    | zero => intro hi; have := (hm (U.getD 0 0)).1 (by rw [getD_at _ _ hi]; exact List.getElem_mem _); omega
    | succ i ih =>
      intro hi
      have h1 := ih (by omega)
      have h2 := up_lt h (show i < i + 1 by omega) hi
      omega
  have hall : ∀ i : Nat, i < v → i < U.length ∧ U.getD i 0 = i := by
    intro i
    induction i using Nat.strongRecOn with
    | ind i ih =>
      intro hi
      obtain ⟨j, hj, e⟩ := List.getElem_of_mem ((hm (i : Int)).2 ⟨by omega, by omega⟩)
      rw [← getD_at U 0 hj] at e
      have h1 := key j hj
      have hji : j ≤ i := by omega
      rcases Nat.eq_or_lt_of_le hji with e1 | e1
      · subst e1; exact ⟨hj, e⟩
      · have := (ih j e1 (by omega)).2
        omega
  refine ⟨?_, fun i hi => (hall i hi).2⟩
  rcases Nat.lt_or_ge v U.length with h1 | h1
  · have h2 := key v h1
    have h3 := (hm (U.getD v 0)).1 (by rw [getD_at _ _ h1]; exact List.getElem_mem _)
    omega
  · rcases Nat.eq_zero_or_pos v with h0 | h0
    · omega
    · have := (hall (v - 1) (by omega)).1; omega
attribute [irreducible] valL

end Go.Proofs.YteeeikninigeoaaGreatDoor

/- Slices of bool. -/
namespace Go.Proofs.YteeeikninigeoaaGreatDoor
set_option linter.unusedVariables false
open Go.RowKit

theorem info_bool : (Tryz.prog.info? 4).map (fun i => (i.zero, i.size, i.bytes)) = some (some (.bool false), 1, 1) := by kernel_rfl
theorem tBools : ElemTy Tryz.prog 34 4 1 1 (.bool false) :=
  ⟨Tryz.underlying34, by obtain ⟨i0, hi, h0, h1, h2⟩ := info_parts info_bool; exact ⟨i0, hi, h0, h1, h2⟩, rfl, by decide⟩
def bls (l : List Bool) : List Value := l.map .bool
theorem bls_length (l : List Bool) : (bls l).length = l.length := by simp [bls]
theorem bls_append (l m : List Bool) : bls (l ++ m) = bls l ++ bls m := by simp [bls]
theorem bls_get (l : List Bool) (i : Nat) (h : i < (bls l).length) : (bls l)[i] = .bool (l[i]'(by simpa [bls] using h)) := by simp [bls]
theorem bls_one (l : List Bool) : ∀ u ∈ bls l, u.oneCell' = true := by
  intro u hu
  obtain ⟨x, _, rfl⟩ := List.mem_map.1 hu
  rfl
theorem bls_set (l : List Bool) (i : Nat) (x : Bool) : (bls l).set i (.bool x) = bls (l.set i x) := by simp [bls, List.map_set]
/-- A slice of bool, n long, that reads as l. -/
def SlBo (w : World) (a : Option Addr) (n cap : Nat) (l : List Bool) : Prop := SlC w a n cap 1 (bls l)
theorem SlBo.at {w : World} {a : Option Addr} {n cap : Nat} {l : List Bool} (h : SlBo w a n cap l) (i : Nat) (hi : i < l.length) : ∃ b off, a = some ⟨b, off, none⟩ ∧ w.cell? ⟨b, off + i, none⟩ = some (.bool l[i]) := by
  obtain ⟨b, off, ha, hc⟩ := SlC.cell h i (by rw [bls_length]; exact hi)
  exact ⟨b, off, ha, by rw [hc, bls_get]⟩
theorem SlBo.len {w : World} {a : Option Addr} {n cap : Nat} {l : List Bool} (h : SlBo w a n cap l) : l.length = n := by
  have := h.hlen
  rw [bls_length] at this; omega
/-- A slice of bool of the call's own. -/
def OwnBo (B : Nat) (w : World) (a : Option Addr) (n cap : Nat) (l : List Bool) : Prop := w.ownsRow B 4 1 (.slice a n cap) n (bls l)
theorem OwnBo.sl {B : Nat} {w : World} {a : Option Addr} {n cap : Nat} {l : List Bool} (h : OwnBo B w a n cap l) : SlBo w a n cap l := own_slc h
theorem OwnBo.len {B : Nat} {w : World} {a : Option Addr} {n cap : Nat} {l : List Bool} (h : OwnBo B w a n cap l) : l.length = n := h.sl.len
/-- What a call hands back: a slice of bool of its own. -/
def RetBo (w : World) (l : List Bool) (e : Ending) (w' : World) : Prop := ∃ a cap, e = .returned (.slice a l.length cap) ∧ OwnBo w.heap.size w' a l.length cap l ∧ Below w.heap.size w w'

end Go.Proofs.YteeeikninigeoaaGreatDoor

