/- Arguments that are structs of integers, and slices of these. -/
import Derived.Test.YteeeikninigeoaaDoorFlat
import Derived.Deep.Slices
import Derived.Deep.Fields
namespace Go.Proofs.YteeeikninigeoaaDoor
set_option linter.unusedVariables false
open Go.RowKit Go.ChangeShapes Go.WideShapes Go.Deep

/-- All cells of the type are integers. -/
def Intly (P : Program) (t : TypeId) : Prop := ∀ {H : Type} (enc : TypeId × Value → H) (w : World) (base : Nat) (spare : Nat → Bool) (held : Bool) (fuel : Nat) (cs : List Value) (x : DataW H × List MemPlace),
  DataW.trod enc P w base spare held fuel t cs = some x → cs.length = P.cellsOf t ∧ ∀ j, j < cs.length → ∃ n, cs[j]? = some (.int .i64 n) ∧ (Lit.int .i64 n).wf = true
theorem intly_int {P : Program} {t : TypeId} (h : P.underlying t = some (.int .i64)) (hc : P.cellsOf t = 1) : Intly P t := by
  intro H enc w base spare held fuel cs x hx
  obtain ⟨n, rfl, _, hw⟩ := DataW.trod_int h hx
  refine ⟨hc.symm, fun j hj => ⟨n, ?_, hw⟩⟩
  have : j = 0 := by simp at hj; omega
  subst this; rfl
theorem intly_struct {P : Program} {t : TypeId} {fs : Array Field} (hs : P.underlying t = some (.struct fs)) (hcov : ∀ j, j < P.cellsOf t → ∃ (i : Nat) (f : Field), fs[i]? = some f ∧ f.offset ≤ j ∧ j < f.offset + P.cellsOf f.type ∧ Intly P f.type) : Intly P t := by
  intro H enc w base spare held fuel cs x hx
  obtain ⟨xs, n, _, _, hlen, hxl, hf⟩ := DataW.trod_struct hs hx
  refine ⟨hlen, fun j hj => ?_⟩
  obtain ⟨i, f, hi, h1, h2, h3⟩ := hcov j (by omega)
  have hi' : i < xs.length := by rw [hxl]; exact (Array.getElem?_eq_some_iff.1 hi).1
  have h4 := hf i f hi
  rw [List.getElem?_eq_getElem hi'] at h4
  obtain ⟨h5, h6⟩ := h3 enc w base spare held n _ _ h4
  obtain ⟨z, hz, hw⟩ := h6 (j - f.offset) (by rw [h5]; omega)
  refine ⟨z, ?_, hw⟩
  rw [List.getElem?_take_of_lt (by omega), List.getElem?_drop, show f.offset + (j - f.offset) = j by omega] at hz
  exact hz
theorem intly_flat {P : Program} {t ti : TypeId} {fs : Array Field} (hs : P.underlying t = some (.struct fs)) (hone : oneCellFields P fs = true) (hC : P.cellsOf t = fs.size) (hall : (fs.toList.all fun f => f.type == ti) = true) (hi : P.underlying ti = some (.int .i64)) (hc : P.cellsOf ti = 1) : Intly P t := by
  refine intly_struct hs fun j hj => ?_
  rw [hC] at hj
  obtain ⟨ho, hk⟩ := hone_of hone j fs[j] (by simp [hj])
  have hty : fs[j].type = ti := by
    have := List.all_eq_true.1 hall fs[j] (by simp)
    simpa using this
  exact ⟨j, fs[j], by simp [hj], by omega, by omega, by rw [hty]; exact intly_int hi hc⟩
theorem list_of3 {l : List Int} (h : l.length = 3) : ∃ x0 x1 x2, l = [x0, x1, x2] := by
  match l, h with
  | [x0, x1, x2], _ => exact ⟨x0, x1, x2, rfl⟩
theorem list_of4 {l : List Int} (h : l.length = 4) : ∃ x0 x1 x2 x3, l = [x0, x1, x2, x3] := by
  match l, h with
  | [x0, x1, x2, x3], _ => exact ⟨x0, x1, x2, x3, rfl⟩
theorem list_of8 {l : List Int} (h : l.length = 8) : ∃ x0 x1 x2 x3 x4 x5 x6 x7, l = [x0, x1, x2, x3, x4, x5, x6, x7] := by
  match l, h with
  | [x0, x1, x2, x3, x4, x5, x6, x7], _ => exact ⟨x0, x1, x2, x3, x4, x5, x6, x7, rfl⟩
theorem choose_list {N : Nat} {p : Nat → Int → Prop} (h : ∀ i, i < N → ∃ n, p i n) : ∃ zs : List Int, zs.length = N ∧ ∀ i, i < N → p i (zs.getD i 0) := by
  induction N with
  | zero => exact ⟨[], rfl, fun i hi => by omega⟩
  | succ N ih =>
    obtain ⟨zs, hl, hz⟩ := ih (fun i hi => h i (by omega))
    obtain ⟨n, hn⟩ := h N (by omega)
    refine ⟨zs ++ [n], by simp [hl], fun i hi => ?_⟩
    by_cases e : i = N
    · subst e
      rw [getD_at _ _ (by simp [hl]), List.getElem_append_right (by omega)]
      simpa [hl] using hn
    · rw [getD_at _ _ (by simp [hl]; omega), List.getElem_append_left (by omega), ← getD_at zs 0 (by omega)]
      exact hz i (by omega)
section
variable {H : Type} {enc : TypeId × Value → H} {P : Program} {w : World} {base : Nat} {spare : Nat → Bool} {held : Bool}
theorem open_flat {t e : TypeId} {fuel k : Nat} {a : Option Addr} {len cap : Nat} {x : DataW H × List MemPlace} (ht : P.underlying t = some (.slice e)) (hI : Intly P e) (hC : P.cellsOf e = k) (hk : 0 < k)
    (h : DataW.trod enc P w base spare held fuel t [.slice a len cap] = some x) : ∃ zs, IsFlat k w a len cap zs := by
  rcases open_slice ht h with ⟨h0, _⟩ | ⟨ad, len', cap', m, n, D, Pl, hcs, hb, hl, hm, hmm, hx, hi⟩
  · simp only [List.cons.injEq, Value.slice.injEq, and_true] at h0
    obtain ⟨rfl, rfl, rfl⟩ := h0
    exact ⟨[], .inl ⟨rfl, rfl, rfl, rfl⟩⟩
  · simp only [List.cons.injEq, Value.slice.injEq, and_true] at hcs
    obtain ⟨rfl, rfl, rfl⟩ := hcs
    have hle : len ≤ m := by rw [hmm]; split <;> omega
    obtain ⟨zs, hz, hp⟩ := choose_list (N := len * k) (p := fun i n => w.cell? (ad.add i) = some (.int .i64 n) ∧ (Lit.int .i64 n).wf = true) (fun i hil => by
      have hdm := Nat.div_add_mod i k
      have hd : i / k < len := Nat.div_lt_of_lt_mul (by rw [Nat.mul_comm]; exact hil)
      have hmd : i % k < k := Nat.mod_lt _ hk
      obtain ⟨cs', hc, ht'⟩ := hi (i / k) (by omega)
      rw [hC] at hc
      obtain ⟨_, hcl, hat⟩ := World.cells?_some hc
      obtain ⟨h5, h6⟩ := hI enc w base spare held n _ _ ht'
      obtain ⟨z, hz, hw⟩ := h6 (i % k) (by omega)
      refine ⟨z, ?_, hw⟩
      have := hat (i % k) hmd
      rw [add_add, hz, Nat.mul_comm, hdm] at this
      exact this)
    refine ⟨zs, .inr ⟨ad, rfl, hl, hm, hz, fun i hi => (hp i (by omega)).1, fun z hzm => ?_⟩⟩
    obtain ⟨i, hi, rfl⟩ := List.mem_iff_getElem.1 hzm
    have := (hp i (by omega)).2
    rwa [getD_at _ _ hi] at this
/-- A struct of integers by value. -/
theorem open_agg {r : Reach} {b0 k : Nat} {t : TypeId} {fs : Array Field} {v : Value} {d : DataW H} {p : List MemPlace} (hs : P.underlying t = some (.struct fs)) (hI : Intly P t) (hC : P.cellsOf t = k)
    (hv : Value.okWide P w r b0 t v) (h : DataW.Trod enc P w base spare held t v d p) : ∃ zs : List Int, v = .agg (ints zs).toArray ∧ zs.length = k ∧ ∀ n ∈ zs, (Lit.int .i64 n).wf = true := by
  obtain ⟨cs, rfl, hsz⟩ := okWide_struct hs hv
  obtain ⟨fuel, hf⟩ := h
  have hf' : DataW.trod enc P w base spare held fuel t cs.toList = some (d, p) := hf
  obtain ⟨h1, h2⟩ := hI enc w base spare held fuel _ _ hf'
  obtain ⟨zs, hz, hp⟩ := choose_list (N := k) (p := fun i n => cs.toList[i]? = some (.int .i64 n) ∧ (Lit.int .i64 n).wf = true) (fun i hi => h2 i (by rw [h1, hC]; exact hi))
  refine ⟨zs, ?_, hz, fun z hzm => ?_⟩
  · congr 1
    apply Array.ext'
    rw [List.toList_toArray]
    apply List.ext_getElem?
    intro i
    by_cases hi : i < k
    · rw [(hp i hi).1, List.getElem?_eq_getElem (by rw [ints_length]; omega), ints_get, getD_at _ _ (by omega)]
    · rw [List.getElem?_eq_none (by rw [h1, hC]; omega), List.getElem?_eq_none (by rw [ints_length]; omega)]
  · obtain ⟨i, hi, rfl⟩ := List.mem_iff_getElem.1 hzm
    have := (hp i (by omega)).2
    rwa [getD_at _ _ hi] at this
end

end Go.Proofs.YteeeikninigeoaaDoor
