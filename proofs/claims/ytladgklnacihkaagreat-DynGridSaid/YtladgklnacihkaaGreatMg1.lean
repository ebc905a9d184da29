import Derived.Test.YtladgklnacihkaaGreatMg0
import Derived.Deep.Slices
import Derived.Deep.Fields
import Derived.WalkKit
import Derived.Shelf.SlSortCmp.WholeK
import Derived.Sort.OwnSortedInts
/- Arguments that are structs of integers, and slices of these. -/
namespace Go.Proofs.YtladgklnacihkaaGreat
set_option linter.unusedVariables false
open Go.RowKit Go.ChangeShapes Go.WideShapes Go.Deep

/-- All cells of the type are integers. -/
def Intly (P : Program) (t : TypeId) : Prop := ∀ {H : Type} (enc : TypeId × Value → H) (w : World) (base : Nat) (spare : Nat → Bool) (held : Bool) (fuel : Nat) (cs : List Value) (x : DataW H × List MemPlace),
  DataW.trod enc P w base spare held fuel t cs = some x → cs.length = P.cellsOf t ∧ ∀ j, j < cs.length → ∃ n, cs[j]? = some (.int .i64 n) ∧ (Lit.int .i64 n).wf = true
theorem intly_int {P : Program} {t : TypeId} (h : P.underlying t = some (.int .i64)) (hc : P.cellsOf t = 1) : Intly P t := by
  intro H enc w base spare held fuel cs x hx
  obtain ⟨n, rfl, _, hw⟩ := DataW.trod_int h hx
  refine ⟨hc.symm, fun j hj => ⟨n, ?_, hw⟩⟩
  have : j = 0 := by simp at hj; omega
  subst this; rfl
theorem intly_struct {P : Program} {t : TypeId} {fs : Array Field} (hs : P.underlying t = some (.struct fs)) (hcov : ∀ j, j < P.cellsOf t → ∃ (i : Nat) (f : Field), fs[i]? = some f ∧ f.offset ≤ j ∧ j < f.offset + P.cellsOf f.type ∧ Intly P f.type) : Intly P t := by
  intro H enc w base spare held fuel cs x hx
  obtain ⟨xs, n, _, _, hlen, hxl, hf⟩ := DataW.trod_struct hs hx
  refine ⟨hlen, fun j hj => ?_⟩
  obtain ⟨i, f, hi, h1, h2, h3⟩ := hcov j (by omega)
  have hi' : i < xs.length := by rw [hxl]; exact (Array.getElem?_eq_some_iff.1 hi).1
  have h4 := hf i f hi
  rw [List.getElem?_eq_getElem hi'] at h4
  obtain ⟨h5, h6⟩ := h3 enc w base spare held n _ _ h4
  obtain ⟨z, hz, hw⟩ := h6 (j - f.offset) (by rw [h5]; omega)
  refine ⟨z, ?_, hw⟩
  rw [List.getElem?_take_of_lt (by omega), List.getElem?_drop, show f.offset + (j - f.offset) = j by omega] at hz
  exact hz
theorem intly_flat {P : Program} {t ti : TypeId} {fs : Array Field} (hs : P.underlying t = some (.struct fs)) (hone : oneCellFields P fs = true) (hC : P.cellsOf t = fs.size) (hall : (fs.toList.all fun f => f.type == ti) = true) (hi : P.underlying ti = some (.int .i64)) (hc : P.cellsOf ti = 1) : Intly P t := by
  refine intly_struct hs fun j hj => ?_
  rw [hC] at hj
  obtain ⟨ho, hk⟩ := hone_of hone j fs[j] (by simp [hj])
  have hty : fs[j].type = ti := by
    have := List.all_eq_true.1 hall fs[j] (by simp)
    simpa using this
  exact ⟨j, fs[j], by simp [hj], by omega, by omega, by rw [hty]; exact intly_int hi hc⟩
theorem list_of3 {l : List Int} (h : l.length = 3) : ∃ x0 x1 x2, l = [x0, x1, x2] := by
  match l, h with
  | [x0, x1, x2], _ => exact ⟨x0, x1, x2, rfl⟩
theorem list_of4 {l : List Int} (h : l.length = 4) : ∃ x0 x1 x2 x3, l = [x0, x1, x2, x3] := by
  match l, h with
  | [x0, x1, x2, x3], _ => exact ⟨x0, x1, x2, x3, rfl⟩
theorem list_of8 {l : List Int} (h : l.length = 8) : ∃ x0 x1 x2 x3 x4 x5 x6 x7, l = [x0, x1, x2, x3, x4, x5, x6, x7] := by
  match l, h with
  | [x0, x1, x2, x3, x4, x5, x6, x7], _ => exact ⟨x0, x1, x2, x3, x4, x5, x6, x7, rfl⟩
theorem choose_list {N : Nat} {p : Nat → Int → Prop} (h : ∀ i, i < N → ∃ n, p i n) : ∃ zs : List Int, zs.length = N ∧ ∀ i, i < N → p i (zs.getD i 0) := by
  induction N with
  | zero => exact ⟨[], rfl, fun i hi => by omega⟩
  | succ N ih =>
    obtain ⟨zs, hl, hz⟩ := ih (fun i hi => h i (by omega))
    obtain ⟨n, hn⟩ := h N (by omega)
    refine ⟨zs ++ [n], by simp [hl], fun i hi => ?_⟩
    by_cases e : i = N
    · subst e
      rw [getD_at _ _ (by simp [hl]), List.getElem_append_right (by omega)]
      simpa [hl] using hn
    · rw [getD_at _ _ (by simp [hl]; omega), List.getElem_append_left (by omega), ← getD_at zs 0 (by omega)]
      exact hz i (by omega)
section
variable {H : Type} {enc : TypeId × Value → H} {P : Program} {w : World} {base : Nat} {spare : Nat → Bool} {held : Bool}
theorem open_flat {t e : TypeId} {fuel k : Nat} {a : Option Addr} {len cap : Nat} {x : DataW H × List MemPlace} (ht : P.underlying t = some (.slice e)) (hI : Intly P e) (hC : P.cellsOf e = k) (hk : 0 < k)
    (h : DataW.trod enc P w base spare held fuel t [.slice a len cap] = some x) : ∃ zs, IsFlat k w a len cap zs := by
  rcases open_slice ht h with ⟨h0, _⟩ | ⟨ad, len', cap', m, n, D, Pl, hcs, hb, hl, hm, hmm, hx, hi⟩
  · simp only [List.cons.injEq, Value.slice.injEq, and_true] at h0
    obtain ⟨rfl, rfl, rfl⟩ := h0
    exact ⟨[], .inl ⟨rfl, rfl, rfl, rfl⟩⟩
  · simp only [List.cons.injEq, Value.slice.injEq, and_true] at hcs
    obtain ⟨rfl, rfl, rfl⟩ := hcs
    have hle : len ≤ m := by rw [hmm]; split <;> omega
    obtain ⟨zs, hz, hp⟩ := choose_list (N := len * k) (p := fun i n => w.cell? (ad.add i) = some (.int .i64 n) ∧ (Lit.int .i64 n).wf = true) (fun i hil => by
      have hdm := Nat.div_add_mod i k
      have hd : i / k < len := Nat.div_lt_of_lt_mul (by rw [Nat.mul_comm]; exact hil)
      have hmd : i % k < k := Nat.mod_lt _ hk
      obtain ⟨cs', hc, ht'⟩ := hi (i / k) (by omega)
      rw [hC] at hc
      obtain ⟨_, hcl, hat⟩ := World.cells?_some hc
      obtain ⟨h5, h6⟩ := hI enc w base spare held n _ _ ht'
      obtain ⟨z, hz, hw⟩ := h6 (i % k) (by omega)
      refine ⟨z, ?_, hw⟩
      have := hat (i % k) hmd
      rw [add_add, hz, Nat.mul_comm, hdm] at this
      exact this)
    refine ⟨zs, .inr ⟨ad, rfl, hl, hm, hz, fun i hi => (hp i (by omega)).1, fun z hzm => ?_⟩⟩
    obtain ⟨i, hi, rfl⟩ := List.mem_iff_getElem.1 hzm
    have := (hp i (by omega)).2
    rwa [getD_at _ _ hi] at this
/-- A struct of integers by value. -/
theorem open_agg {r : Reach} {b0 k : Nat} {t : TypeId} {fs : Array Field} {v : Value} {d : DataW H} {p : List MemPlace} (hs : P.underlying t = some (.struct fs)) (hI : Intly P t) (hC : P.cellsOf t = k)
    (hv : Value.okWide P w r b0 t v) (h : DataW.Trod enc P w base spare held t v d p) : ∃ zs : List Int, v = .agg (ints zs).toArray ∧ zs.length = k ∧ ∀ n ∈ zs, (Lit.int .i64 n).wf = true := by
  obtain ⟨cs, rfl, hsz⟩ := okWide_struct hs hv
  obtain ⟨fuel, hf⟩ := h
  have hf' : DataW.trod enc P w base spare held fuel t cs.toList = some (d, p) := hf
  obtain ⟨h1, h2⟩ := hI enc w base spare held fuel _ _ hf'
  obtain ⟨zs, hz, hp⟩ := choose_list (N := k) (p := fun i n => cs.toList[i]? = some (.int .i64 n) ∧ (Lit.int .i64 n).wf = true) (fun i hi => h2 i (by rw [h1, hC]; exact hi))
  refine ⟨zs, ?_, hz, fun z hzm => ?_⟩
  · congr 1
    apply Array.ext'
    rw [List.toList_toArray]
    apply List.ext_getElem?
    intro i
    by_cases hi : i < k
    · rw [(hp i hi).1, List.getElem?_eq_getElem (by rw [ints_length]; omega), ints_get, getD_at _ _ (by omega)]
    · rw [List.getElem?_eq_none (by rw [h1, hC]; omega), List.getElem?_eq_none (by rw [ints_length]; omega)]
  · obtain ⟨i, hi, rfl⟩ := List.mem_iff_getElem.1 hzm
    have := (hp i (by omega)).2
    rwa [getD_at _ _ hi] at this
end

end Go.Proofs.YtladgklnacihkaaGreat

/- Arguments that are chores. -/
namespace Go.Proofs.YtladgklnacihkaaGreat
set_option linter.unusedVariables false
open Go.RowKit Go.ChangeShapes Go.WideShapes Go.Deep

theorem intly_spot : Intly Tryz.prog 24 :=
  intly_flat Tryz.underlying24 (by kernel_rfl) (by kernel_rfl) (ti := 3) (by kernel_rfl) Tryz.underlying3 (by kernel_rfl)
theorem intly_nat : Intly Tryz.prog 3 := intly_int Tryz.underlying3 (by kernel_rfl)
/-- A struct of an integer, three of them in a struct, and four more. -/
theorem intly_134 {P : Program} {t ti ts : TypeId} {f0 f1 f2 f3 f4 f5 : Field} (hs : P.underlying t = some (.struct #[f0, f1, f2, f3, f4, f5])) (hC : P.cellsOf t = 8)
    (h0 : f0.type = ti ∧ f0.offset = 0) (h1 : f1.type = ts ∧ f1.offset = 1) (h2 : f2.type = ti ∧ f2.offset = 4) (h3 : f3.type = ti ∧ f3.offset = 5) (h4 : f4.type = ti ∧ f4.offset = 6) (h5 : f5.type = ti ∧ f5.offset = 7)
    (hi : Intly P ti) (ht : Intly P ts) (c1 : P.cellsOf ti = 1) (c3 : P.cellsOf ts = 3) : Intly P t := by
  obtain ⟨a0, b0⟩ := h0
  obtain ⟨a1, b1⟩ := h1
  obtain ⟨a2, b2⟩ := h2
  obtain ⟨a3, b3⟩ := h3
  obtain ⟨a4, b4⟩ := h4
  obtain ⟨a5, b5⟩ := h5
  refine intly_struct hs fun j hj => ?_
  rw [hC] at hj
  have hj' : j = 0 ∨ (1 ≤ j ∧ j < 4) ∨ j = 4 ∨ j = 5 ∨ j = 6 ∨ j = 7 := by omega
  rcases hj' with h | ⟨ha, hb⟩ | h | h | h | h
  · exact ⟨0, f0, rfl, by omega, by rw [a0, c1]; omega, by rw [a0]; exact hi⟩
  · exact ⟨1, f1, rfl, by omega, by rw [a1, c3]; omega, by rw [a1]; exact ht⟩
  · exact ⟨2, f2, rfl, by omega, by rw [a2, c1]; omega, by rw [a2]; exact hi⟩
  · exact ⟨3, f3, rfl, by omega, by rw [a3, c1]; omega, by rw [a3]; exact hi⟩
  · exact ⟨4, f4, rfl, by omega, by rw [a4, c1]; omega, by rw [a4]; exact hi⟩
  · exact ⟨5, f5, rfl, by omega, by rw [a5, c1]; omega, by rw [a5]; exact hi⟩
theorem intly_chore : Intly Tryz.prog 52 :=
  intly_134 Tryz.underlying52 (by kernel_rfl) (ti := 3) (ts := 24) ⟨rfl, rfl⟩ ⟨rfl, rfl⟩ ⟨rfl, rfl⟩ ⟨rfl, rfl⟩ ⟨rfl, rfl⟩ ⟨rfl, rfl⟩ intly_nat intly_spot (by kernel_rfl) (by kernel_rfl)

end Go.Proofs.YtladgklnacihkaaGreat

/- A row of the call's own of elements of several cells, as the library's sorting sees it. -/
namespace Go.Proofs.YtladgklnacihkaaGreat
set_option linter.unusedVariables false
open Go.RowKit Go.Sort Go.Lib

theorem flatK_flat {α : Type} [Inhabited α] {enc : α → List Value} {k : Nat} (hk : ∀ x, (enc x).length = k) (hp : 0 < k) (d : Array α) : (flatK enc k d).toList = flat enc d.toList := by
  apply List.ext_getElem?
  intro t
  by_cases ht : t < d.size * k
  · have hq : t / k < d.size := Nat.div_lt_of_lt_mul (by rw [Nat.mul_comm]; exact ht)
    have hr : t % k < k := Nat.mod_lt _ hp
    have h1 := flat_get hk d.toList (t / k) (t % k) (by simpa using hq) hr
    rw [show t / k * k + t % k = t by rw [Nat.mul_comm]; exact Nat.div_add_mod t k] at h1
    have h2 := get_flatK enc k d t ht
    rw [getElem!_pos _ t (by rw [size_flatK]; exact ht), getElem!_pos d _ hq, getElem!_pos (enc d[t / k]) _ (by rw [hk]; exact hr)] at h2
    rw [h1, Array.getElem?_toList, Array.getElem?_eq_getElem (by rw [size_flatK]; exact ht), h2, List.getElem?_eq_getElem (by rw [hk]; exact hr)]
    simp only [Array.getElem_toList]
  · rw [List.getElem?_eq_none (by rw [Array.length_toList, size_flatK]; omega), List.getElem?_eq_none (by rw [flat_length hk, Array.length_toList]; omega)]
theorem holds_cells {w : World} {g : Nat} {cur : Array Value} {e : TypeId} {F : Array Value} (hb : w.heap[g]? = some (.cells cur e (0, 0))) (ht : cur.toList.take F.size = F.toList) : Holds id w g 0 F := by
  intro j hj
  refine ⟨?_, by simp [World.frozen?, hb]⟩
  have h1 : (cur.toList.take F.size)[j]? = F.toList[j]? := by rw [ht]
  rw [List.getElem?_take_of_lt hj] at h1
  simp only [World.cell?, hb, Nat.zero_add]
  simp only [Option.isSome_none, Bool.false_eq_true, if_false]
  rw [← Array.getElem?_toList, h1]
  simp [hj]
theorem heap_cells {w : World} {g n : Nat} {os : Array Obj} {cur : Array Value} {e : TypeId} {fr : Nat × Nat} (d : Array Value) (hb : w.heap[g]? = some (.cells cur e fr)) :
    (grow (putRow id (Sort.ahead w n) g 0 d) os).heap[g]? = some (.cells (putCells id 0 d cur) e fr) := by
  have hg : g < w.heap.size := (Array.getElem?_eq_some_iff.1 hb).1
  rw [heap_grow_old _ _ (by simpa using hg)]
  simp [putRow, mapBlock, Sort.ahead, Array.getElem?_modify, hb, onCells]
theorem grownBy_cells {w : World} {g n : Nat} {os : Array Obj} (d : Array Value) : w.grownBy (grow (putRow id (Sort.ahead w n) g 0 d) os) (some g) := by
  refine ⟨rfl, rfl, rfl, by simp, fun k hk hne => ?_⟩
  rw [heap_grow_old _ _ (by simpa using hk)]
  have : g ≠ k := fun e => hne (by rw [e])
  simp [putRow, mapBlock, Sort.ahead, Array.getElem?_modify, this]
theorem take_cells (cur F : Array Value) (h : F.size ≤ cur.size) : (putCells id 0 F cur).toList.take F.size = F.toList := by
  apply List.ext_getElem?
  intro j
  by_cases hj : j < F.size
  · rw [List.getElem?_take_of_lt hj, Array.getElem?_toList]
    simp [putCells, hj, show j < cur.size by omega]
  · rw [List.getElem?_take_eq_none (by omega), List.getElem?_eq_none (by simp; omega)]
theorem own_cells {w : World} {base g cap n m size : Nat} {e : TypeId} {os : Array Obj} {cur : Array Value} (F : Array Value) (hF : F.size = m * size) (hbase : base ≤ g) (hb : w.heap[g]? = some (.cells cur e (0, 0)))
    (h1 : m ≤ cap) (h2 : cap ≤ maxLen) (h3 : cur.size = cap * size) :
    (grow (putRow id (Sort.ahead w n) g 0 F) os).ownsRow base e size (.slice (some ⟨g, 0, none⟩) m cap) m F.toList :=
  ⟨by simp [hF], .inr ⟨g, cap, _, rfl, hbase, heap_cells _ hb, h1, h2, by simp [putCells, h3], by
    rw [← hF]
    exact take_cells cur F (by rw [hF, h3]; exact Nat.mul_le_mul_right _ h1)⟩⟩

theorem ext_arr {α : Type} (d : Array α) (n : Nat) (h : d.size = n) : d.extract 0 n = d := by subst h; simp

end Go.Proofs.YtladgklnacihkaaGreat

