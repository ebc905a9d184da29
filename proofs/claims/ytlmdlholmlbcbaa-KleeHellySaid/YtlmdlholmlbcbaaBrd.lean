/- slices.SortFunc on an own row of elements of several cells: borders by x. -/
import Derived.Test.YtlmdlholmlbcbaaShelfK
import Derived.Shelf.SlSortCmp.NoneTotal
import Derived.Test.YtlmdlholmlbcbaaFlat
import Derived.Test.YtlmdlholmlbcbaaCmpI
import Derived.Test.YtlmdlholmlbcbaaKlP
import Derived.Sort.OwnSortedInts
namespace Go.Proofs.Ytlmdlholmlbcbaa
set_option linter.unusedVariables false
open Go.RowKit Go.Sort Go.Lib
open Pick (Rc Bd bd0)

def bdL (b : Bd) : List Value := [.int .i64 b.x, .int .i64 b.lo, .int .i64 b.hi, .int .i64 b.d]
theorem bdL_len (b : Bd) : (bdL b).length = 4 := rfl
theorem bdL_one (b : Bd) : ∀ v ∈ bdL b, v.oneCell' = true := by
  intro v hv
  simp only [bdL, List.mem_cons, List.not_mem_nil, or_false] at hv
  rcases hv with rfl | rfl | rfl | rfl <;> rfl

theorem flatK_flat {α : Type} [Inhabited α] {enc : α → List Value} {k : Nat} (hk : ∀ x, (enc x).length = k) (hp : 0 < k) (d : Array α) : (flatK enc k d).toList = flat enc d.toList := by
  apply List.ext_getElem?
  intro t
  by_cases ht : t < d.size * k
  · have hq : t / k < d.size := Nat.div_lt_of_lt_mul (by rw [Nat.mul_comm]; exact ht)
    have hr : t % k < k := Nat.mod_lt _ hp
    have h1 := flat_get hk d.toList (t / k) (t % k) (by simpa using hq) hr
    rw [show t / k * k + t % k = t by rw [Nat.mul_comm]; exact Nat.div_add_mod t k] at h1
    have h2 := get_flatK enc k d t ht
    rw [getElem!_pos _ t (by rw [size_flatK]; exact ht), getElem!_pos d _ hq, getElem!_pos (enc d[t / k]) _ (by rw [hk]; exact hr)] at h2
    rw [h1, Array.getElem?_toList, Array.getElem?_eq_getElem (by rw [size_flatK]; exact ht), h2, List.getElem?_eq_getElem (by rw [hk]; exact hr)]
    simp only [Array.getElem_toList]
  · rw [List.getElem?_eq_none (by rw [Array.length_toList, size_flatK]; omega), List.getElem?_eq_none (by rw [flat_length hk, Array.length_toList]; omega)]
theorem holds_cells {w : World} {g : Nat} {cur : Array Value} {e : TypeId} {F : Array Value} (hb : w.heap[g]? = some (.cells cur e (0, 0))) (ht : cur.toList.take F.size = F.toList) : Holds id w g 0 F := by
  intro j hj
  refine ⟨?_, by simp [World.frozen?, hb]⟩
  have h1 : (cur.toList.take F.size)[j]? = F.toList[j]? := by rw [ht]
  rw [List.getElem?_take_of_lt hj] at h1
  simp only [World.cell?, hb, Nat.zero_add]
  simp only [Option.isSome_none, Bool.false_eq_true, if_false]
  rw [← Array.getElem?_toList, h1]
  simp [hj]
theorem heap_cells {w : World} {g n : Nat} {os : Array Obj} {cur : Array Value} {e : TypeId} {fr : Nat × Nat} (d : Array Value) (hb : w.heap[g]? = some (.cells cur e fr)) :
    (grow (putRow id (Sort.ahead w n) g 0 d) os).heap[g]? = some (.cells (putCells id 0 d cur) e fr) := by
  have hg : g < w.heap.size := (Array.getElem?_eq_some_iff.1 hb).1
  rw [heap_grow_old _ _ (by simpa using hg)]
  simp [putRow, mapBlock, Sort.ahead, Array.getElem?_modify, hb, onCells]
theorem grownBy_cells {w : World} {g n : Nat} {os : Array Obj} (d : Array Value) : w.grownBy (grow (putRow id (Sort.ahead w n) g 0 d) os) (some g) := by
  refine ⟨rfl, rfl, rfl, by simp, fun k hk hne => ?_⟩
  rw [heap_grow_old _ _ (by simpa using hk)]
  have : g ≠ k := fun e => hne (by rw [e])
  simp [putRow, mapBlock, Sort.ahead, Array.getElem?_modify, this]
theorem take_cells (cur F : Array Value) (h : F.size ≤ cur.size) : (putCells id 0 F cur).toList.take F.size = F.toList := by
  apply List.ext_getElem?
  intro j
  by_cases hj : j < F.size
  · rw [List.getElem?_take_of_lt hj, Array.getElem?_toList]
    simp [putCells, hj, show j < cur.size by omega]
  · rw [List.getElem?_take_eq_none (by omega), List.getElem?_eq_none (by simp; omega)]
theorem own_cells {w : World} {base g cap n m size : Nat} {e : TypeId} {os : Array Obj} {cur : Array Value} (F : Array Value) (hF : F.size = m * size) (hbase : base ≤ g) (hb : w.heap[g]? = some (.cells cur e (0, 0)))
    (h1 : m ≤ cap) (h2 : cap ≤ maxLen) (h3 : cur.size = cap * size) :
    (grow (putRow id (Sort.ahead w n) g 0 F) os).ownsRow base e size (.slice (some ⟨g, 0, none⟩) m cap) m F.toList :=
  ⟨by simp [hF], .inr ⟨g, cap, _, rfl, hbase, heap_cells _ hb, h1, h2, by simp [putCells, h3], by
    rw [← hF]
    exact take_cells cur F (by rw [hF, h3]; exact Nat.mul_le_mul_right _ h1)⟩⟩

def cfB (a b : Bd) : Int := cmpI a.x b.x
theorem ext_arr {α : Type} (d : Array α) (n : Nat) (h : d.size = n) : d.extract 0 n = d := by subst h; simp
theorem cfB_neg (a b : Bd) : cfB a b < 0 ↔ a.x < b.x := by
  unfold cfB cmpI
  repeat' split
  all_goals omega
theorem swoB : SWO (ltOf cfB) where
  irrefl x := by unfold ltOf; rw [decide_eq_false_iff_not, cfB_neg]; omega
  trans x y z h1 h2 := by unfold ltOf at *; rw [decide_eq_true_eq, cfB_neg] at *; omega
  ntrans x y z h1 h2 := by unfold ltOf at *; rw [decide_eq_false_iff_not, cfB_neg] at *; omega

set_option maxHeartbeats 1000000 in
theorem brdCmp_any (x y : Bd) (w : World) : Calls Try.prog 112 #[.agg (bdL x).toArray, .agg (bdL y).toArray] w fun e w' => e = .returned (.int .i64 (cfB x y)) ∧ ∃ q os, w' = grow (w.drewN q) os := by
  have C := Kp.mk (compare_any x.x y.x)
  show Calls _ _ #[.agg #[.int .i64 x.x, .int .i64 x.lo, .int .i64 x.hi, .int .i64 x.d], .agg #[.int .i64 y.x, .int .i64 y.lo, .int .i64 y.hi, .int .i64 y.d]] _ _
  rw [show cfB x y = cmpI x.x y.x from rfl]
  go_enter Try.func112, Try.ntmps112
  go_wp2_with (go_at_call 67; refine (C.out _).mono ?_; rintro e w' ⟨rfl, rfl⟩)
  go_ret
  exact ⟨rfl, 0, #[.cells #[.int .i64 x.x, .int .i64 x.lo, .int .i64 x.hi, .int .i64 x.d] 149, .cells #[.int .i64 y.x, .int .i64 y.lo, .int .i64 y.hi, .int .i64 y.d] 149], by rw [alloc_eq_grow, alloc_eq_grow, grow_grow]; rfl⟩

set_option maxHeartbeats 1000000 in
theorem sortB_own (L : List Bd) (n B : Nat) (a : Option Addr) (c : Nat) (w : World) (hl : L.length = n) (hn : n ≤ 1000) (h : w.ownsRow B 149 4 (.slice a n c) n (flat bdL L)) :
    Calls Try.prog 111 #[.slice a n c, .func (.func 112) #[] #[]] w fun e w' => e = .returned (.tuple #[]) ∧ ∃ L', Kp (L'.Perm L ∧ ∀ i j, i ≤ j → j < L'.length → (L'.getD i bd0).x ≤ (L'.getD j bd0).x) ∧ Kp (w'.ownsRow B 149 4 (.slice a n c) n (flat bdL L')) ∧ Kp (w.grownBy w' (blk a)) := by
  rcases Nat.eq_zero_or_pos n with hz | hn0
  · subst hz
    obtain rfl : L = [] := List.length_eq_zero_iff.1 hl
    refine Calls.mono (show Calls Try.prog 111 _ _ _ from AnyF.slices_SortFunc_none Try.sortBrd a c _ w) ?_
    rintro e w' ⟨rfl, rfl⟩
    exact ⟨rfl, [], ⟨List.Perm.refl _, fun i j _ hj => absurd hj (by simp)⟩, ⟨h⟩, ⟨grown_refl _ _⟩⟩
  obtain ⟨gb, rfl, hg, hg2⟩ := own_some h hn0
  rcases h.2 with ⟨hv, _⟩ | ⟨g', cap', cur, hv, hB', hgb, h1, h2, h3, h4⟩
  · cases hv
  simp only [Value.slice.injEq, Option.some.injEq, Addr.mk.injEq, and_true, true_and] at hv
  obtain ⟨rfl, rfl⟩ := hv
  have hs : L.toArray.size = n := by simp [hl]
  have hH : HoldsK bdL 4 w gb 0 L.toArray := holds_cells hgb (by
    rw [flatK_flat bdL_len (by omega), size_flatK, hs]
    exact h4)
  have hC : CmpLays Try.prog 112 #[] bdL 4 cfB gb 0 L.toArray.size w := by
    intro m os dk hk x y
    exact brdCmp_any x y _
  have hS := AnyQ.slices_SortFunc Try.sortBrd 4 (fun w => by kernel_rfl) (fun w => by kernel_rfl) bdL bdL_len bdL_one cfB swoB 112 #[] gb 0 c L.toArray w (fun _ _ => by kernel_rfl) hC hH hg2 (by rw [hs]; omega)
  rw [hs] at hS
  refine Calls.mono (show Calls Try.prog 111 _ _ _ from hS) ?_
  rintro e w' ⟨rfl, d', q, os, hp, hsrt, rfl⟩
  have hsz : d'.size = n := by rw [hp.1, hs]
  refine ⟨rfl, d'.toList, ⟨?_, ?_⟩, ⟨?_⟩, ⟨?_⟩⟩
  · have := hp.2.2
    rw [ext_arr d' _ hsz, ext_arr L.toArray _ hs] at this
    exact this
  · intro i j hij hj
    rw [Array.length_toList] at hj
    rcases Nat.lt_or_eq_of_le hij with hlt | rfl
    · have h5 := hsrt i j (Nat.zero_le _) hlt (by omega)
      unfold ltOf at h5
      rw [decide_eq_false_iff_not, cfB_neg, getElem!_pos d' j hj, getElem!_pos d' i (by omega)] at h5
      rw [getD_at _ _ (by rw [Array.length_toList]; omega), getD_at _ _ (by rw [Array.length_toList]; exact hj), Array.getElem_toList, Array.getElem_toList]
      omega
    · exact Int.le_refl _
  · have := own_cells (w := w) (base := B) (g := gb) (cap := c) (n := q) (m := n) (size := 4) (e := 149) (os := os) (cur := cur) (flatK bdL 4 d') (by rw [size_flatK, hsz]) hB' hgb h1 h2 h3
    rw [flatK_flat bdL_len (by omega)] at this
    exact this
  · exact grownBy_cells _

end Go.Proofs.Ytlmdlholmlbcbaa
