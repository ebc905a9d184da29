/- Package pers: versions, plain; what lies in memory while changes are played. -/
import Derived.Test.YtdjcmemdlmfgpaaPersC
import Derived.Test.YtdjcmemdlmfgpaaFlat
namespace Go.Proofs.Ytdjcmemdlmfgpaa
set_option linter.unusedVariables false
open Go.RowKit

/-- A change: 1: a number is set; 2: joined with another version. -/
structure Chg where
  kind : Nat
  src : Nat
  at_ : Nat
  amt : Int
  wi : Nat
def chL (c : Chg) : List Value := [.int .i64 c.kind, .int .i64 c.src, .int .i64 c.at_, .int .i64 c.amt, .int .i64 c.wi]
theorem chL_len (c : Chg) : (chL c).length = 5 := rfl
theorem chL_one (c : Chg) : ∀ u ∈ chL c, u.oneCell' = true := by
  intro u hu
  simp only [chL, List.mem_cons, List.not_mem_nil, or_false] at hu
  rcases hu with rfl | rfl | rfl | rfl | rfl <;> rfl
structure Chg.Ok (c : Chg) (k n : Nat) : Prop where
  k1 : c.kind = 1 ∨ c.kind = 2
  s : c.src ≤ k
  a : c.at_ < n
  w : c.wi ≤ k
abbrev ch0 : Chg := ⟨1, 0, 0, 0, 0⟩
abbrev pt0 : PT := .leaf 0 0
/-- All versions behind k changes, and how many nodes there are. -/
def verT (l : List Int) (cs : List Chg) : Nat → List PT × Nat
  | 0 => ([(growT l.length 0 l).1], (growT l.length 0 l).2)
  | k + 1 =>
    let v := verT l cs k
    let c := cs.getD k ch0
    let r := if c.kind = 1 then setT (v.1.getD c.src pt0) c.at_ c.amt v.2 else withT (v.1.getD c.src pt0) (v.1.getD c.wi pt0) c.at_ v.2
    (v.1 ++ [r.1], r.2)
def valK (l : List Int) (cs : List Chg) : Nat → List (List Int)
  | 0 => [l]
  | k + 1 =>
    let v := valK l cs k
    let c := cs.getD k ch0
    v ++ [if c.kind = 1 then (v.getD c.src []).set c.at_ c.amt else (v.getD c.src []).take c.at_ ++ (v.getD c.wi []).drop c.at_]
theorem verT_length (l : List Int) (cs : List Chg) (k : Nat) : (verT l cs k).1.length = k + 1 := by
  induction k with
  | zero => rfl
  | succ k ih => simp only [verT, List.length_append, ih]; rfl
theorem valK_length (l : List Int) (cs : List Chg) (k : Nat) : (valK l cs k).length = k + 1 := by
  induction k with
  | zero => rfl
  | succ k ih => simp only [valK, List.length_append, ih]; rfl
theorem verT_ok {l : List Int} {cs : List Chg} {n : Nat} (hl : l.length = n) (hn : 0 < n) (k : Nat) (hk : k ≤ cs.length) (hc : ∀ j (h : j < cs.length), cs[j].Ok j n) :
    (verT l cs k).1.map PT.vals = valK l cs k ∧ ∀ T ∈ (verT l cs k).1, T.Bal ∧ T.wide = n := by
  induction k with
  | zero =>
    have h := growT_vals l.length 0 l (by omega) (by omega)
    refine ⟨by simp [verT, valK, h.1], fun T hT => ?_⟩
    simp only [verT, List.mem_singleton] at hT
    subst hT
    exact ⟨h.2, by unfold PT.wide; rw [h.1, hl]⟩
  | succ k ih =>
    obtain ⟨h1, h2⟩ := ih (by omega)
    have ho := hc k (by omega)
    have hL := verT_length l cs k
    have hV := valK_length l cs k
    have e0 : cs.getD k ch0 = cs[k] := getD_at _ _ (by omega)
    have hg : ∀ i, i ≤ k → ((verT l cs k).1.getD i pt0) ∈ (verT l cs k).1 ∧ ((verT l cs k).1.getD i pt0).vals = (valK l cs k).getD i [] := fun i hi => by
      rw [getD_at _ _ (by omega)]
      refine ⟨List.getElem_mem _, ?_⟩
      rw [← h1, getD_at _ _ (by rw [List.length_map]; omega), List.getElem_map]
    obtain ⟨a1, a2⟩ := hg _ ho.s
    obtain ⟨b1, b2⟩ := hg _ ho.w
    obtain ⟨a3, a4⟩ := h2 _ a1
    obtain ⟨b3, b4⟩ := h2 _ b1
    simp only [verT, valK, e0, List.map_append, h1, List.map_cons, List.map_nil]
    by_cases hkd : cs[k].kind = 1
    · simp only [if_pos hkd]
      obtain ⟨c1, c2⟩ := setT_vals _ cs[k].at_ cs[k].amt (verT l cs k).2 (by rw [a4]; exact ho.a) a3
      refine ⟨by rw [c1, a2], fun T hT => ?_⟩
      rcases List.mem_append.1 hT with hT | hT
      · exact h2 T hT
      · rw [List.mem_singleton.1 hT]
        exact ⟨c2, by rw [setT_wide _ _ _ _ (by rw [a4]; exact ho.a) a3, a4]⟩
    · simp only [if_neg hkd]
      obtain ⟨c1, c2⟩ := withT_vals ((verT l cs k).1.getD cs[k].src pt0) ((verT l cs k).1.getD cs[k].wi pt0) cs[k].at_ (verT l cs k).2 a3 b3 (by rw [a4, b4])
      refine ⟨by rw [c1, a2, b2]; rfl, fun T hT => ?_⟩
      rcases List.mem_append.1 hT with hT | hT
      · exact h2 T hT
      · rw [List.mem_singleton.1 hT]
        exact ⟨c2, by rw [withT_wide _ _ _ _ a3 b3 (by rw [a4, b4]), a4]⟩

theorem info_ptr : (Try.prog.info? 42).map (fun i => (i.zero, i.size, i.bytes)) = some (some (.pointer none), 1, 8) := by kernel_rfl
theorem tPtrs : ElemTy Try.prog 38 42 1 8 (.pointer none) :=
  ⟨Try.underlying38, by obtain ⟨i0, hi, h0, h1, h2⟩ := info_parts info_ptr; exact ⟨i0, hi, h0, h1, h2⟩, rfl, by decide⟩
theorem info_err : (Try.prog.info? 27).map (fun i => (i.zero, i.size, i.bytes)) = some (some (.int .i64 0), 1, 8) := by kernel_rfl
theorem tErrs : ElemTy Try.prog 37 27 1 8 (.int .i64 0) :=
  ⟨Try.underlying37, by obtain ⟨i0, hi, h0, h1, h2⟩ := info_parts info_err; exact ⟨i0, hi, h0, h1, h2⟩, rfl, by decide⟩
/-- Pointers to blocks. -/
def ptrs (bs : List Nat) : List Value := bs.map fun b => .pointer (some ⟨b, 0, none⟩)
theorem ptrs_length (bs : List Nat) : (ptrs bs).length = bs.length := by simp [ptrs]
theorem ptrs_append (a b : List Nat) : ptrs (a ++ b) = ptrs a ++ ptrs b := by simp [ptrs]
theorem PMem.map {w w' : World} {N : List Nat} {T : PT} (h : ∀ b cs t, t = 52 ∨ t = 56 → Box w b cs t → Box w' b cs t) (hm : PMem w N T) : PMem w' N T := by
  induction T with
  | leaf i v => obtain ⟨b, h1, h2⟩ := hm; exact ⟨b, h1, h _ _ _ (.inl rfl) h2⟩
  | node i l r hl hr =>
    obtain ⟨b, p, x, y, h1, h2, h3, h4, h5, h6, h7⟩ := hm
    exact ⟨b, p, x, y, h1, h2, h3, h _ _ _ (.inl rfl) h4, h _ _ _ (.inr rfl) h5, hl h6, hr h7⟩
theorem box_own' {W : World} {B bp e size n c m : Nat} {t : TypeId} {a : Option Addr} {cs : Array Value} {xs : List Value} (h : W.ownsRow B e size (.slice a m c) n xs) (hb : Box W bp cs t) (hne : t ≠ e) : blk a ≠ some bp := fun e' => by
  rcases h.2 with ⟨hv, _⟩ | ⟨g, cap, cur, hv, _, hgb, _⟩
  · simp only [Value.slice.injEq] at hv
    rw [hv.1] at e'; cases e'
  · simp only [Value.slice.injEq] at hv
    rw [hv.1] at e'
    simp only [blk, Option.map_some, Option.some.injEq] at e'
    subst e'
    have hb' : W.heap[g]? = some (.cells cs t (0, 0)) := hb
    rw [hgb] at hb'
    simp only [Option.some.injEq, Obj.cells.injEq] at hb'
    exact hne hb'.2.1.symm
theorem box_gr {w w' : World} {b : Nat} {cs : Array Value} {t : TypeId} {r : Option Nat} (h : Box w b cs t) (hg : w.grownBy w' r) (hne : r ≠ some b) : Box w' b cs t := (hg.block b h.lt (fun e => hne e.symm)).trans h
theorem box_sc {w : World} {b c o : Nat} {cs : Array Value} {t : TypeId} {v : Value} (h : Box w b cs t) (hne : c ≠ b) : Box (w.setCell ⟨c, o, none⟩ v) b cs t := (heap_setCell_other w ⟨c, o, none⟩ b v (fun e => hne e.symm)).trans h
theorem box_pt {w : World} {b i : Nat} {cs : Array Value} {t : TypeId} (h : Box w b cs t) (v : Value) : Box (w.setCell ⟨b, i, none⟩ v) b (cs.setIfInBounds i v) t := by
  obtain ⟨hlt, hk⟩ := Array.getElem?_eq_some_iff.1 h
  show (w.heap.modify b _)[b]? = _
  rw [Array.getElem?_eq_getElem (by rw [Array.size_modify]; exact hlt), Array.getElem_modify_self, hk]
  rfl
theorem box_two {w : World} {b c : Nat} {cs ds : Array Value} {t u : TypeId} (h : Box w b cs t) (k : Box w c ds u) (hne : t ≠ u) : b ≠ c := by
  intro e
  subst e
  have h' : w.heap[b]? = some (.cells cs t (0, 0)) := h
  have k' : w.heap[b]? = some (.cells ds u (0, 0)) := k
  rw [h'] at k'
  simp only [Option.some.injEq, Obj.cells.injEq] at k'
  exact hne k'.2.1
theorem own_two' {w : World} {B e size n m c B' e' size' n' m' c' : Nat} {a a' : Option Addr} {xs xs' : List Value} (h : w.ownsRow B e size (.slice a m c) n xs) (h' : w.ownsRow B' e' size' (.slice a' m' c') n' xs') (hne : e ≠ e') : ∀ k, blk a = some k → blk a' ≠ some k := by
  intro k hk hk'
  rcases h.2 with ⟨hv, _⟩ | ⟨g, cap, cur, hv, _, hgb, _⟩
  · simp only [Value.slice.injEq] at hv
    rw [hv.1] at hk; cases hk
  · simp only [Value.slice.injEq] at hv
    rw [hv.1] at hk
    simp only [blk, Option.map_some, Option.some.injEq] at hk
    subst hk
    exact box_own' h' (show Box w g cur e from hgb) hne hk'
/-- What lies in memory behind k changes. -/
structure PlM (b7 k : Nat) (w wr : World) (N bs : List Nat) (aa ca : Option Addr) (ac cc : Nat) (V : List PT × Nat) : Prop where
  bel : Below w.heap.size w wr
  box : Box wr b7 #[.slice aa (k + 1) ac] 38
  row : wr.ownsRow w.heap.size 42 1 (.slice aa (k + 1) ac) (k + 1) (ptrs bs)
  codes : wr.ownsRow w.heap.size 27 1 (.slice ca k cc) k (List.replicate k (.int .i64 0))
  nods : Nods wr N
  len : N.length = V.2
  ver : ∀ j, j < k + 1 → ∃ b, bs[j]? = some b ∧ N[(V.1.getD j pt0).id]? = some b ∧ PMem wr N (V.1.getD j pt0)
theorem PlM.below {b7 k : Nat} {w wr w' : World} {N bs : List Nat} {aa ca : Option Addr} {ac cc : Nat} {V : List PT × Nat} (H : PlM b7 k w wr N bs aa ca ac cc V) (hb : Below wr.heap.size wr w') : PlM b7 k w w' N bs aa ca ac cc V :=
  ⟨H.bel.trans (hb.mono H.bel.size), H.box.below hb, own_below H.row hb, own_below H.codes hb, H.nods.below hb, H.len, fun j hj => by obtain ⟨b, h1, h2, h3⟩ := H.ver j hj; exact ⟨b, h1, h2, h3.below hb⟩⟩
/-- A new version stands behind the others. -/
theorem PlM.push {b7 k n1 b : Nat} {w wr w1 w2 w3 : World} {N N1 bs : List Nat} {aa ca sa : Option Addr} {ac cc sc : Nat} {V : List PT × Nat} {T : PT} (H : PlM b7 k w wr N bs aa ca ac cc V) (hv : V.1.length = k + 1) (hbl : bs.length = k + 1) (hb7 : w.heap.size ≤ b7)
    (hg : PGot wr N T n1 w1 N1 b) (hal : Below w1.heap.size w1 w2) (ho : w3.ownsRow w.heap.size 42 1 (.slice sa (k + 1 + 1) sc) (k + 1 + 1) (ptrs bs ++ [.pointer (some ⟨b, 0, none⟩)])) (hgr : w2.grownBy w3 (blk aa)) :
    (bs ++ [b]).length = k + 1 + 1 ∧ Below w.heap.size w (w3.setCell ⟨b7, 0, none⟩ (.slice sa (k + 1 + 1) sc)) ∧ Box (w3.setCell ⟨b7, 0, none⟩ (.slice sa (k + 1 + 1) sc)) b7 #[.slice sa (k + 1 + 1) sc] 38 ∧
    (w3.setCell ⟨b7, 0, none⟩ (.slice sa (k + 1 + 1) sc)).ownsRow w.heap.size 42 1 (.slice sa (k + 1 + 1) sc) (k + 1 + 1) (ptrs (bs ++ [b])) ∧
    (w3.setCell ⟨b7, 0, none⟩ (.slice sa (k + 1 + 1) sc)).ownsRow w.heap.size 27 1 (.slice ca k cc) k (List.replicate k (.int .i64 0)) ∧ Nods (w3.setCell ⟨b7, 0, none⟩ (.slice sa (k + 1 + 1) sc)) N1 ∧
    ∀ j, j < k + 1 + 1 → ∃ c, (bs ++ [b])[j]? = some c ∧ N1[((V.1 ++ [T]).getD j pt0).id]? = some c ∧ PMem (w3.setCell ⟨b7, 0, none⟩ (.slice sa (k + 1 + 1) sc)) N1 ((V.1 ++ [T]).getD j pt0) := by
  have h1 := H.below hg.bel
  have h2 := h1.below hal
  have hgs := grown_set w3 b7 0 (.slice sa (k + 1 + 1) sc)
  have hb3 := box_gr h2.box hgr (box_own' h2.row h2.box (by decide))
  have hw2 := h2.bel.size
  have hw3 := hgr.size
  have hmap : ∀ c cs t, t = 52 ∨ t = 56 → Box w2 c cs t → Box (w3.setCell ⟨b7, 0, none⟩ (.slice sa (k + 1 + 1) sc)) c cs t := fun c cs t ht hc => by
    have hc3 := box_gr hc hgr (box_own' h2.row hc (by rcases ht with rfl | rfl <;> decide))
    exact box_sc hc3 (fun e => box_two hc3 hb3 (by rcases ht with rfl | rfl <;> decide) e.symm)
  refine ⟨by simp [hbl], (h2.bel.trans (below_of_grown hgr hw2 (fun q hq => (own_lt h2.row q hq).1))).trans (below_of_grown hgs (by omega) (fun q hq => by simp at hq; omega)), box_pt hb3 _, ?_, ?_, ?_, fun j hj => ?_⟩
  · rw [ptrs_append]
    exact own_keep ho hgs (fun q hq hm => by simp at hq; subst hq; exact box_own' ho hb3 (by decide) hm)
  · have := own_keep h2.codes hgr (fun q hq => own_two' h2.row h2.codes (by decide) q hq)
    exact own_keep this hgs (fun q hq hm => by simp at hq; subst hq; exact box_own' this hb3 (by decide) hm)
  · have := hg.nods.below hal
    exact ⟨this.nd, fun x hx => by rw [size_setCell]; exact Nat.lt_of_lt_of_le (this.lt x hx) hw3⟩
  · by_cases hjk : j < k + 1
    · obtain ⟨c, e1, e2, e3⟩ := H.ver j hjk
      refine ⟨c, ?_, ?_, ?_⟩
      · rw [List.getElem?_append_left (by omega)]; exact e1
      · rw [show (V.1 ++ [T]).getD j pt0 = V.1.getD j pt0 by rw [getD_at _ _ (by simp; omega), getD_at _ _ (by omega), List.getElem_append_left]]
        exact hg.get e2
      · rw [show (V.1 ++ [T]).getD j pt0 = V.1.getD j pt0 by rw [getD_at _ _ (by simp; omega), getD_at _ _ (by omega), List.getElem_append_left]]
        exact ((hg.keep e3).below hal).map hmap
    · obtain rfl : j = k + 1 := by omega
      have e : (V.1 ++ [T]).getD (k + 1) pt0 = T := by
        rw [getD_at _ _ (by simp; omega), List.getElem_append_right (by omega)]; simp [hv]
      rw [e]
      exact ⟨b, by rw [List.getElem?_append_right (by omega)]; simp [hbl], hg.root, (hg.mem.below hal).map hmap⟩
/-- A code stands behind the others. -/
theorem PlM.code {b7 k K : Nat} {w wr w2 : World} {N bs : List Nat} {aa ca sa : Option Addr} {ac cc sc : Nat} {V : List PT × Nat} (hbel : Below w.heap.size w wr) (hbox : Box wr b7 #[.slice aa (K + 1) ac] 38) (hrow : wr.ownsRow w.heap.size 42 1 (.slice aa (K + 1) ac) (K + 1) (ptrs bs))
    (hcodes : wr.ownsRow w.heap.size 27 1 (.slice ca k cc) k (List.replicate k (.int .i64 0))) (hnods : Nods wr N) (hlen : N.length = V.2) (hver : ∀ j, j < K + 1 → ∃ b, bs[j]? = some b ∧ N[(V.1.getD j pt0).id]? = some b ∧ PMem wr N (V.1.getD j pt0)) (hK : K = k + 1)
    (ho : w2.ownsRow w.heap.size 27 1 (.slice sa (k + 1) sc) (k + 1) (List.replicate k (.int .i64 0) ++ [.int .i64 0])) (hgr : wr.grownBy w2 (blk ca)) : PlM b7 K w w2 N bs aa sa ac sc V := by
  subst hK
  refine ⟨hbel.trans (below_of_grown hgr hbel.size (fun q hq => (own_lt hcodes q hq).1)), box_gr hbox hgr (box_own' hcodes hbox (by decide)), own_keep hrow hgr (fun q hq => own_two' hcodes hrow (by decide) q hq), ?_, ⟨hnods.nd, fun x hx => Nat.lt_of_lt_of_le (hnods.lt x hx) hgr.size⟩, hlen, fun j hj => ?_⟩
  · rw [← List.replicate_succ'] at ho; exact ho
  · obtain ⟨b, e1, e2, e3⟩ := hver j hj
    exact ⟨b, e1, e2, e3.map (fun c cs t ht hc => box_gr hc hgr (box_own' hcodes hc (by rcases ht with rfl | rfl <;> decide)))⟩

end Go.Proofs.Ytdjcmemdlmfgpaa
