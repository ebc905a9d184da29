import Derived.Test.YtladgklnacihkaaGreatMg14
import Derived.Test.YtladgklnacihkaaGreatMg5
import Derived.Test.YtladgklnacihkaaGreatMg8
import Derived.Test.YtladgklnacihkaaGreatMg11
/- Package wave: Make. -/
namespace Go.Proofs.YtladgklnacihkaaGreat
set_option linter.unusedVariables false
open Go.RowKit

/-- Naturals as cells. -/
def nts (l : List Nat) : List Value := l.map fun (n : Nat) => .int .i64 (n : Int)
theorem nts_length (l : List Nat) : (nts l).length = l.length := by simp [nts]
theorem nts_append (l m : List Nat) : nts (l ++ m) = nts l ++ nts m := by simp [nts]
theorem nts_get (l : List Nat) (i : Nat) (h : i < (nts l).length) : (nts l)[i] = .int .i64 ((l[i]'(by simpa [nts] using h) : Nat) : Int) := by simp [nts]
theorem nts_one (l : List Nat) : ∀ u ∈ nts l, u.oneCell' = true := by simp [nts, Value.oneCell']
theorem nts_ints (l : List Nat) : nts l = ints (l.map Int.ofNat) := by simp [nts, ints]
theorem slN_at {w : World} {a : Option Addr} {n cap : Nat} {l : List Nat} (h : SlC w a n cap 1 (nts l)) (i : Nat) (hi : i < l.length) : ∃ b off, a = some ⟨b, off, none⟩ ∧ w.cell? ⟨b, off + i, none⟩ = some (.int .i64 ((l[i] : Nat) : Int)) := by
  obtain ⟨b, off, ha, hc⟩ := SlC.cell h i (by rw [nts_length]; exact hi)
  exact ⟨b, off, ha, by rw [hc, nts_get]⟩
theorem info_bitsT : (Tryz.prog.info? 114).map (fun i => (i.zero, i.size, i.bytes)) = some (some (.agg #[.int .i64 0, .slice none 0 0]), 2, 32) := by kernel_rfl
theorem tBitsT : ElemTy Tryz.prog 76 114 2 32 (.agg #[.int .i64 0, .slice none 0 0]) :=
  ⟨Tryz.underlying76, by obtain ⟨i0, hi, h0, h1, h2⟩ := info_parts info_bitsT; exact ⟨i0, hi, h0, h1, h2⟩, rfl, by decide⟩
theorem own_two {w : World} {B e size n m c B' e' size' n' m' c' : Nat} {a a' : Option Addr} {xs xs' : List Value} (h : w.ownsRow B e size (.slice a m c) n xs) (h' : w.ownsRow B' e' size' (.slice a' m' c') n' xs') (hne : e ≠ e') : ∀ k, blk a = some k → blk a' ≠ some k := by
  intro k hk hk'
  rcases h.2 with ⟨hv, _⟩ | ⟨g, cap, cur, hv, _, hgb, _⟩
  · simp only [Value.slice.injEq] at hv
    rw [hv.1] at hk; cases hk
  · rcases h'.2 with ⟨hv', _⟩ | ⟨g', cap', cur', hv', _, hgb', _⟩
    · simp only [Value.slice.injEq] at hv'
      rw [hv'.1] at hk'; cases hk'
    · simp only [Value.slice.injEq] at hv hv'
      rw [hv.1] at hk
      rw [hv'.1] at hk'
      simp only [blk, Option.map_some, Option.some.injEq] at hk hk'
      subst hk
      rw [hk', hgb] at hgb'
      simp only [Option.some.injEq, Obj.cells.injEq] at hgb'
      exact hne hgb'.2.1
theorem box_own {W : World} {B bp e size n c m : Nat} {t : TypeId} {a : Option Addr} {cs : Array Value} {xs : List Value} (h : W.ownsRow B e size (.slice a m c) n xs) (hb : Box W bp cs t) (hne : t ≠ e) : blk a ≠ some bp := fun e' => by
  rcases h.2 with ⟨hv, _⟩ | ⟨g, cap, cur, hv, _, hgb, _⟩
  · simp only [Value.slice.injEq] at hv
    rw [hv.1] at e'; cases e'
  · simp only [Value.slice.injEq] at hv
    rw [hv.1] at e'
    simp only [blk, Option.map_some, Option.some.injEq] at e'
    subst e'
    have hb' : W.heap[g]? = some (.cells cs t (0, 0)) := hb
    rw [hgb] at hb'
    simp only [Option.some.injEq, Obj.cells.injEq] at hb'
    exact hne hb'.2.1.symm
theorem box_grown {w w' : World} {b : Nat} {cs : Array Value} {t : TypeId} {r : Option Nat} (h : Box w b cs t) (hg : w.grownBy w' r) (hne : r ≠ some b) : Box w' b cs t := (hg.block b h.lt (fun e => hne e.symm)).trans h
theorem box_setC {w : World} {b c o : Nat} {cs : Array Value} {t : TypeId} {v : Value} (h : Box w b cs t) (hne : c ≠ b) : Box (w.setCell ⟨c, o, none⟩ v) b cs t := (heap_setCell_other w ⟨c, o, none⟩ b v (fun e => hne e.symm)).trans h
theorem wbox_put {w : World} {b i : Nat} {cs : Array Value} {t : TypeId} (h : Box w b cs t) (v : Value) : Box (w.setCell ⟨b, i, none⟩ v) b (cs.setIfInBounds i v) t := by
  obtain ⟨hlt, hk⟩ := Array.getElem?_eq_some_iff.1 h
  show (w.heap.modify b _)[b]? = _
  rw [Array.getElem?_eq_getElem (by rw [Array.size_modify]; exact hlt), Array.getElem_modify_self, hk]
  rfl
/-- A row of n bools: what is told of the first i. -/
def wbrowK (k n i : Nat) (l : List Nat) : List Bool := rowL k (l.take i) ++ List.replicate (n - i) false
theorem wbrowK_zero (k n : Nat) (l : List Nat) : wbrowK k n 0 l = List.replicate n false := by simp [wbrowK, rowL]
theorem wbrowK_all (k n : Nat) (l : List Nat) (h : l.length = n) : wbrowK k n n l = rowL k l := by simp [wbrowK, ← h]
theorem wbrowK_set (k n i : Nat) (l : List Nat) (hl : l.length = n) (h : i < l.length) : (wbrowK k n i l).set i (bitB l[i] k) = wbrowK k n (i + 1) l := by
  have h1 : (rowL k (l.take i)).length = i := by rw [rowL_length, List.length_take]; omega
  unfold wbrowK
  rw [List.set_append_right (h := by omega), h1, Nat.sub_self, show n - i = (n - (i + 1)) + 1 by omega, List.replicate_succ, List.set_cons_zero, List.take_succ_eq_append_getElem h]
  unfold rowL
  rw [List.map_append, List.append_assoc]; rfl
theorem wbrowK_length (k n i : Nat) (l : List Nat) (hl : l.length = n) (h : i ≤ n) : (wbrowK k n i l).length = n := by
  unfold wbrowK
  rw [List.length_append, rowL_length, List.length_take, List.length_replicate]; omega
def halfK (k i : Nat) (o : Bool) (l : List Nat) : List Nat := (l.take i).filter fun x => bitB x k == o
theorem halfK_succ (k i : Nat) (o : Bool) (l : List Nat) (h : i < l.length) : halfK k (i + 1) o l = if bitB l[i] k = o then halfK k i o l ++ [l[i]] else halfK k i o l := by
  unfold halfK
  rw [List.take_succ_eq_append_getElem h, List.filter_append]
  by_cases hb : bitB l[i] k = o
  · rw [if_pos hb]; simp [List.filter_cons, hb]
  · rw [if_neg hb]; simp [List.filter_cons, hb]
theorem halfK_le (k i : Nat) (o : Bool) (l : List Nat) : (halfK k i o l).length ≤ i := Nat.le_trans (List.length_filter_le _ _) (List.length_take_le _ _)
theorem halfK_step (k n : Nat) (l : List Nat) (h : l.length = n) : halfK k n false l ++ halfK k n true l = stepL k l := by
  unfold halfK stepL
  rw [← h, List.take_length]
theorem bit_val (x k : Nat) (hx : x < 9223372036854775808) : bits BinOp.and IntKind.i64 ((x : Int) / 2 ^ k) 1 = if bitB x k = true then 1 else 0 := by
  have e : (x : Int) / 2 ^ k = ((x / 2 ^ k : Nat) : Int) := by push_cast; rfl
  have hd : x / 2 ^ k ≤ x := Nat.div_le_self _ _
  have := i64_and_nat (x / 2 ^ k) 1 (by omega) (by decide)
  have hb : bitB x k = (x / 2 ^ k % 2 == 1) := by unfold bitB; rfl
  rw [e, show (1 : Int) = ((1 : Nat) : Int) from rfl, this, Nat.and_one_is_mod, hb]
  have : x / 2 ^ k % 2 = 0 ∨ x / 2 ^ k % 2 = 1 := by omega
  rcases this with h | h <;> rw [h] <;> simp
theorem halfK_zero (k : Nat) (o : Bool) (l : List Nat) : halfK k 0 o l = [] := rfl
attribute [irreducible] wbrowK halfK

/-- Behind i numbers of a level (of the row: ir). -/
structure HalfMem (Br Bt bh : Nat) (ra : Option Addr) (n ir i k : Nat) (wr0 wr : World) (a0 a1 : Option Addr) (c0 c1 rc : Nat) (l : List Nat) : Prop where
  bel : Below Br wr0 wr
  ge : Bt ≤ wr.heap.size
  row : wr.ownsRow Br 4 1 (.slice ra n rc) n (bls (wbrowK k n ir l))
  box : Box wr bh #[.slice a0 (halfK k i false l).length c0, .slice a1 (halfK k i true l).length c1] 111
  h0 : wr.ownsRow Bt 3 1 (.slice a0 (halfK k i false l).length c0) (halfK k i false l).length (nts (halfK k i false l))
  h1 : wr.ownsRow Bt 3 1 (.slice a1 (halfK k i true l).length c1) (halfK k i true l).length (nts (halfK k i true l))
  apart : ∀ k, blk a0 = some k → blk a1 ≠ some k
/-- What stays: the blocks of a level's row and of its halves. -/
structure HalfBlk (Br Bt bh : Nat) (ra : Option Addr) (wr0 : World) : Prop where
  r : ∀ q, blk ra = some q → Br ≤ q ∧ q < Bt ∧ q ≠ bh
  b0 : Br ≤ bh
  b1 : bh < Bt
  w0 : Br ≤ wr0.heap.size
theorem HalfMem.set {Br Bt bh rb : Nat} {ra : Option Addr} {n i k : Nat} {wr0 wr : World} {a0 a1 : Option Addr} {c0 c1 rc : Nat} {l : List Nat} (H : HalfMem Br Bt bh ra n i i k wr0 wr a0 a1 c0 c1 rc l) (B : HalfBlk Br Bt bh ra wr0) (hl : l.length = n) (hi : i < l.length) (hra : ra = some ⟨rb, 0, none⟩) :
    HalfMem Br Bt bh ra n (i + 1) i k wr0 (wr.setCell ⟨rb, i, none⟩ (.bool (bitB l[i] k))) a0 a1 c0 c1 rc l := by
  have hrb := B.r rb (by rw [hra]; rfl)
  have hg := grown_set wr rb i (.bool (bitB l[i] k))
  have hBw := H.bel.size
  refine ⟨H.bel.trans (below_of_grown hg (by have := B.w0; omega) (fun q hq => by simp at hq; omega)), by rw [size_setCell]; exact H.ge, ?_, box_setC H.box hrb.2.2, ?_, ?_, H.apart⟩
  · have h2 := H.row
    rw [hra] at h2 ⊢
    have := (h2.stored i (.bool (bitB l[i] k))).1
    rw [bls_set, wbrowK_set k n i l hl hi] at this
    exact this
  · exact own_keep H.h0 hg (fun q hq hm => by simp at hq; have := (own_lt H.h0 q hm).1; omega)
  · exact own_keep H.h1 hg (fun q hq hm => by simp at hq; have := (own_lt H.h1 q hm).1; omega)
theorem HalfMem.push0 {Br Bt bh : Nat} {ra : Option Addr} {n i k : Nat} {wr0 wr w' : World} {a0 a1 sa : Option Addr} {c0 c1 rc sc : Nat} {l : List Nat} (H : HalfMem Br Bt bh ra n (i + 1) i k wr0 wr a0 a1 c0 c1 rc l) (B : HalfBlk Br Bt bh ra wr0) (hi : i < l.length) (hx : bitB l[i] k = false)
    (ho : w'.ownsRow Bt 3 1 (.slice sa ((halfK k i false l).length + 1) sc) ((halfK k i false l).length + 1) (nts (halfK k i false l) ++ [.int .i64 ((l[i] : Nat) : Int)])) (hg : wr.grownBy w' (blk a0)) (hno : NewOr wr a0 sa) :
    HalfMem Br Bt bh ra n (i + 1) (i + 1) k wr0 (w'.setCell ⟨bh, 0, none⟩ (.slice sa ((halfK k i false l).length + 1) sc)) sa a1 sc c1 rc l := by
  have e0 : halfK k (i + 1) false l = halfK k i false l ++ [l[i]] := by rw [halfK_succ k i false l hi, if_pos hx]
  have e1 : halfK k (i + 1) true l = halfK k i true l := by rw [halfK_succ k i true l hi, if_neg (by rw [hx]; simp)]
  have el : (halfK k (i + 1) false l).length = (halfK k i false l).length + 1 := by rw [e0]; simp
  have hBt : Br ≤ Bt := by have := B.b0; have := B.b1; omega
  have hgs := grown_set w' bh 0 (.slice sa ((halfK k i false l).length + 1) sc)
  have hw := H.ge
  have hgw := hg.size
  have hr := own_keep H.row hg (fun q hq hm => by have := (own_lt H.h0 q hq).1; have := B.r q hm; omega)
  have h1 := own_keep H.h1 hg (fun q hq => H.apart q hq)
  have hb := box_grown H.box hg (fun e => by have := (own_lt H.h0 bh e).1; have := B.b1; omega)
  have n1 : ∀ q, some bh = some q → blk sa ≠ some q := fun q hq hm => by have := (own_lt ho q hm).1; have := B.b1; simp at hq; omega
  refine ⟨?_, by rw [size_setCell]; omega, ?_, ?_, ?_, ?_, ?_⟩
  · exact (H.bel.trans (below_of_grown hg (by have := H.bel.size; have := B.w0; omega) (fun q hq => by have := (own_lt H.h0 q hq).1; omega))).trans (below_of_grown hgs (by omega) (fun q hq => by simp at hq; have := B.b0; omega))
  · exact own_keep hr hgs (fun q hq hm => by simp at hq; have := B.r q hm; omega)
  · have := wbox_put hb (i := 0) (.slice sa ((halfK k i false l).length + 1) sc)
    rw [e1, el]
    exact this
  · rw [el, e0, nts_append]
    exact own_keep ho hgs n1
  · rw [e1]
    exact own_keep h1 hgs (fun q hq hm => by have := (own_lt H.h1 q hm).1; have := B.b1; simp at hq; omega)
  · intro q hq hm
    rcases hno with h | ⟨g, h2, h3⟩
    · exact H.apart q (by rw [← h]; exact hq) hm
    · rw [h2] at hq
      have := (own_lt H.h1 q hm).2
      simp at hq; omega
theorem HalfMem.push1 {Br Bt bh : Nat} {ra : Option Addr} {n i k : Nat} {wr0 wr w' : World} {a0 a1 sa : Option Addr} {c0 c1 rc sc : Nat} {l : List Nat} (H : HalfMem Br Bt bh ra n (i + 1) i k wr0 wr a0 a1 c0 c1 rc l) (B : HalfBlk Br Bt bh ra wr0) (hi : i < l.length) (hx : bitB l[i] k = true)
    (ho : w'.ownsRow Bt 3 1 (.slice sa ((halfK k i true l).length + 1) sc) ((halfK k i true l).length + 1) (nts (halfK k i true l) ++ [.int .i64 ((l[i] : Nat) : Int)])) (hg : wr.grownBy w' (blk a1)) (hno : NewOr wr a1 sa) :
    HalfMem Br Bt bh ra n (i + 1) (i + 1) k wr0 (w'.setCell ⟨bh, 1, none⟩ (.slice sa ((halfK k i true l).length + 1) sc)) a0 sa c0 sc rc l := by
  have e0 : halfK k (i + 1) true l = halfK k i true l ++ [l[i]] := by rw [halfK_succ k i true l hi, if_pos hx]
  have e1 : halfK k (i + 1) false l = halfK k i false l := by rw [halfK_succ k i false l hi, if_neg (by rw [hx]; simp)]
  have el : (halfK k (i + 1) true l).length = (halfK k i true l).length + 1 := by rw [e0]; simp
  have hBt : Br ≤ Bt := by have := B.b0; have := B.b1; omega
  have hgs := grown_set w' bh 1 (.slice sa ((halfK k i true l).length + 1) sc)
  have hw := H.ge
  have hgw := hg.size
  have hr := own_keep H.row hg (fun q hq hm => by have := (own_lt H.h1 q hq).1; have := B.r q hm; omega)
  have h0 := own_keep H.h0 hg (fun q hq hm => H.apart q hm hq)
  have hb := box_grown H.box hg (fun e => by have := (own_lt H.h1 bh e).1; have := B.b1; omega)
  have n1 : ∀ q, some bh = some q → blk sa ≠ some q := fun q hq hm => by have := (own_lt ho q hm).1; have := B.b1; simp at hq; omega
  refine ⟨?_, by rw [size_setCell]; omega, ?_, ?_, ?_, ?_, ?_⟩
  · exact (H.bel.trans (below_of_grown hg (by have := H.bel.size; have := B.w0; omega) (fun q hq => by have := (own_lt H.h1 q hq).1; omega))).trans (below_of_grown hgs (by omega) (fun q hq => by simp at hq; have := B.b0; omega))
  · exact own_keep hr hgs (fun q hq hm => by simp at hq; have := B.r q hm; omega)
  · have := wbox_put hb (i := 1) (.slice sa ((halfK k i true l).length + 1) sc)
    rw [e1, el]
    exact this
  · rw [e1]
    exact own_keep h0 hgs (fun q hq hm => by have := (own_lt H.h0 q hm).1; have := B.b1; simp at hq; omega)
  · rw [el, e0, nts_append]
    exact own_keep ho hgs n1
  · intro q hq hm
    rcases hno with h | ⟨g, h2, h3⟩
    · exact H.apart q hq (by rw [← h]; exact hm)
    · rw [h2] at hm
      have := (own_lt H.h0 q hq).2
      simp at hm; omega

end Go.Proofs.YtladgklnacihkaaGreat

/- Package wave: the walk of Make. -/
namespace Go.Proofs.YtladgklnacihkaaGreat
set_option linter.unusedVariables false
open Go.RowKit

/-- Behind j levels. -/
structure MakeMem (b4 bw j K : Nat) (w wr : World) (la : Option Addr) (lc : Nat) (L : List (Option Addr × Nat × List Bool)) (l : List Nat) : Prop where
  bel : Below w.heap.size w wr
  bw : Box wr bw #[.slice la j lc] 78
  b4 : Box wr b4 #[.slice none 0 0] 78
  lv : wr.ownsRow w.heap.size 114 2 (.slice la j lc) j (flat lvC L)
  rows : L.map (fun x => x.2.2) = (List.range j).map (rowAt K l)
  bits : ∀ x ∈ L, BitsIn wr x.1 x.2.1 x.2.2
theorem MakeMem.below {b4 bw j K : Nat} {w wr w' : World} {la : Option Addr} {lc : Nat} {L : List (Option Addr × Nat × List Bool)} {l : List Nat} (H : MakeMem b4 bw j K w wr la lc L l) (hb : Below wr.heap.size wr w') : MakeMem b4 bw j K w w' la lc L l :=
  ⟨H.bel.trans (hb.mono H.bel.size), H.bw.below hb, H.b4.below hb, own_below H.lv hb, H.rows, fun x hx => (H.bits x hx).below hb⟩
theorem MakeMem.push {b4 bw j K n sc : Nat} {w wr w' : World} {la la' sa : Option Addr} {lc lc' : Nat} {L : List (Option Addr × Nat × List Bool)} {l : List Nat} (H : MakeMem b4 bw j K w wr la lc L l) (hl : l.length = n) (h4 : b4 ≠ bw) (hbw : w.heap.size ≤ bw)
    (hbi : BitsIn wr sa sc (rowAt K l j)) (ho : w'.ownsRow w.heap.size 114 2 (.slice la' (j + 1) lc') (j + 1) (flat lvC L ++ [.int .i64 n, .slice sa (bwN n) sc])) (hg : wr.grownBy w' (blk la)) :
    MakeMem b4 bw (j + 1) K w (w'.setCell ⟨bw, 0, none⟩ (.slice la' (j + 1) lc')) la' lc' (L ++ [(sa, sc, rowAt K l j)]) l := by
  have hgs := grown_set w' bw 0 (.slice la' (j + 1) lc')
  have hb1 := box_grown H.bw hg (box_own H.lv H.bw (by decide))
  have hn : (rowAt K l j).length = n := by rw [rowAt_length, hl]
  have hbits : ∀ x ∈ L ++ [(sa, sc, rowAt K l j)], BitsIn wr x.1 x.2.1 x.2.2 := fun x hx => by
    rcases List.mem_append.1 hx with hx | hx
    · exact H.bits x hx
    · rw [List.mem_singleton.1 hx]; exact hbi
  refine ⟨(H.bel.trans (below_of_grown hg H.bel.size (fun q hq => (own_lt H.lv q hq).1))).trans (below_of_grown hgs (Nat.le_trans H.bel.size hg.size) (fun q hq => by simp at hq; omega)), wbox_put hb1 _, box_setC (box_grown H.b4 hg (box_own H.lv H.b4 (by decide))) (fun e => h4 e.symm), ?_, ?_, ?_⟩
  · have e : flat lvC (L ++ [(sa, sc, rowAt K l j)]) = flat lvC L ++ [.int .i64 n, .slice sa (bwN n) sc] := by
      rw [flat_append]; simp [flat, lvC, hn]
    rw [e]
    exact own_keep ho hgs (fun q hq hm => by simp at hq; subst hq; exact box_own ho hb1 (by decide) hm)
  · rw [List.map_append, H.rows, List.range_succ, List.map_append]; rfl
  · intro x hx
    have h1 : BitsIn w' x.1 x.2.1 x.2.2 := own_keep (hbits x hx) hg (fun q hq => own_two H.lv (hbits x hx) (by decide) q hq)
    exact own_keep h1 hgs (fun q hq hm => by simp at hq; subst hq; exact box_own h1 hb1 (by decide) hm)

theorem MakeMem.grown {b4 bw j K n c : Nat} {w wr w' : World} {la a : Option Addr} {lc B : Nat} {L : List (Option Addr × Nat × List Bool)} {l : List Nat} {xs : List Value} (H : MakeMem b4 bw j K w wr la lc L l) (hr : wr.ownsRow B 3 1 (.slice a n c) n xs) (hg : wr.grownBy w' (blk a)) (hB : w.heap.size ≤ B) : MakeMem b4 bw j K w w' la lc L l :=
  ⟨H.bel.trans (below_of_grown hg H.bel.size (fun q hq => by have := (own_lt hr q hq).1; omega)), box_grown H.bw hg (box_own hr H.bw (by decide)), box_grown H.b4 hg (box_own hr H.b4 (by decide)), own_keep H.lv hg (fun q hq => own_two hr H.lv (by decide) q hq), H.rows, fun x hx => own_keep (H.bits x hx) hg (fun q hq => own_two hr (H.bits x hx) (by decide) q hq)⟩

theorem IsWave.setBox {w : World} {a : Option Addr} {cap K b o : Nat} {l : List Nat} {cs : Array Value} {v : Value} (h : IsWave w a cap K l) (hb : Box w b cs 78) : IsWave (w.setCell ⟨b, o, none⟩ v) a cap K l := by
  unfold IsWave at *
  obtain ⟨L, h1, h2, h3⟩ := h
  have hg := grown_set w b o v
  exact ⟨L, h1, own_keep h2 hg (fun q hq hm => by simp at hq; subst hq; exact box_own h2 hb (by decide) hm), fun x hx => own_keep (h3 x hx) hg (fun q hq hm => by simp at hq; subst hq; exact box_own (h3 x hx) hb (by decide) hm)⟩

/-- What Make hands back. -/
def WaveRet (w : World) (K : Nat) (l : List Nat) (e : Ending) (w' : World) : Prop := ∃ sa cap, e = .returned (.tuple #[.agg #[.slice sa K cap], .int .i64 0]) ∧ Kp (IsWave w' sa cap K l) ∧ Below w.heap.size w w'

set_option maxRecDepth 100000 in
set_option maxHeartbeats 4000000 in
theorem wmake_any (a : Option Addr) (cap K n : Nat) (l : List Nat) (w : World) (h : SlC w a n cap 1 (nts l)) (hn : n ≤ 300) (hK : 0 < K) (hK2 : K ≤ 21) (hb : ∀ y ∈ l, y < 2 ^ K) :
    Calls Tryz.prog 31 #[.int .i64 K, .slice a n cap] w (WaveRet w K l) := by
  have H := Kp.mk h
  have HNL0 := Kp.mk (show l.length = n from by have := h.hlen; rw [nts_length] at this; omega)
  have HB := Kp.mk hb
  have HBm := Kp.mk (show ∀ y ∈ l, y < 2097152 from fun y hy => Nat.lt_of_lt_of_le (hb y hy) (Nat.le_trans (Nat.pow_le_pow_right (by omega) hK2) (by decide)))
  have HA := Kp.mk (below_alloc (Nat.le_refl w.heap.size) (.cells #[.slice none 0 0] 78))
  have HB4 := Kp.mk (Box.new w #[.slice none 0 0] 78)
  obtain ⟨b4, hb4⟩ : ∃ b4, b4 = w.heap.size := ⟨_, rfl⟩
  have HE4 := Kp.mk hb4
  have t0 : decide ((300 : Int) < n) = false := decide_eq_false (by omega)
  have t0b : decide (300 < n) = false := decide_eq_false (by omega)
  have t1 : decide ((K : Int) < 0) = false := decide_eq_false (by omega)
  have t2 : decide ((21 : Int) < K) = false := decide_eq_false (by omega)
  have t3 : decide (21 < K) = false := decide_eq_false (by omega)
  clear h hb
  go_enter Tryz.func31, Tryz.ntmps31
  go_upto_region 1 with (fail)
  have HA1 := Kp.mk (alloc_size w (.cells #[.slice none 0 0] 78))
  rw [← hb4] at HB4 ⊢
  generalize w.alloc (.cells #[.slice none 0 0] 78) = w1 at *
  clear hb4
  go_wp2
  go_loop [31] (fun i => ∃ k : Nat, k ≤ n ∧ i = .int .i64 k) (fun i => n - (intOf i).toNat)
  case atStart => exact ⟨0, Nat.zero_le _, rfl⟩
  case round =>
    obtain ⟨k, hk, rfl⟩ := hrel
    by_cases hlt : k < n
    · have hkl : k < l.length := by rw [HNL0.out]; exact hlt
      obtain ⟨b, off, rfl, cx⟩ := slN_at (H.out.below HA.out) k hkl
      have hxm := HBm.out _ (List.getElem_mem hkl)
      have hz : l[k] / 2 ^ K = 0 := Nat.div_eq_of_lt (HB.out _ (List.getElem_mem hkl))
      have e1 : ((l[k] : Nat) : Int) / 2 ^ K = 0 := by
        have : ((l[k] : Nat) : Int) / 2 ^ K = ((l[k] / 2 ^ K : Nat) : Int) := by push_cast; rfl
        rw [this, hz]; rfl
      generalize l[k] = x at *
      have t4 : decide ((x : Int) < 0) = false := decide_eq_false (by omega)
      clear hz
      go_wp2
      go_round
      case rel => exact ⟨k + 1, by omega, by go_num⟩
      case measure => simp [intOf]; omega
    · obtain rfl : k = n := by omega
      clear hlt
      go_upto_region 12 with (fail)
      have hw1 : w.heap.size < w1.heap.size := by rw [HA1.out]; omega
      have HBW := Kp.mk (Box.new w1 #[.slice none 0 0] 78)
      have hal := below_alloc (Nat.le_refl w1.heap.size) (.cells #[.slice none 0 0] 78)
      have HB42 := Kp.mk (HB4.out.below hal)
      have HA2 := Kp.mk (below_step HA.out hal)
      have H2 := Kp.mk (H.out.below HA2.out)
      have hs2 := alloc_size w1 (.cells #[.slice none 0 0] 78)
      obtain ⟨bw, hbw⟩ : ∃ bw, bw = w1.heap.size := ⟨_, rfl⟩
      rw [← hbw] at HBW ⊢
      have h4w : b4 ≠ bw := by have := HE4.out; omega
      have hwb : w.heap.size ≤ bw := by omega
      clear hal HB4
      generalize w1.alloc (.cells #[.slice none 0 0] 78) = w2 at *
      have hs2' : w.heap.size ≤ w2.heap.size := HA2.out.size
      clear hbw hs2
      go_wp2_with (at_builtin; refine wpList_catS tInts rfl _ _ rfl w.heap.size none 0 0 [] rfl (World.ownsRow_nil _ _ _ _) _ _ _ _ rfl H2.out (nts_one l) ?c1 (by decide) hs2' ?c2)
      case c1 => omega
      case c2 =>
      intro na nc w3 hown hg hno
      have hb3 : Below w2.heap.size w2 w3 := below_of_grown hg (Nat.le_refl _) (fun q hq => by cases hq)
      have HNOW := Kp.mk (show w3.ownsRow w.heap.size 3 1 (.slice na k nc) k (nts (lst K l 0)) from by rw [lst_zero]; exact hown)
      have HMM := Kp.mk (show MakeMem b4 bw 0 K w w3 none 0 [] l from ⟨HA2.out.trans (hb3.mono HA2.out.size), HBW.out.below hb3, HB42.out.below hb3, World.ownsRow_nil _ _ _ _, rfl, fun x hx => by cases hx⟩)
      clear hown hg hno hb3 HBW HB42 HA2 H2 HA H hs2'
      go_wp2
      go_loopw [9, 10] (fun nv kv wr => ∃ (j : Nat) (z : Int) (na : Option Addr) (nc : Nat) (la : Option Addr) (lc : Nat) (L : List (Option Addr × Nat × List Bool)), j ≤ K ∧ z + 1 + j = K ∧ kv = .int .i64 z ∧ nv = .slice na k nc ∧ Kp (wr.ownsRow w.heap.size 3 1 (.slice na k nc) k (nts (lst K l j))) ∧ Kp (MakeMem b4 bw j K w wr la lc L l)) (fun _ kv _ => (intOf kv + 1).toNat)
      case atStart => exact ⟨0, (K : Int) - 1, na, nc, none, 0, [], Nat.zero_le _, by omega, rfl, rfl, HNOW, HMM⟩
      case round =>
      clear HNOW HMM
      obtain ⟨j, z, na, nc, la, lc, L, hj, hz, rfl, rfl, HNOW, HMM⟩ := hrel
      obtain ⟨wo, rfl⟩ : ∃ wo : World, wo = wr := ⟨_, rfl⟩
      by_cases hlt : j < K
      rotate_left
      · obtain rfl : j = K := by omega
        have hz0 : z < 0 := by omega
        have b0 := HMM.out.bw.cell 0 rfl
        have f0 := HMM.out.b4.free 0
        have c0 := HMM.out.b4.cell 0 rfl
        go_wp2
        refine bodyPost_ret (v := .tuple #[.agg #[.slice la j lc], .int .i64 0]) (by
          clear HNL0 HB HBm HE4 HNOW HMM
          rw [results_cell_tmp rfl]
          go_simp) rfl ?_
        have hg := grown_set wo b4 0 (.slice la j lc)
        have hbw1 : w.heap.size ≤ b4 := by rw [HE4.out]; exact Nat.le_refl _
        refine ⟨la, lc, rfl, ⟨?_⟩, HMM.out.bel.trans (below_of_grown hg HMM.out.bel.size (fun q hq => by simp at hq; omega))⟩
        unfold IsWave
        exact ⟨L, by rw [HMM.out.rows]; rfl, own_base (own_keep HMM.out.lv hg (fun q hq hm => by simp at hq; subst hq; exact box_own HMM.out.lv HMM.out.b4 (by decide) hm)) (Nat.zero_le _), fun x hx => own_keep (HMM.out.bits x hx) hg (fun q hq hm => by simp at hq; subst hq; exact box_own (HMM.out.bits x hx) HMM.out.b4 (by decide) hm)⟩
      obtain ⟨r, rfl⟩ : ∃ r : Nat, z = r := ⟨z.toNat, by omega⟩
      have hrK : K - 1 - j = r := by omega
      have HRK := Kp.mk hrK
      have hr21 : r ≤ 21 := by omega
      have hz' : (r : Int) + 1 + j = K := hz
      clear hz hrK
      go_wp2_with (at_make; refine wpList_mk1 tBools rfl rfl _ _ rfl wo.heap.size k rfl rfl ?d1 (by decide) (Nat.le_refl _) ?d2)
      case d1 => omega
      case d2 =>
      intro ra rc w4 hown hbel
      have HLL := Kp.mk (lst_length K l j)
      have HNL := Kp.mk (show (lst K l j).length = k from by rw [lst_length, HNL0.out])
      obtain ⟨Br, hBr⟩ : ∃ Br, Br = wo.heap.size := ⟨_, rfl⟩
      rw [← hBr] at hown
      obtain ⟨Bt, hBt⟩ : ∃ Bt, Bt = w4.heap.size + 1 := ⟨_, rfl⟩
      obtain ⟨bh, hbh⟩ : ∃ bh, bh = w4.heap.size := ⟨_, rfl⟩
      have hlr := own_lt hown
      have hsz4 := hbel.size
      have HBK := Kp.mk (show HalfBlk Br Bt bh ra wo from ⟨fun q hq => by have := hlr q hq; omega, by omega, by omega, by omega⟩)
      have hal := below_alloc (Nat.le_refl w4.heap.size) (.cells #[.slice none 0 0, .slice none 0 0] 111)
      have HH0 := Kp.mk (show HalfMem Br Bt bh ra k 0 0 r wo (w4.alloc (.cells #[.slice none 0 0, .slice none 0 0] 111)) none none 0 0 rc (lst K l j) from by
        refine ⟨?_, by rw [alloc_size]; omega, ?_, ?_, ?_, ?_, fun q hq => by cases hq⟩
        · rw [hBr]; exact hbel.trans (hal.mono hbel.size)
        · rw [wbrowK_zero, show bls (List.replicate k false) = List.replicate k (.bool false) by simp [bls]]
          exact own_below hown hal
        · rw [halfK_zero, halfK_zero, hbh]; exact Box.new _ _ _
        · rw [halfK_zero]; exact World.ownsRow_nil _ _ _ _
        · rw [halfK_zero]; exact World.ownsRow_nil _ _ _ _)
      have HNL2 := Kp.mk (own_slc HNOW.out)
      have HBl := Kp.mk (show ∀ y ∈ lst K l j, y < 2097152 from fun y hy => HBm.out y (by
        have hp : ∀ j, (lst K l j).Perm l := fun j => by
          induction j with
          | zero => rw [lst_zero]
          | succ j ih => rw [lst_succ]; exact (stepL_perm _ _).trans ih
        exact (hp j).mem_iff.1 hy))
      have HBE := Kp.mk hBr
      rw [hbh] at HBK HH0
      clear hown hlr hsz4 hal HLL hbel
      go_upto_region 18 with (fail)
      rw [← hbh] at HBK HH0 ⊢
      generalize w4.alloc (.cells #[.slice none 0 0, .slice none 0 0] 111) = w5 at *
      clear hBt hBr hbh
      go_wp2
      go_loopw [58] (fun iv wr => ∃ (i : Nat) (a0 a1 : Option Addr) (c0 c1 : Nat), i ≤ k ∧ iv = .int .i64 i ∧ Kp (HalfMem Br Bt bh ra k i i r wo wr a0 a1 c0 c1 rc (lst K l j))) (fun iv _ => k - (intOf iv).toNat)
      case atStart => exact ⟨0, none, none, 0, 0, Nat.zero_le _, rfl, HH0⟩
      case round =>
      clear HH0
      obtain ⟨i, a0, a1, c0, c1, hi, rfl, HH⟩ := hrel
      by_cases hik : i < k
      · skip
        have hiL : i < (lst K l j).length := by rw [HNL.out]; exact hik
        obtain ⟨b, off, hna, cx⟩ := slN_at (HNL2.out.below (by rw [← HBE.out]; exact HH.out.bel)) i hiL
        obtain ⟨rb, rfl, _, _⟩ := own_some HH.out.row (by omega)
        have c2 := HH.out.row
        have f2 := HH.out.row
        have c2 := c2.cellAt i (by omega)
        have f2 := f2.frozenAt i
        rw [List.getElem?_eq_getElem (by rw [bls_length, wbrowK_length r k i _ HNL.out hi]; exact hik)] at c2
        have hxm := HBl.out _ (List.getElem_mem hiL)
        obtain ⟨x, hx⟩ : ∃ x, (lst K l j)[i] = x := ⟨_, rfl⟩
        rw [hx] at cx hxm
        have HXE := Kp.mk hx
        have hbv := bit_val x r (by omega)
        have c2' : ∃ v, wr.cell? ⟨rb, i, none⟩ = some v := ⟨_, c2⟩
        clear c2 hx
        obtain ⟨v2, c2⟩ := c2'
        subst hna
        cases hbx : bitB x r with
        | false =>
          have HBX := Kp.mk hbx
          clear hbx
          have bv : bits BinOp.and IntKind.i64 ((x : Int) / 2 ^ r) 1 = 0 := by rw [hbv, HBX.out]; rfl
          have HS := Kp.mk (HH.out.set HBK.out HNL.out hiL rfl)
          rw [HXE.out, HBX.out] at HS
          clear hbv
          go_upto_region 23 with (fail)
          have hge6 := HS.out.ge
          generalize wr.setCell ⟨rb, i, none⟩ (.bool false) = w6 at *
          have bx0 := HS.out.box.cell 0 rfl
          have bf := HS.out.box.free 0
          have HO := Kp.mk HS.out.h0
          have hle := halfK_le r i false (lst K l j)
          have HLE := Kp.mk (show (halfK r i false (lst K l j)).length = (halfK r i false (lst K l j)).length from rfl)
          generalize hm : (halfK r i false (lst K l j)).length = m at bx0 HO hle
          have HM := Kp.mk hm
          clear hm c2 f2 cx HLE
          go_wp2_with (at_builtin; refine wpList_pushS tInts rfl _ _ rfl Bt a0 m c0 _ rfl HO.out 1 _ rfl rfl ?g1 ?g2 (by decide) hge6 ?g4)
          case g1 => simp [Value.oneCell']
          case g2 => omega
          case g4 =>
            intro sa sc w7 hown hg hno
            have HP := Kp.mk (HS.out.push0 HBK.out hiL (by rw [HXE.out]; exact HBX.out) (by rw [HM.out, HXE.out]; exact hown) hg hno)
            rw [HM.out] at HP
            have hb7 := box_grown HS.out.box hg (fun e => by have := (own_lt HS.out.h0 bh e).1; have := HBK.out.b1; omega)
            have k0 := hb7.cell 0 rfl
            have kf := hb7.free 0
            clear hown hg hno bx0 bf hb7
            go_wp2
            go_roundw
            case rel =>
              exact ⟨i + 1, sa, a1, sc, c1, by omega, by go_num, HP⟩
            case measure => simp [intOf]; omega
        | true =>
          have HBX := Kp.mk hbx
          clear hbx
          have bv : bits BinOp.and IntKind.i64 ((x : Int) / 2 ^ r) 1 = 1 := by rw [hbv, HBX.out]; rfl
          have HS := Kp.mk (HH.out.set HBK.out HNL.out hiL rfl)
          rw [HXE.out, HBX.out] at HS
          clear hbv
          go_upto_region 23 with (fail)
          have hge6 := HS.out.ge
          generalize wr.setCell ⟨rb, i, none⟩ (.bool true) = w6 at *
          have bx0 := HS.out.box.cell 1 rfl
          have bf := HS.out.box.free 1
          have HO := Kp.mk HS.out.h1
          have hle := halfK_le r i true (lst K l j)
          have HLE := Kp.mk (show (halfK r i true (lst K l j)).length = (halfK r i true (lst K l j)).length from rfl)
          generalize hm : (halfK r i true (lst K l j)).length = m at bx0 HO hle
          have HM := Kp.mk hm
          clear hm c2 f2 cx HLE
          go_wp2_with (at_builtin; refine wpList_pushS tInts rfl _ _ rfl Bt a1 m c1 _ rfl HO.out 1 _ rfl rfl ?g1 ?g2 (by decide) hge6 ?g4)
          case g1 => simp [Value.oneCell']
          case g2 => omega
          case g4 =>
            intro sa sc w7 hown hg hno
            have HP := Kp.mk (HS.out.push1 HBK.out hiL (by rw [HXE.out]; exact HBX.out) (by rw [HM.out, HXE.out]; exact hown) hg hno)
            rw [HM.out] at HP
            have hb7 := box_grown HS.out.box hg (fun e => by have := (own_lt HS.out.h1 bh e).1; have := HBK.out.b1; omega)
            have k0 := hb7.cell 1 rfl
            have kf := hb7.free 1
            clear hown hg hno bx0 bf hb7
            go_wp2
            go_roundw
            case rel =>
              exact ⟨i + 1, a0, sa, c0, sc, by omega, by go_num, HP⟩
            case measure => simp [intOf]; omega
      · obtain rfl : i = k := by omega
        have HHF := HH
        have hrow := HHF.out.row
        rw [wbrowK_all r i _ HNL.out] at hrow
        have hRW : rowL r (lst K l j) = rowAt K l j := by rw [← HRK.out]; unfold rowAt; rfl
        rw [hRW] at hrow
        have HRW := Kp.mk (own_slc hrow)
        have hbx := HHF.out.box
        have HST := Kp.mk (halfK_step r i _ HNL.out)
        have HMB := Kp.mk (HMM.out.below (show Below wo.heap.size wo wr from by rw [← HBE.out]; exact HHF.out.bel))
        have hl0 := halfK_le r i false (lst K l j)
        have hl1 := halfK_le r i true (lst K l j)
        have HH0 := Kp.mk HHF.out.h0
        have HH1 := Kp.mk HHF.out.h1
        have hBt := Kp.mk (show w.heap.size ≤ Bt from by have := HBK.out.b0; have := HBK.out.b1; have := HMM.out.bel.size; have := HBE.out; omega)
        have HAP := Kp.mk HHF.out.apart
        have HSL := Kp.mk (lst_succ K l j)
        rw [HRK.out, ← HST.out] at HSL
        clear HHF HH hrow hRW HBl HNL2 HNOW hik
        generalize halfK r i false (lst K l j) = Z at *
        generalize halfK r i true (lst K l j) = O at *
        have k0 := hbx.cell 0 rfl
        have k1 := hbx.cell 1 rfl
        have C := Kp.mk (bmake_any ra rc i (rowAt K l j) wr HRW.out (by omega))
        have hE : (rowAt K l j).length = i := by rw [rowAt_length, HNL0.out]
        have HE := Kp.mk hE
        have hbK := HMB.out.bw
        have HBX := Kp.mk hbx
        clear hE HRW k0 k1 hbx
        go_wp2_with fail
        refine C.out.mono ?_
        rintro e w5 ⟨sx, cx, rfl, hox, hbx⟩
        have HM5 := Kp.mk (HMB.out.below hbx)
        have HBX5 := Kp.mk (HBX.out.below hbx)
        have h05 := Kp.mk (own_below HH0.out hbx)
        have h15 := Kp.mk (own_below HH1.out hbx)
        have HBI5 := Kp.mk (show BitsIn w5 sx cx (rowAt K l j) from by unfold BitsIn; rw [HE.out]; exact own_base hox (Nat.zero_le _))
        have hal := below_alloc (Nat.le_refl w5.heap.size) (.cells #[.int .i64 i, .slice sx (bwN i) cx] 114)
        have HM6 := Kp.mk (HM5.out.below hal)
        have HBX6 := Kp.mk (HBX5.out.below hal)
        have h06 := Kp.mk (own_below h05.out hal)
        have h16 := Kp.mk (own_below h15.out hal)
        have HBI6 := Kp.mk (HBI5.out.below hal)
        have HB16 := Kp.mk (Box.new w5 #[.int .i64 i, .slice sx (bwN i) cx] 114)
        clear hox hbx hal C HMB HBX HH0 HH1 HM5 HBX5 h05 h15 HBI5 hbK
        go_upto_region 26 with (fail)
        generalize hq16 : w5.heap.size = q16 at *
        generalize w5.alloc (.cells #[.int .i64 i, .slice sx (bwN i) cx] 114) = w6 at *
        clear hq16
        have c0 := HM6.out.bw.cell 0 rfl
        have d0 := HB16.out.cell 0 rfl
        have d1 := HB16.out.cell 1 rfl
        have hs6 := HM6.out.bel.size
        go_wp2_with (at_builtin; refine wpList_pushS tBitsT rfl _ _ rfl w.heap.size la j lc _ rfl HM6.out.lv 1 _ rfl rfl ?p1 ?p2 (by decide) hs6 ?p4)
        case p1 => simp [Value.oneCell']
        case p2 => omega
        case p4 =>
        intro la' lc' w7 hown hg hno
        have HM7 := Kp.mk (HM6.out.push HNL0.out h4w hwb HBI6.out hown hg)
        have hbw7 := box_grown HM6.out.bw hg (box_own HM6.out.lv HM6.out.bw (by decide))
        have hf := hbw7.free 0
        have hc := hbw7.cell 0 rfl
        have hgs := grown_set w7 bw 0 (.slice la' (j + 1) lc')
        have ht1 := box_grown HBX6.out hg (box_own HM6.out.lv HBX6.out (by decide))
        have HBX8 := Kp.mk (box_setC (o := 0) (v := .slice la' (j + 1) lc') ht1 (show bw ≠ bh from fun e => by rw [e] at hbw7; have h8 := ht1.symm.trans hbw7; simp at h8))
        have g0 := own_keep h06.out hg (fun q hq => own_two HM6.out.lv h06.out (by decide) q hq)
        have g1 := own_keep h16.out hg (fun q hq => own_two HM6.out.lv h16.out (by decide) q hq)
        have h08 := Kp.mk (own_keep g0 hgs (fun q hq hm => by simp at hq; subst hq; exact box_own g0 hbw7 (by decide) hm))
        have h18 := Kp.mk (own_keep g1 hgs (fun q hq hm => by simp at hq; subst hq; exact box_own g1 hbw7 (by decide) hm))
        have HS8 := Kp.mk (show w5.heap.size ≤ w5.heap.size from Nat.le_refl _)
        clear hown hg hno hgs ht1 g0 g1 hbw7 c0 d0 d1 h06 h16 HM6 HBX6 HB16 HBI6
        go_upto_region 27 with (fail)
        generalize w7.setCell ⟨bw, 0, none⟩ (.slice la' (j + 1) lc') = w8 at *
        clear hf hc
        have k0 := HBX8.out.cell 0 rfl
        have k1 := HBX8.out.cell 1 rfl
        have hs8 := HM7.out.bel.size
        go_wp2_with (at_builtin; refine wpList_catS tInts rfl _ _ rfl w.heap.size _ Z.length _ _ rfl (own_base h08.out hBt.out) _ O.length _ _ rfl (own_slc h18.out) (nts_one O) ?q1 (by decide) hs8 ?q2)
        case q1 => omega
        case q2 =>
        intro na' nc' w9 hown hg hno
        have hlen : Z.length + O.length = i := by
          have := congrArg List.length HST.out
          rwa [List.length_append, stepL_length, HNL.out] at this
        rw [hlen, ← nts_append, ← HSL.out] at hown
        rw [hlen]
        have HNOW9 := Kp.mk hown
        have HM9 := Kp.mk (HM7.out.grown h08.out hg hBt.out)
        clear hown hg hno hlen k0 k1 h08 h18 HBX8 HM7
        go_wp2
        go_roundw
        case rel => exact ⟨j + 1, (r : Int) - 1, na', nc', la', lc', _, by omega, by omega, rfl, rfl, HNOW9, HM9⟩
        case measure => simp [intOf]

end Go.Proofs.YtladgklnacihkaaGreat

/- Package grid: the walk of build. -/
namespace Go.Proofs.YtladgklnacihkaaGreat
set_option linter.unusedVariables false
open Go.RowKit Go.Sort

/-- The plain facts of an index. -/
structure GFacts (n : Nat) (L : List Pt) (O : List Nat) (V : List Int) (R : List Nat) : Prop where
  len : L.length = n
  ord : IsOrder L O
  up : Up V
  rl : R.length = n
  rk : ∀ i, i < n → R.getD i 0 < V.length ∧ V.getD (R.getD i 0) 0 = (L.getD (O.getD i 0) pt0).y
  vl : V.length ≤ n
/-- An index in memory. -/
structure GIdx (w : World) (g : Nat) (a : Option Addr) (cap n : Nat) (L : List Pt) (oa : Option Addr) (oc : Nat) (O : List Nat) (va : Option Addr) (v vc : Nat) (V : List Int) (wa : Option Addr) (wc : Nat) (R : List Nat) : Prop where
  bx : Box w g #[.slice a n cap, .slice oa n oc, .slice va v vc, .slice wa 8 wc] 80
  ps : SlF ptL 3 w a n cap L
  ord : SlI w oa oc (O.map Int.ofNat)
  vals : SlI w va vc V
  vlen : V.length = v
  wave : IsWave w wa wc 8 R
theorem GIdx.below {w w' : World} {g : Nat} {a : Option Addr} {cap n : Nat} {L : List Pt} {oa : Option Addr} {oc : Nat} {O : List Nat} {va : Option Addr} {v vc : Nat} {V : List Int} {wa : Option Addr} {wc : Nat} {R : List Nat}
    (h : GIdx w g a cap n L oa oc O va v vc V wa wc R) (hb : Below w.heap.size w w') : GIdx w' g a cap n L oa oc O va v vc V wa wc R :=
  ⟨h.bx.below hb, h.ps.below hb, h.ord.below hb, h.vals.below hb, h.vlen, h.wave.below hb⟩
/-- What of an index the columns and the report read. -/
structure GIdx0 (w : World) (g : Nat) (a : Option Addr) (cap n : Nat) (L : List Pt) (oa : Option Addr) (oc : Nat) (O : List Nat) (vv wv : Value) : Prop where
  bx : Box w g #[.slice a n cap, .slice oa n oc, vv, wv] 80
  ps : SlF ptL 3 w a n cap L
  ord : SlI w oa oc (O.map Int.ofNat)
theorem GIdx0.below {w w' : World} {g : Nat} {a : Option Addr} {cap n : Nat} {L : List Pt} {oa : Option Addr} {oc : Nat} {O : List Nat} {vv wv : Value}
    (h : GIdx0 w g a cap n L oa oc O vv wv) (hb : Below w.heap.size w w') : GIdx0 w' g a cap n L oa oc O vv wv :=
  ⟨h.bx.below hb, h.ps.below hb, h.ord.below hb⟩
theorem GIdx.to0 {w : World} {g : Nat} {a : Option Addr} {cap n : Nat} {L : List Pt} {oa : Option Addr} {oc : Nat} {O : List Nat} {va : Option Addr} {v vc : Nat} {V : List Int} {wa : Option Addr} {wc : Nat} {R : List Nat}
    (h : GIdx w g a cap n L oa oc O va v vc V wa wc R) : GIdx0 w g a cap n L oa oc O (.slice va v vc) (.slice wa 8 wc) := ⟨h.bx, h.ps, h.ord⟩
/-- The memory of build. -/
structure BldMem (bs : Nat) (w wr : World) (a : Option Addr) (cap n : Nat) (cs : Array Value) : Prop where
  low : Below bs w wr
  b1 : Box wr bs #[.slice a n cap] 43
  b2 : Box wr (bs + 1) cs 80
  sz : bs + 2 ≤ wr.heap.size
theorem BldMem.below {bs : Nat} {w wr w' : World} {a : Option Addr} {cap n : Nat} {cs : Array Value} (h : BldMem bs w wr a cap n cs) (hb : Below wr.heap.size wr w') : BldMem bs w w' a cap n cs :=
  ⟨h.low.trans (hb.mono (by have := h.sz; omega)), h.b1.below hb, h.b2.below hb, Nat.le_trans h.sz hb.size⟩
theorem BldMem.grown {bs : Nat} {w wr w' : World} {a : Option Addr} {cap n : Nat} {cs : Array Value} {r : Option Nat} (h : BldMem bs w wr a cap n cs) (hg : wr.grownBy w' r) (hr : ∀ k, r = some k → bs + 2 ≤ k) : BldMem bs w w' a cap n cs :=
  ⟨h.low.trans (below_of_grown hg (by have := h.sz; omega) (fun k hk => by have := hr k hk; omega)), box_grow h.b1 hg (fun e => by have := hr _ e; omega), box_grow h.b2 hg (fun e => by have := hr _ e; omega), Nat.le_trans h.sz hg.size⟩
theorem BldMem.put {bs : Nat} {w wr : World} {a : Option Addr} {cap n : Nat} {cs : Array Value} (h : BldMem bs w wr a cap n cs) (i : Nat) (u : Value) : BldMem bs w (wr.setCell ⟨bs + 1, i, none⟩ u) a cap n (cs.setIfInBounds i u) :=
  ⟨h.low.trans (below_of_grown (grown_set wr (bs + 1) i u) (by have := h.sz; omega) (fun k hk => by cases hk; omega)), box_far h.b1 (by omega), box_put h.b2 u, Nat.le_trans h.sz (grown_set wr (bs + 1) i u).size⟩

/-- A store into a box that holds no integers leaves rows of integers as they were. -/
theorem slc_far {w : World} {a : Option Addr} {len cap size : Nat} {cs : List Value} (h : SlC w a len cap size cs) {b o : Nat} {ds : Array Value} {t : TypeId} {v : Value} (hb : Box w b ds t) (hi : ∀ u ∈ cs, ∃ x : Int, u = .int .i64 x) (hd : ∀ u ∈ ds.toList, ∀ x : Int, u ≠ .int .i64 x) : SlC (w.setCell ⟨b, o, none⟩ v) a len cap size cs :=
  ⟨h.hlen, h.le, h.capm, h.nil, fun i hi' => by
    obtain ⟨b', off, ha, hc⟩ := h.cell i hi'
    refine ⟨b', off, ha, ?_⟩
    by_cases e : b' = b
    · exfalso
      subst e
      have hb' : w.heap[b']? = some (.cells ds t (0, 0)) := hb
      rw [cell_of_row w b' (off + i) ds t (0, 0) hb'] at hc
      obtain ⟨x, hx⟩ := hi _ (List.getElem_mem hi')
      obtain ⟨hlt, he⟩ := Array.getElem?_eq_some_iff.1 hc
      exact hd _ (by rw [← he]; simp) x hx
    · rw [World.cell?_setCell_other _ _ _ _ (fun e' => by simp only [Addr.mk.injEq] at e'; exact e e'.1.symm)]
      exact hc⟩
theorem ints_int (l : List Int) : ∀ u ∈ ints l, ∃ x : Int, u = .int .i64 x := by
  intro u hu
  obtain ⟨x, _, rfl⟩ := List.mem_map.1 hu
  exact ⟨x, rfl⟩
theorem pts_int (L : List Pt) : ∀ u ∈ flat ptL L, ∃ x : Int, u = .int .i64 x := by
  intro u hu
  obtain ⟨p, _, hp⟩ := List.mem_flatMap.1 hu
  simp only [ptL, List.mem_cons, List.not_mem_nil, or_false] at hp
  rcases hp with rfl | rfl | rfl <;> exact ⟨_, rfl⟩
theorem wave_far {w : World} {a : Option Addr} {cap K b o : Nat} {l : List Nat} {cs : Array Value} {v : Value} (h : IsWave w a cap K l) (hb : Box w b cs 80) : IsWave (w.setCell ⟨b, o, none⟩ v) a cap K l := by
  unfold IsWave at *
  obtain ⟨L, h1, h2, h3⟩ := h
  have hg := grown_set w b o v
  exact ⟨L, h1, own_keep h2 hg (fun q hq hm => by simp at hq; subst hq; exact box_own h2 hb (by decide) hm), fun x hx => own_keep (h3 x hx) hg (fun q hq hm => by simp at hq; subst hq; exact box_own (h3 x hx) hb (by decide) hm)⟩
theorem irange_succ (k : Nat) : ints ((List.range (k + 1)).map Int.ofNat) = ints ((List.range k).map Int.ofNat) ++ [.int .i64 (k : Int)] := by
  rw [List.range_succ, List.map_append, ints_append]; rfl

set_option maxRecDepth 100000 in
set_option maxHeartbeats 4000000 in
theorem gbuild_any (a : Option Addr) (cap n : Nat) (L : List Pt) (w : World) (h : SlF ptL 3 w a n cap L) (hm : n ≤ 150) :
    Calls Tryz.prog 15 #[.slice a n cap] w fun e w' => ∃ g oa oc O va v vc V wa wc R, e = .returned (.pointer (some ⟨g, 0, none⟩)) ∧ Kp (GIdx w' g a cap n L oa oc O va v vc V wa wc R) ∧ Kp (GFacts n L O V R) ∧ Kp (Below w.heap.size w w') ∧ Kp (w.heap.size ≤ g ∧ ∀ k, blk oa = some k → w.heap.size ≤ k) := by
  have HL := Kp.mk (h.len ptL_len (by omega))
  have H := Kp.mk h
  have HLT := Kp.mk (show 0 < n → ∀ k, blk a = some k → k < w.heap.size from fun hn0 k hk => by
    obtain ⟨k', h1, h2⟩ := SlC.lt h (by rw [flat_length ptL_len, HL.out]; omega)
    rw [h1] at hk; cases hk; exact h2)
  have eg : ∀ args w, (callFunc 27 args).run Tryz.prog w = .ok (.enter 27 args) w := enters_of Tryz.func27 (by kernel_rfl) rfl
  have HM0 := Kp.mk (show BldMem w.heap.size w ((w.alloc (.cells #[.slice a n cap] 43)).alloc (.cells #[.slice a n cap, .slice none 0 0, .slice none 0 0, .slice none 0 0] 80)) a cap n #[.slice a n cap, .slice none 0 0, .slice none 0 0, .slice none 0 0] from
    ⟨below_then_alloc (below_alloc (Nat.le_refl _) _) _, (Box.new w _ _).alloc _, by have := Box.new (w.alloc (.cells #[.slice a n cap] 43)) #[.slice a n cap, .slice none 0 0, .slice none 0 0, .slice none 0 0] 80; rwa [alloc_size] at this, by rw [alloc_size, alloc_size]; omega⟩)
  have c0 : (w.alloc (.cells #[.slice a n cap] 43)).cell? ⟨w.heap.size, 0, none⟩ = some (.slice a n cap) := (Box.new w _ _).cell 0 rfl
  have c1 : ((w.alloc (.cells #[.slice a n cap] 43)).alloc (.cells #[.slice a n cap, .slice none 0 0, .slice none 0 0, .slice none 0 0] 80)).cell? ⟨w.heap.size, 0, none⟩ = some (.slice a n cap) := HM0.out.b1.cell 0 rfl
  clear h
  go_enter Tryz.func15, Tryz.ntmps15
  go_wp2
  obtain ⟨bs, hbs⟩ : ∃ bs, bs = w.heap.size := ⟨_, rfl⟩
  rw [← hbs] at HM0 HLT c0 c1 ⊢
  have HBS := Kp.mk hbs
  clear hbs
  generalize (w.alloc (.cells #[.slice a n cap] 43)).alloc (.cells #[.slice a n cap, .slice none 0 0, .slice none 0 0, .slice none 0 0] 80) = w2 at *
  clear c0
  have enc2 : ((bs : Int) + 1) = ((bs + 1 : Nat) : Int) := by omega
  go_loopw [16] (fun i wr => ∃ (k : Nat) (ra : Option Addr) (rc : Nat), k ≤ n ∧ i = .int .i64 k ∧ Kp (wr.ownsRow (bs + 2) 3 1 (.slice ra k rc) k (ints ((List.range k).map Int.ofNat))) ∧ Kp (BldMem bs w wr a cap n #[.slice a n cap, .slice ra k rc, .slice none 0 0, .slice none 0 0])) (fun i _ => n - (intOf i).toNat)
  case atStart => exact ⟨0, none, 0, Nat.zero_le _, rfl, ⟨World.ownsRow_nil _ _ _ _⟩, HM0⟩
  case round =>
    obtain ⟨k, ra, rc, hk, rfl, HO, HM⟩ := hrel
    have d1 := HM.out.b2.cell 1 rfl
    by_cases hlt : k < n
    · have HMA := Kp.mk (HM.out.below (below_alloc (Nat.le_refl wr.heap.size) (.cells #[.int .i64 (k : Int)] 3)))
      go_wp2_with (at_builtin; refine wpList_pushS tInts rfl _ _ rfl (bs + 2) ra k rc _ rfl HO.out 1 _ rfl rfl ?d1 ?d2 (by decide) HM.out.sz ?d4)
      case d1 => simp [Value.oneCell']
      case d2 => omega
      case d4 =>
        intro ya yc w4 ho4 hg4 hn4
        have HM4 := Kp.mk (HM.out.grown hg4 (fun q hq => (own_lt HO.out q hq).1))
        have HO4 := Kp.mk (show w4.ownsRow (bs + 2) 3 1 (.slice ya (k + 1) yc) (k + 1) (ints ((List.range (k + 1)).map Int.ofNat)) from by
          rw [irange_succ]; exact ho4)
        have e1 := HM4.out.b2.cell 1 rfl
        have f1 := HM4.out.b2.free 1
        have HM5 := Kp.mk (HM4.out.put 1 (.slice ya (k + 1) yc))
        have HO5 := Kp.mk (own_keep HO4.out (grown_set w4 (bs + 1) 1 (.slice ya (k + 1) yc)) (fun q hq => by cases hq; exact row_box HO4.out HM4.out.b2 (by decide)))
        clear ho4 hg4 hn4 d1 HMA
        go_wp2
        go_roundw
        case rel => exact ⟨k + 1, ya, yc, by omega, by go_num, HO5, HM5⟩
        case measure => simp [intOf]; omega
    · obtain rfl : n = k := by omega
      have hbr : Below w.heap.size w wr := by rw [← HBS.out]; exact HM.out.low
      have HP := Kp.mk (H.out.below hbr)
      have CS := Kp.mk (sortPl_any 27 #[.pointer (some ⟨bs, 0, none⟩)] L n (bs + 2) ra rc wr HL.out (by omega) eg HO.out HM.out.sz (fun w' gb ha hg x y hx hy => by
        have hgb := own_lt HO.out gb (by rw [ha]; rfl)
        refine gridOrd_any bs a cap n x y L w' (SlC.keep HP.out hg (fun k hk => by
          cases hk
          intro e
          have h3 : gb < bs := HLT.out (by omega) gb e
          omega)) (by omega) ?_ hx hy
        exact ((HM.out.grown hg (fun k hk => by cases hk; omega)).b1).cell 0 rfl))
      go_wp2_with fail
      refine CS.out.mono ?_
      rintro e w3 ⟨rfl, O, HOR, HO3, HG⟩
      have HM3 := Kp.mk (HM.out.grown HG.out (fun q hq => (own_lt HO.out q hq).1))
      have HP3 := Kp.mk (H.out.below (show Below w.heap.size w w3 by rw [← HBS.out]; exact HM3.out.low))
      have HOL := Kp.mk (show O.length = n by rw [HOR.out.len, HL.out])
      have HFAR := Kp.mk (show ∀ k, blk ra = some k → w.heap.size ≤ k from fun k hk => by have := (own_lt HO3.out k hk).1; rw [← HBS.out]; omega)
      have HORD := Kp.mk (own_sl_len HO3.out (by rw [List.length_map]; exact HOL.out))
      have d3 := HM3.out.b2.cell 1 rfl
      have b3 := HM3.out.b1.cell 0 rfl
      clear d1 CS HO HM HP hbr
      obtain ⟨wo, rfl⟩ : ∃ wo : World, wo = w3 := ⟨_, rfl⟩
      have hso := HM3.out.sz
      obtain ⟨Y, hY⟩ : ∃ Y : List Int, Y = O.map (fun i => (L.getD i pt0).y) := ⟨_, rfl⟩
      have HYL := Kp.mk (show Y.length = n by rw [hY, List.length_map, HOL.out])
      have HYG := Kp.mk (show ∀ i, i < n → Y.getD i 0 = (L.getD (O.getD i 0) pt0).y from fun i hi => by
        rw [hY, getD_at _ _ (by rw [List.length_map, HOL.out]; exact hi), List.getElem_map, getD_at O 0 (by rw [HOL.out]; exact hi)])
      have HYT := Kp.mk (show ∀ i, i < n → ints (Y.take (i + 1)) = ints (Y.take i) ++ [.int .i64 (Y.getD i 0)] from fun i hi => by
        rw [List.take_succ_eq_append_getElem (by rw [HYL.out]; exact hi), ints_append, getD_at Y 0 (by rw [HYL.out]; exact hi)]; rfl)
      clear hY
      go_wp2
      go_loopw [4, 41] (fun x i wr => ∃ (k : Nat) (ya : Option Addr) (yc : Nat), k ≤ n ∧ i = .int .i64 k ∧ x = .slice ya k yc ∧ Kp (wr.ownsRow wo.heap.size 3 1 (.slice ya k yc) k (ints (Y.take k))) ∧ Kp (Below wo.heap.size wo wr)) (fun _ i _ => n - (intOf i).toNat)
      case atStart => exact ⟨0, none, 0, Nat.zero_le _, rfl, rfl, ⟨World.ownsRow_nil _ _ _ _⟩, ⟨Below.refl _ _⟩⟩
      case round =>
        obtain ⟨k, ya, yc, hk, rfl, rfl, HY, HB⟩ := hrel
        by_cases hlt : k < n
        · obtain ⟨ob, oo, rfl, co⟩ := (HORD.out.below HB.out).at k (by rw [List.length_map, HOL.out]; exact hlt)
          have hil := HOR.out.lt k (by rw [HOL.out]; exact hlt)
          rw [HL.out] at hil
          rw [List.getElem_map, ← getD_at O 0 (by rw [HOL.out]; exact hlt)] at co
          obtain ⟨pb, po, rfl, hpb, cp⟩ := (HP3.out.below HB.out).at ptL_len (by omega) (O.getD k 0) (by rw [HL.out]; exact hil)
          rw [← getD_at L pt0 (by rw [HL.out]; exact hil)] at cp
          have hyg := HYG.out k hlt
          have hyt := HYT.out k hlt
          rw [hyg] at hyt
          generalize L.getD (O.getD k 0) pt0 = p at *
          generalize O.getD k 0 = i at *
          have p1 : wr.cell? ⟨pb, po + i * 3 + 1, none⟩ = some (.int .i64 p.y) := cp 1 (by omega)
          have co' : wr.cell? ⟨ob, oo + k, none⟩ = some (.int .i64 (i : Int)) := co
          have b3r := (HM3.out.b1.below HB.out).cell 0 rfl
          have hin : (i : Int) < (n : Int) := by omega
          have HYTK := Kp.mk hyt
          clear cp co hyg hyt
          go_wp2_with (at_builtin; refine wpList_push tInts rfl _ _ rfl wo.heap.size ya k yc _ rfl HY.out 1 1 _ rfl rfl ?d1 (by decide) ?d2 (by decide) HB.out.size ?d4)
          case d1 => simp [Value.oneCell']
          case d2 => omega
          case d4 =>
            intro za zc w4 ho4 hb4
            have HY4 := Kp.mk (show w4.ownsRow wo.heap.size 3 1 (.slice za (k + 1) zc) (k + 1) (ints (Y.take (k + 1))) from by rw [HYTK.out]; exact ho4)
            have HB4 := Kp.mk (HB.out.trans hb4)
            clear ho4 hb4 p1 co' b3r
            go_wp2
            go_roundw
            case rel => exact ⟨k + 1, za, zc, by omega, by go_num, rfl, HY4, HB4⟩
            case measure => simp [intOf]; omega
        · obtain rfl : n = k := by omega
          have HMr := Kp.mk (HM3.out.below HB.out)
          have hYall : Y.take n = Y := List.take_of_length_le (by rw [HYL.out]; exact Nat.le_refl _)
          rw [hYall] at HY
          have HYS := Kp.mk (own_sl_len HY.out HYL.out)
          have HPr := Kp.mk (HP3.out.below HB.out)
          have HOr := Kp.mk (HORD.out.below HB.out)
          clear hYall d3 b3 HM3 HP3 HORD hso
          go_wp2_with fail
          refine (rmake_any ya yc n Y wr HYS.out HYL.out (by omega)).mono ?_
          rintro e w5 ⟨va, v, vc, ra, rc, R, rfl, HVL, HVS, HRS, HRK, HB5⟩
          have HF := Kp.mk (show GFacts n L O (valL Y) R from ⟨HL.out, HOR.out, valL_up Y, by rw [HRK.out.1, HYL.out], fun i hi => by
            have h1 := HRK.out.2 i (by rw [HYL.out]; exact hi)
            rw [← HYG.out i hi]
            exact rk_get (valL_up Y) ((valL_mem Y _).2 (by rw [getD_at _ _ (by rw [HYL.out]; exact hi)]; exact List.getElem_mem _)) h1, by have := valL_length Y; rw [HYL.out] at this; exact this⟩)
          have HM5 := Kp.mk (HMr.out.below HB5.out)
          have HP5 := Kp.mk (HPr.out.below HB5.out)
          have HO5 := Kp.mk (HOr.out.below HB5.out)
          generalize valL Y = V at *
          have e2 := HM5.out.b2.cell 2 rfl
          have f2 := HM5.out.b2.free 2
          have HM6 := Kp.mk (HM5.out.put 2 (.slice va v vc))
          have hg6 := grown_set w5 (bs + 1) 2 (.slice va v vc)
          have HP6 := Kp.mk (slc_far (o := 2) (v := .slice va v vc) HP5.out HM5.out.b2 (pts_int L) (by simp))
          have HO6 := Kp.mk (slc_far (o := 2) (v := .slice va v vc) HO5.out HM5.out.b2 (ints_int _) (by simp))
          have HV6 := Kp.mk (slc_far (o := 2) (v := .slice va v vc) HVS.out HM5.out.b2 (ints_int _) (by simp))
          have HR6 := Kp.mk (slc_far (o := 2) (v := .slice va v vc) HRS.out HM5.out.b2 (ints_int _) (by simp))
          have HR7 := Kp.mk (show SlC (w5.setCell ⟨bs + 1, 2, none⟩ (.slice va v vc)) ra n rc 1 (nts R) from by
            have := HR6.out
            rw [List.length_map, HF.out.rl] at this
            rw [nts_ints]; exact this)
          have CW := Kp.mk (wmake_any ra rc 8 n R _ HR7.out (by omega) (by omega) (by omega) (fun y hy => by
            obtain ⟨i, hi, rfl⟩ := List.getElem_of_mem hy
            have := HF.out.rk i (by rw [← HF.out.rl]; exact hi)
            rw [getD_at R 0 hi] at this
            have := HF.out.vl
            omega))
          clear HMr HPr HOr HB5 HYS HY HB HP5 HO5 HVS HRS HR6 HR7 hg6
          generalize hw6 : w5.setCell ⟨bs + 1, 2, none⟩ (.slice va v vc) = w6 at *
          go_wp2_with fail
          unfold WaveRet at CW
          refine CW.out.mono ?_
          rintro e w7 ⟨wa, wc, rfl, HW, hb7⟩
          have HM7 := Kp.mk (HM6.out.below hb7)
          have HP7 := Kp.mk (SlC.below HP6.out hb7)
          have HO7 := Kp.mk (SlC.below HO6.out hb7)
          have HV7 := Kp.mk (SlC.below HV6.out hb7)
          have e3 := HM7.out.b2.cell 3 rfl
          have f3 := HM7.out.b2.free 3
          have HM8 := Kp.mk (HM7.out.put 3 (.slice wa 8 wc))
          have HP8 := Kp.mk (slc_far (o := 3) (v := .slice wa 8 wc) HP7.out HM7.out.b2 (pts_int L) (by simp))
          have HO8 := Kp.mk (slc_far (o := 3) (v := .slice wa 8 wc) HO7.out HM7.out.b2 (ints_int _) (by simp))
          have HV8 := Kp.mk (slc_far (o := 3) (v := .slice wa 8 wc) HV7.out HM7.out.b2 (ints_int _) (by simp))
          have HW8 := Kp.mk (wave_far (o := 3) (v := .slice wa 8 wc) HW.out HM7.out.b2)
          clear CW HM6 HP6 HO6 HV6 HP7 HO7 HV7 HW hb7 e2 f2 hw6
          go_wp2
          go_ret
          refine ⟨bs + 1, _, _, O, va, v, vc, V, wa, wc, R, rfl, ⟨⟨?_, HP8.out, HO8.out, HV8.out, HVL.out, HW8.out⟩⟩, HF, ⟨by rw [← HBS.out]; exact HM8.out.low⟩, ⟨by rw [← HBS.out]; omega, HFAR.out⟩⟩
          exact HM8.out.b2

end Go.Proofs.YtladgklnacihkaaGreat

