/- Package wave: Make. -/
import Derived.Test.YtepcmpcnkmfpcaaWavD
namespace Go.Proofs.Ytepcmpcnkmfpcaa
set_option linter.unusedVariables false
open Go.RowKit

/-- Naturals as cells. -/
def nts (l : List Nat) : List Value := l.map fun (n : Nat) => .int .i64 (n : Int)
theorem nts_length (l : List Nat) : (nts l).length = l.length := by simp [nts]
theorem nts_append (l m : List Nat) : nts (l ++ m) = nts l ++ nts m := by simp [nts]
theorem nts_get (l : List Nat) (i : Nat) (h : i < (nts l).length) : (nts l)[i] = .int .i64 ((l[i]'(by simpa [nts] using h) : Nat) : Int) := by simp [nts]
theorem nts_one (l : List Nat) : ∀ u ∈ nts l, u.oneCell' = true := by simp [nts, Value.oneCell']
theorem nts_ints (l : List Nat) : nts l = ints (l.map Int.ofNat) := by simp [nts, ints]
theorem slN_at {w : World} {a : Option Addr} {n cap : Nat} {l : List Nat} (h : SlC w a n cap 1 (nts l)) (i : Nat) (hi : i < l.length) : ∃ b off, a = some ⟨b, off, none⟩ ∧ w.cell? ⟨b, off + i, none⟩ = some (.int .i64 ((l[i] : Nat) : Int)) := by
  obtain ⟨b, off, ha, hc⟩ := SlC.cell h i (by rw [nts_length]; exact hi)
  exact ⟨b, off, ha, by rw [hc, nts_get]⟩
theorem info_bitsT : (Try.prog.info? 98).map (fun i => (i.zero, i.size, i.bytes)) = some (some (.agg #[.int .i64 0, .slice none 0 0]), 2, 32) := by kernel_rfl
theorem tBitsT : ElemTy Try.prog 55 98 2 32 (.agg #[.int .i64 0, .slice none 0 0]) :=
  ⟨Try.underlying55, by obtain ⟨i0, hi, h0, h1, h2⟩ := info_parts info_bitsT; exact ⟨i0, hi, h0, h1, h2⟩, rfl, by decide⟩
theorem own_two {w : World} {B e size n m c B' e' size' n' m' c' : Nat} {a a' : Option Addr} {xs xs' : List Value} (h : w.ownsRow B e size (.slice a m c) n xs) (h' : w.ownsRow B' e' size' (.slice a' m' c') n' xs') (hne : e ≠ e') : ∀ k, blk a = some k → blk a' ≠ some k := by
  intro k hk hk'
  rcases h.2 with ⟨hv, _⟩ | ⟨g, cap, cur, hv, _, hgb, _⟩
  · simp only [Value.slice.injEq] at hv
    rw [hv.1] at hk; cases hk
  · rcases h'.2 with ⟨hv', _⟩ | ⟨g', cap', cur', hv', _, hgb', _⟩
    · simp only [Value.slice.injEq] at hv'
      rw [hv'.1] at hk'; cases hk'
    · simp only [Value.slice.injEq] at hv hv'
      rw [hv.1] at hk
      rw [hv'.1] at hk'
      simp only [blk, Option.map_some, Option.some.injEq] at hk hk'
      subst hk
      rw [hk', hgb] at hgb'
      simp only [Option.some.injEq, Obj.cells.injEq] at hgb'
      exact hne hgb'.2.1
theorem box_own {W : World} {B bp e size n c m : Nat} {t : TypeId} {a : Option Addr} {cs : Array Value} {xs : List Value} (h : W.ownsRow B e size (.slice a m c) n xs) (hb : Box W bp cs t) (hne : t ≠ e) : blk a ≠ some bp := fun e' => by
  rcases h.2 with ⟨hv, _⟩ | ⟨g, cap, cur, hv, _, hgb, _⟩
  · simp only [Value.slice.injEq] at hv
    rw [hv.1] at e'; cases e'
  · simp only [Value.slice.injEq] at hv
    rw [hv.1] at e'
    simp only [blk, Option.map_some, Option.some.injEq] at e'
    subst e'
    have hb' : W.heap[g]? = some (.cells cs t (0, 0)) := hb
    rw [hgb] at hb'
    simp only [Option.some.injEq, Obj.cells.injEq] at hb'
    exact hne hb'.2.1.symm
theorem box_grown {w w' : World} {b : Nat} {cs : Array Value} {t : TypeId} {r : Option Nat} (h : Box w b cs t) (hg : w.grownBy w' r) (hne : r ≠ some b) : Box w' b cs t := (hg.block b h.lt (fun e => hne e.symm)).trans h
theorem box_setC {w : World} {b c o : Nat} {cs : Array Value} {t : TypeId} {v : Value} (h : Box w b cs t) (hne : c ≠ b) : Box (w.setCell ⟨c, o, none⟩ v) b cs t := (heap_setCell_other w ⟨c, o, none⟩ b v (fun e => hne e.symm)).trans h
theorem wbox_put {w : World} {b i : Nat} {cs : Array Value} {t : TypeId} (h : Box w b cs t) (v : Value) : Box (w.setCell ⟨b, i, none⟩ v) b (cs.setIfInBounds i v) t := by
  obtain ⟨hlt, hk⟩ := Array.getElem?_eq_some_iff.1 h
  show (w.heap.modify b _)[b]? = _
  rw [Array.getElem?_eq_getElem (by rw [Array.size_modify]; exact hlt), Array.getElem_modify_self, hk]
  rfl
/-- A row of n bools: what is told of the first i. -/
def rowK (k n i : Nat) (l : List Nat) : List Bool := rowL k (l.take i) ++ List.replicate (n - i) false
theorem rowK_zero (k n : Nat) (l : List Nat) : rowK k n 0 l = List.replicate n false := by simp [rowK, rowL]
theorem rowK_all (k n : Nat) (l : List Nat) (h : l.length = n) : rowK k n n l = rowL k l := by simp [rowK, ← h]
theorem rowK_set (k n i : Nat) (l : List Nat) (hl : l.length = n) (h : i < l.length) : (rowK k n i l).set i (bitB l[i] k) = rowK k n (i + 1) l := by
  have h1 : (rowL k (l.take i)).length = i := by rw [rowL_length, List.length_take]; omega
  unfold rowK
  rw [List.set_append_right (h := by omega), h1, Nat.sub_self, show n - i = (n - (i + 1)) + 1 by omega, List.replicate_succ, List.set_cons_zero, List.take_succ_eq_append_getElem h]
  unfold rowL
  rw [List.map_append, List.append_assoc]; rfl
theorem rowK_length (k n i : Nat) (l : List Nat) (hl : l.length = n) (h : i ≤ n) : (rowK k n i l).length = n := by
  unfold rowK
  rw [List.length_append, rowL_length, List.length_take, List.length_replicate]; omega
def halfK (k i : Nat) (o : Bool) (l : List Nat) : List Nat := (l.take i).filter fun x => bitB x k == o
theorem halfK_succ (k i : Nat) (o : Bool) (l : List Nat) (h : i < l.length) : halfK k (i + 1) o l = if bitB l[i] k = o then halfK k i o l ++ [l[i]] else halfK k i o l := by
  unfold halfK
  rw [List.take_succ_eq_append_getElem h, List.filter_append]
  by_cases hb : bitB l[i] k = o
  · rw [if_pos hb]; simp [List.filter_cons, hb]
  · rw [if_neg hb]; simp [List.filter_cons, hb]
theorem halfK_le (k i : Nat) (o : Bool) (l : List Nat) : (halfK k i o l).length ≤ i := Nat.le_trans (List.length_filter_le _ _) (List.length_take_le _ _)
theorem halfK_step (k n : Nat) (l : List Nat) (h : l.length = n) : halfK k n false l ++ halfK k n true l = stepL k l := by
  unfold halfK stepL
  rw [← h, List.take_length]
theorem bit_val (x k : Nat) (hx : x < 9223372036854775808) : bits BinOp.and IntKind.i64 ((x : Int) / 2 ^ k) 1 = if bitB x k = true then 1 else 0 := by
  have e : (x : Int) / 2 ^ k = ((x / 2 ^ k : Nat) : Int) := by push_cast; rfl
  have hd : x / 2 ^ k ≤ x := Nat.div_le_self _ _
  have := i64_and_nat (x / 2 ^ k) 1 (by omega) (by decide)
  have hb : bitB x k = (x / 2 ^ k % 2 == 1) := by unfold bitB; rfl
  rw [e, show (1 : Int) = ((1 : Nat) : Int) from rfl, this, Nat.and_one_is_mod, hb]
  have : x / 2 ^ k % 2 = 0 ∨ x / 2 ^ k % 2 = 1 := by omega
  rcases this with h | h <;> rw [h] <;> simp
theorem halfK_zero (k : Nat) (o : Bool) (l : List Nat) : halfK k 0 o l = [] := rfl
attribute [irreducible] rowK halfK

/-- Behind i numbers of a level (of the row: ir). -/
structure HalfMem (Br Bt bh : Nat) (ra : Option Addr) (n ir i k : Nat) (wr0 wr : World) (a0 a1 : Option Addr) (c0 c1 rc : Nat) (l : List Nat) : Prop where
  bel : Below Br wr0 wr
  ge : Bt ≤ wr.heap.size
  row : wr.ownsRow Br 4 1 (.slice ra n rc) n (bls (rowK k n ir l))
  box : Box wr bh #[.slice a0 (halfK k i false l).length c0, .slice a1 (halfK k i true l).length c1] 95
  h0 : wr.ownsRow Bt 3 1 (.slice a0 (halfK k i false l).length c0) (halfK k i false l).length (nts (halfK k i false l))
  h1 : wr.ownsRow Bt 3 1 (.slice a1 (halfK k i true l).length c1) (halfK k i true l).length (nts (halfK k i true l))
  apart : ∀ k, blk a0 = some k → blk a1 ≠ some k
/-- What stays: the blocks of a level's row and of its halves. -/
structure HalfBlk (Br Bt bh : Nat) (ra : Option Addr) (wr0 : World) : Prop where
  r : ∀ q, blk ra = some q → Br ≤ q ∧ q < Bt ∧ q ≠ bh
  b0 : Br ≤ bh
  b1 : bh < Bt
  w0 : Br ≤ wr0.heap.size
theorem HalfMem.set {Br Bt bh rb : Nat} {ra : Option Addr} {n i k : Nat} {wr0 wr : World} {a0 a1 : Option Addr} {c0 c1 rc : Nat} {l : List Nat} (H : HalfMem Br Bt bh ra n i i k wr0 wr a0 a1 c0 c1 rc l) (B : HalfBlk Br Bt bh ra wr0) (hl : l.length = n) (hi : i < l.length) (hra : ra = some ⟨rb, 0, none⟩) :
    HalfMem Br Bt bh ra n (i + 1) i k wr0 (wr.setCell ⟨rb, i, none⟩ (.bool (bitB l[i] k))) a0 a1 c0 c1 rc l := by
  have hrb := B.r rb (by rw [hra]; rfl)
  have hg := grown_set wr rb i (.bool (bitB l[i] k))
  have hBw := H.bel.size
  refine ⟨H.bel.trans (below_of_grown hg (by have := B.w0; omega) (fun q hq => by simp at hq; omega)), by rw [size_setCell]; exact H.ge, ?_, box_setC H.box hrb.2.2, ?_, ?_, H.apart⟩
  · have h2 := H.row
    rw [hra] at h2 ⊢
    have := (h2.stored i (.bool (bitB l[i] k))).1
    rw [bls_set, rowK_set k n i l hl hi] at this
    exact this
  · exact own_keep H.h0 hg (fun q hq hm => by simp at hq; have := (own_lt H.h0 q hm).1; omega)
  · exact own_keep H.h1 hg (fun q hq hm => by simp at hq; have := (own_lt H.h1 q hm).1; omega)
theorem HalfMem.push0 {Br Bt bh : Nat} {ra : Option Addr} {n i k : Nat} {wr0 wr w' : World} {a0 a1 sa : Option Addr} {c0 c1 rc sc : Nat} {l : List Nat} (H : HalfMem Br Bt bh ra n (i + 1) i k wr0 wr a0 a1 c0 c1 rc l) (B : HalfBlk Br Bt bh ra wr0) (hi : i < l.length) (hx : bitB l[i] k = false)
    (ho : w'.ownsRow Bt 3 1 (.slice sa ((halfK k i false l).length + 1) sc) ((halfK k i false l).length + 1) (nts (halfK k i false l) ++ [.int .i64 ((l[i] : Nat) : Int)])) (hg : wr.grownBy w' (blk a0)) (hno : NewOr wr a0 sa) :
    HalfMem Br Bt bh ra n (i + 1) (i + 1) k wr0 (w'.setCell ⟨bh, 0, none⟩ (.slice sa ((halfK k i false l).length + 1) sc)) sa a1 sc c1 rc l := by
  have e0 : halfK k (i + 1) false l = halfK k i false l ++ [l[i]] := by rw [halfK_succ k i false l hi, if_pos hx]
  have e1 : halfK k (i + 1) true l = halfK k i true l := by rw [halfK_succ k i true l hi, if_neg (by rw [hx]; simp)]
  have el : (halfK k (i + 1) false l).length = (halfK k i false l).length + 1 := by rw [e0]; simp
  have hBt : Br ≤ Bt := by have := B.b0; have := B.b1; omega
  have hgs := grown_set w' bh 0 (.slice sa ((halfK k i false l).length + 1) sc)
  have hw := H.ge
  have hgw := hg.size
  have hr := own_keep H.row hg (fun q hq hm => by have := (own_lt H.h0 q hq).1; have := B.r q hm; omega)
  have h1 := own_keep H.h1 hg (fun q hq => H.apart q hq)
  have hb := box_grown H.box hg (fun e => by have := (own_lt H.h0 bh e).1; have := B.b1; omega)
  have n1 : ∀ q, some bh = some q → blk sa ≠ some q := fun q hq hm => by have := (own_lt ho q hm).1; have := B.b1; simp at hq; omega
  refine ⟨?_, by rw [size_setCell]; omega, ?_, ?_, ?_, ?_, ?_⟩
  · exact (H.bel.trans (below_of_grown hg (by have := H.bel.size; have := B.w0; omega) (fun q hq => by have := (own_lt H.h0 q hq).1; omega))).trans (below_of_grown hgs (by omega) (fun q hq => by simp at hq; have := B.b0; omega))
  · exact own_keep hr hgs (fun q hq hm => by simp at hq; have := B.r q hm; omega)
  · have := wbox_put hb (i := 0) (.slice sa ((halfK k i false l).length + 1) sc)
    rw [e1, el]
    exact this
  · rw [el, e0, nts_append]
    exact own_keep ho hgs n1
  · rw [e1]
    exact own_keep h1 hgs (fun q hq hm => by have := (own_lt H.h1 q hm).1; have := B.b1; simp at hq; omega)
  · intro q hq hm
    rcases hno with h | ⟨g, h2, h3⟩
    · exact H.apart q (by rw [← h]; exact hq) hm
    · rw [h2] at hq
      have := (own_lt H.h1 q hm).2
      simp at hq; omega
theorem HalfMem.push1 {Br Bt bh : Nat} {ra : Option Addr} {n i k : Nat} {wr0 wr w' : World} {a0 a1 sa : Option Addr} {c0 c1 rc sc : Nat} {l : List Nat} (H : HalfMem Br Bt bh ra n (i + 1) i k wr0 wr a0 a1 c0 c1 rc l) (B : HalfBlk Br Bt bh ra wr0) (hi : i < l.length) (hx : bitB l[i] k = true)
    (ho : w'.ownsRow Bt 3 1 (.slice sa ((halfK k i true l).length + 1) sc) ((halfK k i true l).length + 1) (nts (halfK k i true l) ++ [.int .i64 ((l[i] : Nat) : Int)])) (hg : wr.grownBy w' (blk a1)) (hno : NewOr wr a1 sa) :
    HalfMem Br Bt bh ra n (i + 1) (i + 1) k wr0 (w'.setCell ⟨bh, 1, none⟩ (.slice sa ((halfK k i true l).length + 1) sc)) a0 sa c0 sc rc l := by
  have e0 : halfK k (i + 1) true l = halfK k i true l ++ [l[i]] := by rw [halfK_succ k i true l hi, if_pos hx]
  have e1 : halfK k (i + 1) false l = halfK k i false l := by rw [halfK_succ k i false l hi, if_neg (by rw [hx]; simp)]
  have el : (halfK k (i + 1) true l).length = (halfK k i true l).length + 1 := by rw [e0]; simp
  have hBt : Br ≤ Bt := by have := B.b0; have := B.b1; omega
  have hgs := grown_set w' bh 1 (.slice sa ((halfK k i true l).length + 1) sc)
  have hw := H.ge
  have hgw := hg.size
  have hr := own_keep H.row hg (fun q hq hm => by have := (own_lt H.h1 q hq).1; have := B.r q hm; omega)
  have h0 := own_keep H.h0 hg (fun q hq hm => H.apart q hm hq)
  have hb := box_grown H.box hg (fun e => by have := (own_lt H.h1 bh e).1; have := B.b1; omega)
  have n1 : ∀ q, some bh = some q → blk sa ≠ some q := fun q hq hm => by have := (own_lt ho q hm).1; have := B.b1; simp at hq; omega
  refine ⟨?_, by rw [size_setCell]; omega, ?_, ?_, ?_, ?_, ?_⟩
  · exact (H.bel.trans (below_of_grown hg (by have := H.bel.size; have := B.w0; omega) (fun q hq => by have := (own_lt H.h1 q hq).1; omega))).trans (below_of_grown hgs (by omega) (fun q hq => by simp at hq; have := B.b0; omega))
  · exact own_keep hr hgs (fun q hq hm => by simp at hq; have := B.r q hm; omega)
  · have := wbox_put hb (i := 1) (.slice sa ((halfK k i true l).length + 1) sc)
    rw [e1, el]
    exact this
  · rw [e1]
    exact own_keep h0 hgs (fun q hq hm => by have := (own_lt H.h0 q hm).1; have := B.b1; simp at hq; omega)
  · rw [el, e0, nts_append]
    exact own_keep ho hgs n1
  · intro q hq hm
    rcases hno with h | ⟨g, h2, h3⟩
    · exact H.apart q hq (by rw [← h]; exact hm)
    · rw [h2] at hm
      have := (own_lt H.h0 q hq).2
      simp at hm; omega

end Go.Proofs.Ytepcmpcnkmfpcaa
