/- Package lis: the memory of piles, and its test. -/
import Derived.Test.YtmfmknpkeniifaaLisP
import Derived.Test.YtmfmknpkeniifaaHdr
import Derived.Test.YtmfmknpkeniifaaSrch
namespace Go.Proofs.Ytmfmknpkeniifaa
set_option linter.unusedVariables false
open Go.RowKit

def nts (p : List Nat) : List Int := p.map Int.ofNat
theorem nts_length (p : List Nat) : (nts p).length = p.length := by simp [nts]
theorem nts_get (p : List Nat) (i : Nat) (h : i < (nts p).length) : (nts p)[i] = ((p[i]'(by simpa [nts] using h) : Nat) : Int) := by simp [nts]
theorem nts_append (p q : List Nat) : nts (p ++ q) = nts p ++ nts q := by simp [nts]

/-- A pile, where it lies. -/
abbrev Row := Option Addr × Nat × List Nat
def hdrN (L : List Row) : List Value := L.map fun x => .slice x.1 x.2.2.length x.2.1
def psOf (L : List Row) : List (List Nat) := L.map fun x => x.2.2
theorem hdrN_length (L : List Row) : (hdrN L).length = L.length := by simp [hdrN]
theorem psOf_length (L : List Row) : (psOf L).length = L.length := by simp [psOf]
/-- The memory of piles: the boxes of the list and of the piles, the lengths, the piles' heads, the piles. -/
structure PilMem (B n bl bo gl gc : Nat) (a : Option Addr) (cap : Nat) (w wr : World) (so : Option Addr) (sc : Nat) (L : List Row) (len : List Int) : Prop where
  hb : Below B w wr
  bxl : Box wr bl #[.slice a n cap] 38
  bxo : wr.ownsRow B 103 1 (.slice (some ⟨bo, 0, none⟩) 1 1) 1 [.slice so L.length sc]
  ln : wr.ownsRow B 3 1 (.slice (some ⟨gl, 0, none⟩) n gc) n (ints len)
  hd : wr.ownsRow B 38 1 (.slice so L.length sc) L.length (hdrN L)
  rows : ∀ x ∈ L, wr.ownsRow B 3 1 (.slice x.1 x.2.2.length x.2.1) x.2.2.length (ints (nts x.2.2))
  d1 : bl ≠ bo ∧ bl ≠ gl ∧ bo ≠ gl
  d2 : blk so ≠ some bl ∧ blk so ≠ some bo ∧ blk so ≠ some gl
  d3 : ∀ x ∈ L, blk x.1 ≠ some bl ∧ blk x.1 ≠ some bo ∧ blk x.1 ≠ some gl
  d4 : ∀ k, blk so = some k → ∀ x ∈ L, blk x.1 ≠ some k
  d5 : L.Pairwise fun x y => ∀ k, blk x.1 = some k → blk y.1 ≠ some k
variable {B n bl bo gl gc : Nat} {a : Option Addr} {cap : Nat} {w wr : World} {so : Option Addr} {sc : Nat} {L : List Row} {len : List Int}
theorem box_keep {w w' : World} {b : Nat} {cs : Array Value} {t : TypeId} {r : Option Nat} (h : Box w b cs t) (hg : w.grownBy w' r) (hr : r ≠ some b) : Box w' b cs t := (hg.block b h.lt hr.symm).trans h
/-- Nothing of it is turned. -/
theorem PilMem.keep {w' : World} {b : Option Nat} (h : PilMem B n bl bo gl gc a cap w wr so sc L len) (hg : wr.grownBy w' b) (hB : B ≤ wr.heap.size) (hb : ∀ k, b = some k → B ≤ k ∧ k ≠ bl ∧ k ≠ bo ∧ k ≠ gl ∧ blk so ≠ some k ∧ ∀ x ∈ L, blk x.1 ≠ some k) :
    PilMem B n bl bo gl gc a cap w w' so sc L len :=
  ⟨h.hb.trans (below_of_grown hg hB (fun k hk => (hb k hk).1)), box_keep h.bxl hg (fun e => (hb _ e).2.1 rfl), own_keep h.bxo hg (fun k hk he => (hb k hk).2.2.1 (by simpa [blk] using he.symm)),
    own_keep h.ln hg (fun k hk he => (hb k hk).2.2.2.1 (by simpa [blk] using he.symm)), own_keep h.hd hg (fun k hk he => (hb k hk).2.2.2.2.1 he), fun x hx => own_keep (h.rows x hx) hg (fun k hk he => (hb k hk).2.2.2.2.2 x hx he),
    h.d1, h.d2, h.d3, h.d4, h.d5⟩
theorem PilMem.drew {w' : World} (h : PilMem B n bl bo gl gc a cap w wr so sc L len) (hd : Drew wr w') (hB : B ≤ wr.heap.size) : PilMem B n bl bo gl gc a cap w w' so sc L len :=
  h.keep (b := none) (grown_of_below (hd.below _)) hB (fun k hk => by cases hk)
theorem PilMem.alloc (h : PilMem B n bl bo gl gc a cap w wr so sc L len) (o : Obj) (hB : B ≤ wr.heap.size) : PilMem B n bl bo gl gc a cap w (wr.alloc o) so sc L len :=
  h.keep (b := none) (grown_of_below (below_alloc (Nat.le_refl _) o)) hB (fun k hk => by cases hk)
/-- A pile's head, and its top. -/
theorem PilMem.row (h : PilMem B n bl bo gl gc a cap w wr so sc L len) (k : Nat) (hk : k < L.length) : ∃ gs, so = some ⟨gs, 0, none⟩ ∧ wr.cell? ⟨gs, k, none⟩ = some (.slice L[k].1 L[k].2.2.length L[k].2.1) ∧ wr.frozen? ⟨gs, k, none⟩ = false := by
  obtain ⟨gs, rfl, _, _⟩ := own_some h.hd (by omega)
  refine ⟨gs, rfl, ?_, h.hd.frozenAt k⟩
  rw [h.hd.cellAt k (by omega), List.getElem?_eq_getElem (by rw [hdrN_length]; exact hk)]
  simp [hdrN]
theorem PilMem.tipAt (h : PilMem B n bl bo gl gc a cap w wr so sc L len) (k : Nat) (hk : k < L.length) (hne : L[k].2.2 ≠ []) : ∃ gr, L[k].1 = some ⟨gr, 0, none⟩ ∧ wr.cell? ⟨gr, L[k].2.2.length - 1, none⟩ = some (.int .i64 (tip L[k].2.2 : Nat)) := by
  have hr := h.rows _ (List.getElem_mem hk)
  have hpos := List.length_pos_iff.2 hne
  obtain ⟨gr, e, _, _⟩ := own_some hr hpos
  refine ⟨gr, e, ?_⟩
  rw [e] at hr
  rw [hr.cellAt (L[k].2.2.length - 1) (by omega), List.getElem?_eq_getElem (by rw [ints_length, nts_length]; omega), ints_get, nts_get, tip_get hne]

theorem box_other {w : World} {b c o : Nat} {cs : Array Value} {t : TypeId} {v : Value} (h : Box w b cs t) (hne : c ≠ b) : Box (w.setCell ⟨c, o, none⟩ v) b cs t := box_keep h (grown_set w c o v) (by simpa using hne)
theorem own_other {w : World} {B e size n m c g o : Nat} {a : Option Addr} {xs : List Value} {v : Value} (h : w.ownsRow B e size (.slice a m c) n xs) (hne : blk a ≠ some g) : (w.setCell ⟨g, o, none⟩ v).ownsRow B e size (.slice a m c) n xs :=
  own_keep h (grown_set w g o v) (fun k hk => by simp at hk; subst hk; exact hne)
/-- A head is put behind the others. -/
theorem PilMem.more {w3 : World} {so' : Option Addr} {sc' : Nat} (h : PilMem B n bl bo gl gc a cap w wr so sc L len) (hB : B ≤ wr.heap.size)
    (hown : w3.ownsRow B 38 1 (.slice so' (L.length + 1) sc') (L.length + 1) (hdrN L ++ [.slice none 0 0])) (hg : wr.grownBy w3 (blk so)) (hno : NewOr wr so so') :
    PilMem B n bl bo gl gc a cap w (w3.setCell ⟨bo, 0, none⟩ (.slice so' (L.length + 1) sc')) so' sc' (L ++ [(none, 0, [])]) len := by
  have hlt : ∀ k, blk so' = some k → blk so = some k ∨ wr.heap.size ≤ k := fun k hk => by
    rcases hno with e | ⟨g, e, hge⟩
    · exact .inl (by rw [← e]; exact hk)
    · rw [hk] at e; simp at e; exact .inr (by omega)
  have hbl := h.bxl.lt
  have hbo := (h.bxo.lt bo rfl).2
  have hgl := (h.ln.lt gl rfl).2
  have d2 : blk so' ≠ some bl ∧ blk so' ≠ some bo ∧ blk so' ≠ some gl := by
    refine ⟨fun e => ?_, fun e => ?_, fun e => ?_⟩ <;> rcases hlt _ e with e' | e'
    · exact h.d2.1 e'
    · omega
    · exact h.d2.2.1 e'
    · omega
    · exact h.d2.2.2 e'
    · omega
  refine ⟨(h.hb.trans (below_of_grown hg hB (fun k hk => (own_lt h.hd k hk).1))).setCell (p := ⟨bo, 0, none⟩) (h.bxo.lt bo rfl).1 _, box_other (box_keep h.bxl hg h.d2.1) (Ne.symm h.d1.1), ?_,
    own_other (own_keep h.ln hg (fun k hk he => h.d2.2.2 (by rw [hk]; exact he.symm ▸ rfl))) (fun e => h.d1.2.2 (by simpa [blk] using e.symm)), ?_, ?_, h.d1, d2, ?_, ?_, ?_⟩
  · have hk := own_keep h.bxo hg (fun k hk he => h.d2.2.1 (by rw [hk, ← he]; rfl))
    have := (hk.stored 0 (.slice so' (L.length + 1) sc')).1
    simpa using this
  · have := own_other (v := .slice so' (L.length + 1) sc') (o := 0) hown d2.2.1
    rw [List.length_append, List.length_singleton]
    simpa [hdrN] using this
  · intro x hx
    rcases List.mem_append.1 hx with hx | hx
    · exact own_other (own_keep (h.rows x hx) hg (fun k hk => h.d4 k hk x hx)) (h.d3 x hx).2.1
    · rw [List.mem_singleton.1 hx]
      exact World.ownsRow_nil _ _ _ _
  · intro x hx
    rcases List.mem_append.1 hx with hx | hx
    · exact h.d3 x hx
    · rw [List.mem_singleton.1 hx]; simp [blk]
  · intro k hk x hx
    rcases List.mem_append.1 hx with hx | hx
    · intro e
      rcases hlt k hk with e' | e'
      · exact h.d4 k e' x hx e
      · have := (own_lt (h.rows x hx) k e).2; omega
    · rw [List.mem_singleton.1 hx]; simp [blk]
  · exact List.pairwise_append.2 ⟨h.d5, by simp, fun x hx y hy => by rw [List.mem_singleton.1 hy]; simp [blk]⟩
/-- A place is put on a pile. -/
theorem PilMem.grow {w3 : World} {gs k i : Nat} {a' : Option Addr} {c' m : Nat} {r : Row} (h : PilMem B n bl bo gl gc a cap w wr (some ⟨gs, 0, none⟩) sc L len) (hB : B ≤ wr.heap.size) (hk : k < L.length) (hr : L[k] = r) (hm : r.2.2.length = m)
    (hown : w3.ownsRow B 3 1 (.slice a' (m + 1) c') (m + 1) (ints (nts r.2.2) ++ [.int .i64 i])) (hg : wr.grownBy w3 (blk r.1)) (hno : NewOr wr r.1 a') :
    PilMem B n bl bo gl gc a cap w (w3.setCell ⟨gs, k, none⟩ (.slice a' (m + 1) c')) (some ⟨gs, 0, none⟩) sc (L.set k (a', c', r.2.2 ++ [i])) len := by
  have hrm : r ∈ L := by rw [← hr]; exact List.getElem_mem hk
  have hlt : ∀ q, blk a' = some q → blk r.1 = some q ∨ wr.heap.size ≤ q := fun q hq => by
    rcases hno with e | ⟨g, e, hge⟩
    · exact .inl (by rw [← e]; exact hq)
    · rw [hq] at e; simp at e; exact .inr (by omega)
  have hbl := h.bxl.lt
  have hbo := (h.bxo.lt bo rfl).2
  have hgl := (h.ln.lt gl rfl).2
  have hgs := (h.hd.lt gs rfl).2
  have hd3 := h.d3 r hrm
  have hd4 := h.d4 gs rfl r hrm
  have na' : blk a' ≠ some bl ∧ blk a' ≠ some bo ∧ blk a' ≠ some gl ∧ blk a' ≠ some gs := by
    refine ⟨fun e => ?_, fun e => ?_, fun e => ?_, fun e => ?_⟩ <;> rcases hlt _ e with e' | e'
    · exact hd3.1 e'
    · omega
    · exact hd3.2.1 e'
    · omega
    · exact hd3.2.2 e'
    · omega
    · exact hd4 e'
    · omega
  have gsn : gs ≠ bl ∧ gs ≠ bo ∧ gs ≠ gl := ⟨fun e => h.d2.1 (by rw [e]; rfl), fun e => h.d2.2.1 (by rw [e]; rfl), fun e => h.d2.2.2 (by rw [e]; rfl)⟩
  have hp := List.pairwise_iff_getElem.1 h.d5
  have hmem : ∀ x ∈ L.set k (a', c', r.2.2 ++ [i]), x = (a', c', r.2.2 ++ [i]) ∨ ∃ j, ∃ hj : j < L.length, j ≠ k ∧ L[j] = x := fun x hx => by
    obtain ⟨j, hj, rfl⟩ := List.mem_iff_getElem.1 hx
    rw [List.length_set] at hj
    by_cases e : k = j
    · subst e; exact .inl (by simp)
    · exact .inr ⟨j, hj, fun e' => e e'.symm, by rw [List.getElem_set, if_neg e]⟩
  have hoth : ∀ j (hj : j < L.length), j ≠ k → ∀ q, blk r.1 = some q → blk L[j].1 ≠ some q := fun j hj hne q hq e => by
    rcases Nat.lt_or_gt_of_ne hne with h1 | h1
    · exact hp j k hj hk h1 q e (by rw [hr]; exact hq)
    · exact hp k j hk hj h1 q (by rw [hr]; exact hq) e
  refine ⟨(h.hb.trans (below_of_grown hg hB (fun q hq => (own_lt (h.rows r hrm) q hq).1))).setCell (p := ⟨gs, k, none⟩) (h.hd.lt gs rfl).1 _, box_other (box_keep h.bxl hg hd3.1) gsn.1, ?_,
    own_other (own_keep h.ln hg (fun q hq he => hd3.2.2 (by rw [hq, ← he]; rfl))) (fun e => gsn.2.2 (by simpa [blk] using e.symm)), ?_, ?_, h.d1, h.d2, ?_, ?_, ?_⟩
  · rw [List.length_set]
    exact own_other (own_keep h.bxo hg (fun q hq he => hd3.2.1 (by rw [hq, ← he]; rfl))) (fun e => gsn.2.1 (by simpa [blk] using e.symm))
  · have h1 := own_keep h.hd hg (fun q hq he => hd4 (by rw [hq, ← he]; rfl))
    have h2 := (h1.stored k (.slice a' (m + 1) c')).1
    rw [List.length_set]
    have e : (hdrN L).set k (.slice a' (m + 1) c') = hdrN (L.set k (a', c', r.2.2 ++ [i])) := by
      simp [hdrN, List.map_set, hm]
    rw [e] at h2
    exact h2
  · intro x hx
    rcases hmem x hx with rfl | ⟨j, hj, hne, rfl⟩
    · dsimp only
      rw [List.length_append, List.length_singleton, hm, nts_append, ints_append]
      exact own_other hown na'.2.2.2
    · exact own_other (own_keep (h.rows _ (List.getElem_mem hj)) hg (fun q hq => hoth j hj hne q hq)) (h.d4 gs rfl _ (List.getElem_mem hj))
  · intro x hx
    rcases hmem x hx with rfl | ⟨j, hj, hne, rfl⟩
    · exact ⟨na'.1, na'.2.1, na'.2.2.1⟩
    · exact h.d3 _ (List.getElem_mem hj)
  · intro q hq x hx
    rcases hmem x hx with rfl | ⟨j, hj, hne, rfl⟩
    · simp [blk] at hq; subst hq; exact na'.2.2.2
    · exact h.d4 q hq _ (List.getElem_mem hj)
  · refine List.pairwise_iff_getElem.2 fun x y hx hy hxy q hq => ?_
    rw [List.length_set] at hx hy
    rw [List.getElem_set] at hq ⊢
    by_cases e1 : k = x
    · subst e1
      rw [if_pos rfl] at hq
      rw [if_neg (by omega)]
      rcases hlt q hq with e | e
      · exact hoth y hy (by omega) q e
      · intro e'
        have := (own_lt (h.rows _ (List.getElem_mem hy)) q e').2
        omega
    · rw [if_neg e1] at hq
      by_cases e2 : k = y
      · subst e2
        rw [if_pos rfl]
        intro e'
        rcases hlt q e' with e | e
        · exact hoth x hx (fun e0 => e1 e0.symm) q e hq
        · have := (own_lt (h.rows _ (List.getElem_mem hx)) q hq).2
          omega
      · rw [if_neg e2]
        exact hp x y hx hy hxy q hq
/-- A length is told. -/
theorem PilMem.tell (h : PilMem B n bl bo gl gc a cap w wr so sc L len) (j : Nat) (v : Int) : PilMem B n bl bo gl gc a cap w (wr.setCell ⟨gl, j, none⟩ (.int .i64 v)) so sc L (len.set j v) := by
  refine ⟨h.hb.setCell (p := ⟨gl, j, none⟩) (h.ln.lt gl rfl).1 _, box_other h.bxl (Ne.symm h.d1.2.1), own_other h.bxo (fun e => h.d1.2.2 (by simpa [blk] using e)), ?_, own_other h.hd h.d2.2.2, fun x hx => own_other (h.rows x hx) (h.d3 x hx).2.2, h.d1, h.d2, h.d3, h.d4, h.d5⟩
  have := (h.ln.stored j (.int .i64 v)).1
  rwa [ints_set] at this

set_option maxRecDepth 100000 in
set_option maxHeartbeats 1000000 in
/-- The test of piles: whether the top of a pile is not below v. -/
theorem ptest_any (l : List Int) (v : Int) (bn : Nat) (hl : l.length = n) (hn : n ≤ 300) (hw : SlI wr a cap l) (hM : PilMem B n bl bo gl gc a cap w wr so sc L len) (hv : wr.cell? ⟨bn, 0, none⟩ = some (.int .i64 v))
    (hI : ∀ p ∈ psOf L, p ≠ [] ∧ p.length ≤ 300 ∧ ∀ x ∈ p, x < n) (hB : B ≤ wr.heap.size) (hL : L.length ≤ 300) :
    Asks 100 #[.pointer (some ⟨bl, 0, none⟩), .pointer (some ⟨bo, 0, none⟩), .pointer (some ⟨bn, 0, none⟩)] (fun k => decide (v ≤ at0 l (tip ((psOf L).getD k [])))) L.length wr := by
  intro W hd k hk
  have hv' : W.cell? ⟨bn, 0, none⟩ = some (.int .i64 v) := by rw [hd.cell]; exact hv
  have hM' := hM.drew hd hB
  have hw' := hw.below (hd.below _)
  have hps : (psOf L).getD k [] = L[k].2.2 := by rw [getD_at _ _ (by rw [psOf_length]; exact hk)]; simp [psOf]
  have hpm : L[k].2.2 ∈ psOf L := List.mem_map.2 ⟨L[k], List.getElem_mem hk, rfl⟩
  obtain ⟨i1, i2, i3⟩ := hI _ hpm
  obtain ⟨gs, rfl, cs, _⟩ := hM'.row k hk
  obtain ⟨gr, er, cr⟩ := hM'.tipAt k hk i1
  have hpos := List.length_pos_iff.2 i1
  have htl : tip L[k].2.2 < l.length := by rw [hl]; exact i3 _ (tip_mem i1)
  obtain ⟨b, off, rfl, ct⟩ := hw'.at _ htl
  rw [← at0_get htl] at ct
  have cl := hM'.bxl.cell 0 rfl
  have co := hM'.bxo.cellAt 0 (by omega)
  rw [show [Value.slice (some ⟨gs, 0, none⟩) L.length sc][0]? = some (.slice (some ⟨gs, 0, none⟩) L.length sc) from rfl] at co
  dsimp only
  rw [hps]
  rw [er] at cs
  have HL := Kp.mk hl
  rw [hl] at htl
  have hti : ((tip L[k].2.2 : Nat) : Int) < n := by omega
  have hki : (k : Int) < L.length := by omega
  clear hw hM hv hI hB hd hM' hw' hps hpm i1 i3 er hl
  generalize L[k].2.1 = c at *
  generalize tip L[k].2.2 = t at *
  generalize hm : L[k].2.2.length = m at *
  obtain ⟨m', rfl⟩ : ∃ m', m = m' + 1 := ⟨m - 1, by omega⟩
  rw [Nat.add_sub_cancel] at cr
  clear hm
  generalize L.length = r at *
  generalize at0 l t = u at *
  go_enter Try.func100, Try.ntmps100
  go_wp2
  go_quiet (fail)
  go_wp2
  go_ret
  exact ⟨rfl, _, rfl⟩

end Go.Proofs.Ytmfmknpkeniifaa
