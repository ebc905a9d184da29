import Derived.Test.YtladgklnacihkaaGreatMg17
import Derived.Test.YtladgklnacihkaaGreatMg4
/- Points that come and go: the plain law. -/
namespace Go.Proofs.YtladgklnacihkaaGreat.Dy
set_option linter.unusedVariables false
open Hp (nlt nlt_iff IsNear)

/-- An id and its point. -/
abbrev IP := Int × Pt
def keyLe (a b : Int × Int) : Prop := a.1 < b.1 ∨ a.1 = b.1 ∧ a.2 ≤ b.2
/-- What is told first: the ids of points, sorted by a number, then by id. -/
structure IsBest (f : Pt → Int) (A : List IP) (k : Nat) (out : List Int) : Prop where
  ex : ∃ T : List (Int × Int), T.Perm (A.map fun a => (f a.2, a.1)) ∧ T.Pairwise keyLe ∧ out = (T.take k).map (·.2)
theorem sorted_eq {S T : List (Int × Int)} (h : S.Perm T) (hS : S.Pairwise keyLe) (hT : T.Pairwise keyLe) : S = T :=
  List.Perm.eq_of_pairwise (le := keyLe) (fun a b _ _ h1 h2 => by
    unfold keyLe at h1 h2
    exact Prod.ext (by omega) (by omega)) hS hT h
theorem IsBest.unique {f : Pt → Int} {A A' : List IP} {k : Nat} {out out' : List Int} (h : IsBest f A k out) (hp : A'.Perm A) (h' : IsBest f A' k out') : out = out' := by
  obtain ⟨T, t1, t2, rfl⟩ := h.ex
  obtain ⟨T', s1, s2, rfl⟩ := h'.ex
  rw [sorted_eq (t1.trans ((hp.map _).symm.trans s1.symm)) t2 s2]
theorem IsBest.perm {f : Pt → Int} {A A' : List IP} {k : Nat} {out : List Int} (h : IsBest f A k out) (hp : A'.Perm A) : IsBest f A' k out := by
  obtain ⟨T, t1, t2, rfl⟩ := h.ex
  exact ⟨T, t1.trans (hp.map _).symm, t2, rfl⟩

/-- What is there, and how many ids were told. -/
structure St where
  A : List IP
  next : Nat
/-- An act. -/
structure Ac where
  kind : Int
  p : Pt
  a : Int
  b : Int
  c : Int
  d : Int
  id : Int
  k : Int
instance : Inhabited Ac := ⟨⟨0, ⟨0, 0, 0⟩, 0, 0, 0, 0, 0, 0⟩⟩
structure Ac.Ok (x : Ac) : Prop where
  kind : 1 ≤ x.kind ∧ x.kind ≤ 5
  near : x.p.Near
  k : 0 ≤ x.k ∧ x.k ≤ 200
def step (s : St) (x : Ac) : St :=
  if x.kind = 1 then ⟨s.A ++ [((s.next : Int), x.p)], s.next + 1⟩
  else if x.kind = 2 then ⟨s.A.filter (fun a => a.1 != x.id), s.next⟩
  else s
/-- An answer. -/
structure An where
  code : Int
  n : Int
  ids : List Int
instance : Inhabited An := ⟨⟨0, 0, []⟩⟩
def dist2 (x y : Int) (p : Pt) : Int := (p.x - x) * (p.x - x) + (p.y - y) * (p.y - y)
def wtI (p : Pt) : Int := -p.w
/-- What an act is answered. -/
def IsAn (s : St) (x : Ac) (r : An) : Prop :=
  if x.kind = 1 then r = ⟨0, s.next, []⟩
  else if x.kind = 2 then r = ⟨if x.id ∈ s.A.map (·.1) then 0 else 7, 0, []⟩
  else if x.kind = 3 then r = ⟨0, (cntR (s.A.map (·.2)) x.a x.b x.c x.d : Nat), []⟩
  else if x.kind = 4 then r.code = 0 ∧ r.n = 0 ∧ IsBest wtI (s.A.filter (fun a => inR x.a x.b x.c x.d a.2)) x.k.toNat r.ids
  else r.code = 0 ∧ r.n = 0 ∧ IsBest (dist2 x.p.x x.p.y) s.A x.k.toNat r.ids
def stAt (l : List Ac) (i : Nat) : St := (l.take i).foldl step ⟨[], 0⟩
theorem stAt_zero (l : List Ac) : stAt l 0 = ⟨[], 0⟩ := rfl
theorem stAt_succ (l : List Ac) (i : Nat) (h : i < l.length) : stAt l (i + 1) = step (stAt l i) l[i] := by
  unfold stAt
  rw [List.take_succ_eq_append_getElem h, List.foldl_append]; rfl
theorem stAt_append (l m : List Ac) (i : Nat) (h : i ≤ l.length) : stAt (l ++ m) i = stAt l i := by
  unfold stAt
  rw [List.take_append_of_le_length h]
/-- What holds of what is there. -/
structure St.Inv (s : St) : Prop where
  up : s.A.Pairwise (fun a b => a.1 < b.1)
  lt : ∀ a ∈ s.A, 0 ≤ a.1 ∧ a.1 < s.next
  near : ∀ a ∈ s.A, a.2.Near
theorem inv_step {s : St} (h : s.Inv) {x : Ac} (hx : x.Ok) : (step s x).Inv := by
  unfold step
  split
  · refine ⟨?_, ?_, ?_⟩
    · rw [List.pairwise_append]
      refine ⟨h.up, List.pairwise_singleton _ _, fun a ha b hb => ?_⟩
      rw [List.mem_singleton.1 hb]
      exact (h.lt a ha).2
    · intro a ha
      simp only at ha ⊢
      rcases List.mem_append.1 ha with ha | ha
      · have := h.lt a ha; omega
      · rw [List.mem_singleton.1 ha]; simp only; omega
    · intro a ha
      rcases List.mem_append.1 ha with ha | ha
      · exact h.near a ha
      · rw [List.mem_singleton.1 ha]; exact hx.near
  · split
    · exact ⟨h.up.filter _, fun a ha => h.lt a ((List.mem_filter.1 ha).1), fun a ha => h.near a ((List.mem_filter.1 ha).1)⟩
    · exact h
theorem inv_at (l : List Ac) (hl : ∀ x ∈ l, x.Ok) (i : Nat) (h : i ≤ l.length) : (stAt l i).Inv := by
  induction i with
  | zero => exact ⟨List.Pairwise.nil, fun a ha => (by simp [stAt] at ha), fun a ha => (by simp [stAt] at ha)⟩
  | succ i ih =>
    rw [stAt_succ l i (by omega)]
    exact inv_step (ih (by omega)) (hl _ (List.getElem_mem _))
theorem next_at (l : List Ac) (i : Nat) (h : i ≤ l.length) : (stAt l i).next ≤ i ∧ (stAt l i).A.length ≤ (stAt l i).next := by
  induction i with
  | zero => exact ⟨Nat.le_refl _, Nat.le_refl _⟩
  | succ i ih =>
    rw [stAt_succ l i (by omega)]
    have := ih (by omega)
    unfold step
    split
    · simp; omega
    · split
      · have := List.length_filter_le (fun a : IP => a.1 != l[i].id) (stAt l i).A
        simp only; omega
      · omega
/-- What is put and cut again leaves no trace, but that its id is gone. -/
theorem put_cut {s : St} (h : s.Inv) (x y : Ac) (hx : x.kind = 1) (hy : y.kind = 2) (hid : y.id = s.next) : step (step s x) y = ⟨s.A, s.next + 1⟩ := by
  unfold step
  rw [if_pos hx, if_neg (by omega), if_pos hy, hid]
  simp only
  congr 1
  rw [List.filter_append, List.filter_eq_self.2 (fun a ha => by have := h.lt a ha; rw [bne_iff_ne]; omega)]
  simp
/-- Looks change nothing. -/
theorem step_look {s : St} {x : Ac} (h : 3 ≤ x.kind) : step s x = s := by
  unfold step
  rw [if_neg (by omega), if_neg (by omega)]
/-- Looks at the same points are answered the same. -/
theorem look_same {s t : St} {x : Ac} {r q : An} (h : 3 ≤ x.kind) (hA : s.A = t.A) (hr : IsAn s x r) (hq : IsAn t x q) : r = q := by
  obtain ⟨c, n, l⟩ := r
  obtain ⟨c', n', l'⟩ := q
  unfold IsAn at hr hq
  rw [if_neg (by omega), if_neg (by omega)] at hr hq
  rw [hA] at hr
  by_cases h3 : x.kind = 3
  · rw [if_pos h3] at hr hq
    rw [hr, hq]
  · rw [if_neg h3] at hr hq
    by_cases h4 : x.kind = 4
    · rw [if_pos h4] at hr hq
      simp only at hr hq
      obtain ⟨rfl, rfl, h5⟩ := hr
      obtain ⟨rfl, rfl, h6⟩ := hq
      rw [h5.unique (List.Perm.refl _) h6]
    · rw [if_neg h4] at hr hq
      simp only at hr hq
      obtain ⟨rfl, rfl, h5⟩ := hr
      obtain ⟨rfl, rfl, h6⟩ := hq
      rw [h5.unique (List.Perm.refl _) h6]

theorem map_range_getD' {α : Type} (L : List α) (d : α) : (List.range L.length).map (fun i => L.getD i d) = L := by
  apply List.ext_getElem
  · simp
  · intro i h1 h2
    rw [List.getElem_map, List.getElem_range, getD_at _ _ h2]
/-- The heaviest ones of a grid are those that are told first, by their ids. -/
theorem top_best {A : List IP} (hup : A.Pairwise (fun a b => a.1 < b.1)) {X0 Y0 X1 Y1 : Int} {rep out : List Nat} {k : Nat} (hr : IsRep (A.map (·.2)) X0 Y0 X1 Y1 rep) (ht : IsTop (wtL (A.map (·.2))) rep k out) :
    IsBest wtI (A.filter (fun a => inR X0 Y0 X1 Y1 a.2)) k (out.map fun i => (A.getD i (0, pt0)).1) := by
  obtain ⟨X, hx⟩ := ht.inv
  have hlen := ht.len
  let far := wtL (A.map (·.2))
  let g : Nat → Int × Int := fun i => (far i, (A.getD i (0, pt0)).1)
  have hg : ∀ i, i < A.length → g i = (wtI A[i]!.2, A[i]!.1) := by
    intro i hi
    show (wtL _ i, _) = _
    unfold wtL wtI
    rw [getD_at _ _ (by rw [List.length_map]; exact hi), List.getElem_map, getD_at _ _ hi, getElem!_pos A i hi]
  -- the others, sorted too
  obtain ⟨X', hp, hs⟩ : ∃ X' : List Nat, X'.Perm X ∧ X'.Pairwise (fun a b => far a < far b ∨ far a = far b ∧ a ≤ b) := by
    refine ⟨X.mergeSort (fun a b => decide (far a < far b ∨ far a = far b ∧ a ≤ b)), List.mergeSort_perm _ _, ?_⟩
    have := List.pairwise_mergeSort (le := fun a b => decide (far a < far b ∨ far a = far b ∧ a ≤ b)) (fun a b c h1 h2 => by rw [decide_eq_true_eq] at *; omega) (fun a b => by rw [Bool.or_eq_true, decide_eq_true_eq, decide_eq_true_eq]; omega) X
    exact this.imp (fun h => by rw [decide_eq_true_eq] at h; exact h)
  have hmem : ∀ i ∈ out ++ X', i < A.length := by
    intro i hi
    have h1 : i ∈ out ++ X := by
      rcases List.mem_append.1 hi with h | h
      · exact List.mem_append_left _ h
      · exact List.mem_append_right _ (hp.mem_iff.1 h)
    have := (hr.mem i).1 (hx.perm.mem_iff.1 h1)
    rw [List.length_map] at this
    exact this.1
  have hle : ∀ a b, a < A.length → b < A.length → (far a < far b ∨ far a = far b ∧ a ≤ b) → keyLe (g a) (g b) := by
    intro a b ha hb h
    show far a < far b ∨ far a = far b ∧ (A.getD a (0, pt0)).1 ≤ (A.getD b (0, pt0)).1
    rcases h with h | ⟨h1, h2⟩
    · exact .inl h
    · refine .inr ⟨h1, ?_⟩
      rcases Nat.lt_or_eq_of_le h2 with h3 | rfl
      · rw [getD_at _ _ ha, getD_at _ _ hb]
        exact Int.le_of_lt (List.pairwise_iff_getElem.1 hup a b ha hb h3)
      · exact Int.le_refl _
  refine ⟨(out ++ X').map g, ?_, ?_, ?_⟩
  · have h1 : (out ++ X').Perm ((List.range A.length).filter (inL (A.map (·.2)) X0 Y0 X1 Y1)) := by
      have := (hp.append_left out).trans (hx.perm.trans hr.perm)
      rwa [List.length_map] at this
    refine (h1.map g).trans ?_
    have e : ((List.range A.length).filter (inL (A.map (·.2)) X0 Y0 X1 Y1)).map g = (A.filter (fun a => inR X0 Y0 X1 Y1 a.2)).map (fun a => (wtI a.2, a.1)) := by
      conv => rhs; rw [← map_range_getD' A (0, pt0), List.filter_map, List.map_map]
      have e2 : (List.range A.length).filter (inL (A.map (·.2)) X0 Y0 X1 Y1) = (List.range A.length).filter ((fun a : IP => inR X0 Y0 X1 Y1 a.2) ∘ fun i => A.getD i (0, pt0)) := by
        refine List.filter_congr (fun i hi => ?_)
        rw [List.mem_range] at hi
        unfold inL
        simp only [Function.comp]
        rw [getD_at _ _ (by rw [List.length_map]; exact hi), List.getElem_map, getD_at _ _ hi]
      rw [e2]
      refine List.map_congr_left (fun i hi => ?_)
      have hi' := List.mem_range.1 ((List.mem_filter.1 hi).1)
      rw [hg i hi', getElem!_pos A i hi']
      simp only [Function.comp]
      rw [getD_at _ _ hi']
    rw [e]
  · rw [List.pairwise_map, List.pairwise_append]
    refine ⟨?_, ?_, ?_⟩
    · refine (List.pairwise_iff_getElem.2 fun i j hi hj hij => ?_)
      have h1 : far out[i] < far out[j] ∨ (far out[i] = far out[j] ∧ out[i] < out[j]) := (nlt_iff _ _ _).1 (List.pairwise_iff_getElem.1 hx.up i j hi hj hij)
      exact hle _ _ (hmem _ (List.mem_append_left _ (List.getElem_mem hi))) (hmem _ (List.mem_append_left _ (List.getElem_mem hj))) (by omega)
    · refine (List.pairwise_iff_getElem.2 fun i j hi hj hij => ?_)
      exact hle _ _ (hmem _ (List.mem_append_right _ (List.getElem_mem hi))) (hmem _ (List.mem_append_right _ (List.getElem_mem hj))) (List.pairwise_iff_getElem.1 hs i j hi hj hij)
    · intro a ha b hb
      have h1 : far a < far b ∨ (far a = far b ∧ a < b) := (nlt_iff _ _ _).1 (hx.sep a ha b (hp.mem_iff.1 hb))
      exact hle _ _ (hmem _ (List.mem_append_left _ ha)) (hmem _ (List.mem_append_right _ hb)) (by omega)
  · have hk : ((out ++ X').map g).take k = out.map g := by
      rw [List.map_append]
      have hl : (out ++ X').length = rep.length := by
        rw [List.length_append, hp.length_eq, ← List.length_append, hx.perm.length_eq]
      rcases Nat.le_total k rep.length with h | h
      · rw [List.take_append_of_le_length (by rw [List.length_map]; omega), List.take_of_length_le (by rw [List.length_map]; omega)]
      · have : X' = [] := List.length_eq_zero_iff.1 (by rw [List.length_append] at hl; omega)
        rw [this, List.map_nil, List.append_nil, List.take_of_length_le (by rw [List.length_map]; omega)]
    rw [hk, List.map_map]
    rfl

end Go.Proofs.YtladgklnacihkaaGreat.Dy

/- Points that come and go: the memory of a store and of its batches. -/
namespace Go.Proofs.YtladgklnacihkaaGreat.Dy
set_option linter.unusedVariables false
open Go.RowKit

/-- Some blocks may have changed, and new ones may be there: the others are as they were. -/
structure Chg (F : Nat → Prop) (w w' : World) : Prop where
  os : w'.os = w.os
  tape : w'.tape = w.tape
  output : w'.output = w.output
  size : w.heap.size ≤ w'.heap.size
  block : ∀ i, i < w.heap.size → ¬ F i → w'.heap[i]? = w.heap[i]?
theorem Chg.refl (F : Nat → Prop) (w : World) : Chg F w w := ⟨rfl, rfl, rfl, Nat.le_refl _, fun _ _ _ => rfl⟩
theorem Chg.trans {F F' : Nat → Prop} {a b c : World} (h : Chg F a b) (k : Chg F' b c) (hF : ∀ i, F' i → F i ∨ a.heap.size ≤ i) : Chg F a c :=
  ⟨k.os.trans h.os, k.tape.trans h.tape, k.output.trans h.output, Nat.le_trans h.size k.size, fun i hi hn => (k.block i (Nat.lt_of_lt_of_le hi h.size) (fun e => by rcases hF i e with h | h; exact hn h; omega)).trans (h.block i hi hn)⟩
theorem Chg.same {F : Nat → Prop} {a b c : World} (h : Chg F a b) (k : Chg F b c) : Chg F a c := h.trans k (fun _ h => .inl h)
theorem Chg.of_grown {F : Nat → Prop} {w w' : World} {b : Option Nat} (h : w.grownBy w' b) (hF : ∀ k, b = some k → F k) : Chg F w w' :=
  ⟨h.os, h.tape, h.output, h.size, fun i hi hn => h.block i hi (fun e => hn (hF i e.symm))⟩
theorem Chg.of_below {F : Nat → Prop} {w w' : World} (h : Below w.heap.size w w') : Chg F w w' :=
  ⟨h.os, h.tape, h.output, h.size, fun i hi _ => h.block i hi⟩
theorem Chg.below {F : Nat → Prop} {B : Nat} {w w' : World} (h : Chg F w w') (hB : B ≤ w.heap.size) (hF : ∀ k, F k → B ≤ k) : Below B w w' :=
  ⟨h.os, h.tape, h.output, h.size, fun i hi => h.block i (Nat.lt_of_lt_of_le hi hB) (fun e => by have := hF i e; omega)⟩
theorem Chg.weak {F F' : Nat → Prop} {w w' : World} (h : Chg F w w') (hF : ∀ k, F k → F' k) : Chg F' w w' :=
  ⟨h.os, h.tape, h.output, h.size, fun i hi hn => h.block i hi (fun e => hn (hF i e))⟩
theorem Chg.box {F : Nat → Prop} {w w' : World} {b : Nat} {cs : Array Value} {t : TypeId} (hb : Box w b cs t) (h : Chg F w w') (hn : ¬ F b) : Box w' b cs t := (h.block b hb.lt hn).trans hb
theorem Chg.cell {F : Nat → Prop} {w w' : World} {a : Addr} {v : Value} (hc : w.cell? a = some v) (h : Chg F w w') (hn : ¬ F a.block) : w'.cell? a = some v := by
  have hlt := World.block_lt_of_cell? w _ hc
  rw [← hc]
  unfold World.cell?
  rw [h.block _ hlt hn]
theorem Chg.own {F : Nat → Prop} {w w' : World} {B e size n m c : Nat} {a : Option Addr} {xs : List Value} (ho : w.ownsRow B e size (.slice a m c) n xs) (h : Chg F w w') (hn : ∀ k, blk a = some k → ¬ F k) : w'.ownsRow B e size (.slice a m c) n xs := by
  refine ⟨ho.1, ?_⟩
  rcases ho.2 with ho | ⟨g, cap, cur, hv, hB, hg, h1, h2, h3, h4⟩
  · exact .inl ho
  · simp only [Value.slice.injEq] at hv
    refine .inr ⟨g, cap, cur, by simp only [Value.slice.injEq]; exact hv, hB, ?_, h1, h2, h3, h4⟩
    rw [h.block g (Array.getElem?_eq_some_iff.1 hg).1 (hn g (by rw [hv.1]; rfl))]; exact hg
theorem Chg.sl {F : Nat → Prop} {w w' : World} {a : Option Addr} {len cap size : Nat} {cs : List Value} (hs : SlC w a len cap size cs) (h : Chg F w w') (hn : ∀ k, blk a = some k → ¬ F k) : SlC w' a len cap size cs :=
  ⟨hs.hlen, hs.le, hs.capm, hs.nil, fun i hi => by
    obtain ⟨b', off, ha, hc⟩ := hs.cell i hi
    exact ⟨b', off, ha, Chg.cell hc h (hn b' (by simp [ha, blk]))⟩⟩

/-- A block of a type. -/
def TyAt (w : World) (k : Nat) (e : TypeId) : Prop := ∃ cur, w.heap[k]? = some (.cells cur e (0, 0))
theorem TyAt.ne {w : World} {k k' : Nat} {e e' : TypeId} (h : TyAt w k e) (h' : TyAt w k' e') (hne : e ≠ e') : k ≠ k' := by
  rintro rfl
  obtain ⟨c, h⟩ := h
  obtain ⟨c', h'⟩ := h'
  rw [h] at h'
  simp only [Option.some.injEq, Obj.cells.injEq] at h'
  exact hne h'.2.1
theorem TyAt.lt {w : World} {k : Nat} {e : TypeId} (h : TyAt w k e) : k < w.heap.size := by obtain ⟨c, h⟩ := h; exact (Array.getElem?_eq_some_iff.1 h).1
theorem ty_own {w : World} {B e size n m c k : Nat} {a : Option Addr} {xs : List Value} (h : w.ownsRow B e size (.slice a m c) n xs) (hk : blk a = some k) : TyAt w k e ∧ B ≤ k := by
  rcases h.2 with ⟨h, h2⟩ | ⟨g, cap, cur, hv, hB, hg, _⟩
  · simp only [Value.slice.injEq] at h
    rw [h.1] at hk; cases hk
  · simp only [Value.slice.injEq] at hv
    rw [hv.1] at hk
    simp only [blk, Option.map_some, Option.some.injEq] at hk
    subst hk
    exact ⟨⟨cur, hg⟩, hB⟩

/-- A batch, as it lies. -/
structure Bt where
  b : Nat
  pw : Nat
  ia : Option Addr
  ic : Nat
  pa : Option Addr
  pc : Nat
  L : List IP
def idV (L : List IP) : List Value := ints (L.map (·.1))
def ptV (L : List IP) : List Value := flat ptL (L.map (·.2))
structure BtM (w : World) (B : Nat) (t : Bt) : Prop where
  box : Box w t.b #[.int .i64 (t.pw : Int), .slice t.ia t.L.length t.ic, .slice t.pa t.L.length t.pc] 123
  lo : B ≤ t.b
  ids : w.ownsRow B 3 1 (.slice t.ia t.L.length t.ic) t.L.length (idV t.L)
  ps : w.ownsRow B 28 3 (.slice t.pa t.L.length t.pc) t.L.length (ptV t.L)
def Bt.has (t : Bt) (k : Nat) : Prop := k = t.b ∨ blk t.ia = some k ∨ blk t.pa = some k
def Dis (t u : Bt) : Prop := ∀ k, t.has k → ¬ u.has k
theorem Dis.symm {t u : Bt} (h : Dis t u) : Dis u t := fun k h1 h2 => h k h2 h1
theorem BtM.ty {w : World} {B : Nat} {t : Bt} (h : BtM w B t) {k : Nat} (hk : t.has k) : (TyAt w k 123 ∨ TyAt w k 3 ∨ TyAt w k 28) ∧ B ≤ k := by
  rcases hk with rfl | hk | hk
  · exact ⟨.inl ⟨_, h.box⟩, h.lo⟩
  · exact ⟨.inr (.inl (ty_own h.ids hk).1), (ty_own h.ids hk).2⟩
  · exact ⟨.inr (.inr (ty_own h.ps hk).1), (ty_own h.ps hk).2⟩
theorem BtM.lt {w : World} {B : Nat} {t : Bt} (h : BtM w B t) {k : Nat} (hk : t.has k) : k < w.heap.size := by
  rcases (h.ty hk).1 with h | h | h
  · exact h.lt
  · exact h.lt
  · exact h.lt
theorem BtM.not {w : World} {B : Nat} {t : Bt} (h : BtM w B t) {k : Nat} {e : TypeId} (he : TyAt w k e) (h1 : e ≠ 123) (h2 : e ≠ 3) (h3 : e ≠ 28) : ¬ t.has k := by
  intro hk
  rcases (h.ty hk).1 with h | h | h
  · exact he.ne h h1 rfl
  · exact he.ne h h2 rfl
  · exact he.ne h h3 rfl
theorem BtM.chg {w w' : World} {B : Nat} {t : Bt} {F : Nat → Prop} (h : BtM w B t) (hc : Chg F w w') (hn : ∀ k, t.has k → ¬ F k) : BtM w' B t :=
  ⟨Chg.box h.box hc (hn _ (.inl rfl)), h.lo, Chg.own h.ids hc (fun k hk => hn k (.inr (.inl hk))), Chg.own h.ps hc (fun k hk => hn k (.inr (.inr hk)))⟩
theorem BtM.below {w w' : World} {B : Nat} {t : Bt} (h : BtM w B t) (hb : Below w.heap.size w w') : BtM w' B t :=
  h.chg (F := fun _ => False) (Chg.of_below hb) (fun _ _ => id)
def btV (T : List Bt) : List Value := T.map fun t => .pointer (some ⟨t.b, 0, none⟩)
theorem btV_length (T : List Bt) : (btV T).length = T.length := by simp [btV]
theorem btV_one (T : List Bt) : ∀ u ∈ btV T, u.oneCell' = true := by simp [btV, Value.oneCell']
theorem idV_length (L : List IP) : (idV L).length = L.length := by simp [idV, ints]
theorem ptV_length (L : List IP) : (ptV L).length = L.length * 3 := by simp [ptV, flat_length ptL_len]
/-- A store, as it lies. -/
structure StM (w : World) (B s : Nat) (ba : Option Addr) (bc : Nat) (T : List Bt) (nx ct : Nat) : Prop where
  box : Box w s #[.slice ba T.length bc, .int .i64 (nx : Int), .int .i64 (ct : Int)] 71
  row : w.ownsRow B 121 1 (.slice ba T.length bc) T.length (btV T)
  lo : B ≤ s
  each : ∀ t ∈ T, BtM w B t
  dis : T.Pairwise Dis
/-- Where a store lies. -/
def Foot (s : Nat) (ba : Option Addr) (T : List Bt) (k : Nat) : Prop := k = s ∨ blk ba = some k ∨ ∃ t ∈ T, t.has k
theorem StM.lo_foot {w : World} {B s : Nat} {ba : Option Addr} {bc : Nat} {T : List Bt} {nx ct : Nat} (h : StM w B s ba bc T nx ct) {k : Nat} (hk : Foot s ba T k) : B ≤ k ∧ k < w.heap.size := by
  rcases hk with rfl | hk | ⟨t, ht, hk⟩
  · exact ⟨h.lo, h.box.lt⟩
  · have := ty_own h.row hk
    exact ⟨this.2, this.1.lt⟩
  · exact ⟨((h.each t ht).ty hk).2, (h.each t ht).lt hk⟩
theorem StM.chg {w w' : World} {B s : Nat} {ba : Option Addr} {bc : Nat} {T : List Bt} {nx ct : Nat} {F : Nat → Prop} (h : StM w B s ba bc T nx ct) (hc : Chg F w w') (hn : ∀ k, Foot s ba T k → ¬ F k) : StM w' B s ba bc T nx ct :=
  ⟨Chg.box h.box hc (hn _ (.inl rfl)), Chg.own h.row hc (fun k hk => hn k (.inr (.inl hk))), h.lo, fun t ht => (h.each t ht).chg hc (fun k hk => hn k (.inr (.inr ⟨t, ht, hk⟩))), h.dis⟩
theorem StM.below {w w' : World} {B s : Nat} {ba : Option Addr} {bc : Nat} {T : List Bt} {nx ct : Nat} (h : StM w B s ba bc T nx ct) (hb : Below w.heap.size w w') : StM w' B s ba bc T nx ct :=
  h.chg (F := fun _ => False) (Chg.of_below hb) (fun _ _ => id)
theorem cutL_btV (T : List Bt) (i : Nat) (h : i < T.length) : cutL 1 i (btV T) = btV (T.eraseIdx i) := by
  unfold cutL btV
  rw [Nat.mul_one, Nat.mul_one, ← List.map_take, ← List.map_drop, ← List.map_append, List.eraseIdx_eq_take_drop_succ]
theorem cutL_idV (L : List IP) (i : Nat) (h : i < L.length) : cutL 1 i (idV L) = idV (L.eraseIdx i) := by
  unfold cutL idV ints
  rw [Nat.mul_one, Nat.mul_one, ← List.map_take, ← List.map_drop, ← List.map_append, ← List.map_take, ← List.map_drop, ← List.map_append, List.eraseIdx_eq_take_drop_succ]
theorem flat_take (L : List Pt) (i : Nat) : (flat ptL L).take (i * 3) = flat ptL (L.take i) := by
  induction L generalizing i with
  | nil => simp [flat]
  | cons p L ih =>
    have e : ∀ M q, flat ptL (q :: M) = ptL q ++ flat ptL M := fun M q => by simp [flat]
    cases i with
    | zero => simp [flat]
    | succ i =>
      rw [List.take_succ_cons, e, e, List.take_append, ptL_len, show (i + 1) * 3 - 3 = i * 3 by omega, ih, List.take_of_length_le (by rw [ptL_len]; omega)]
theorem flat_drop (L : List Pt) (i : Nat) : (flat ptL L).drop (i * 3) = flat ptL (L.drop i) := by
  induction L generalizing i with
  | nil => simp [flat]
  | cons p L ih =>
    have e : ∀ M q, flat ptL (q :: M) = ptL q ++ flat ptL M := fun M q => by simp [flat]
    cases i with
    | zero => simp [flat]
    | succ i =>
      rw [List.drop_succ_cons, e, List.drop_append, ptL_len, show (i + 1) * 3 - 3 = i * 3 by omega, ih, List.drop_of_length_le (by rw [ptL_len]; omega), List.nil_append]
theorem cutL_ptV (L : List IP) (i : Nat) (h : i < L.length) : cutL 3 i (ptV L) = ptV (L.eraseIdx i) := by
  unfold cutL ptV
  rw [flat_take, flat_drop, ← flat_append, ← List.map_take, ← List.map_drop, ← List.map_append, List.eraseIdx_eq_take_drop_succ]

end Go.Proofs.YtladgklnacihkaaGreat.Dy

/- Points that come and go: a batch of the same power is looked for. -/
namespace Go.Proofs.YtladgklnacihkaaGreat.Dy
set_option linter.unusedVariables false
open Go.RowKit

set_option maxHeartbeats 1000000 in
theorem same_any (b nb m pw q : Nat) (x1 x2 y1 y2 : Value) (w : World) (h1 : Box w b #[.int .i64 (pw : Int), x1, x2] 123) (h2 : Box w nb #[.pointer (some ⟨m, 0, none⟩)] 121) (h3 : Box w m #[.int .i64 (q : Int), y1, y2] 123) :
    Calls Tryz.prog 59 #[.pointer (some ⟨b, 0, none⟩), .pointer (some ⟨nb, 0, none⟩)] w fun e w' => e = .returned (.bool (decide (pw = q))) ∧ Kp (Below w.heap.size w w') := by
  have c1 : w.cell? ⟨b, 0, none⟩ = some (.int .i64 (pw : Int)) := h1.cell 0 rfl
  have c2 : w.cell? ⟨nb, 0, none⟩ = some (.pointer (some ⟨m, 0, none⟩)) := h2.cell 0 rfl
  have c3 : w.cell? ⟨m, 0, none⟩ = some (.int .i64 (q : Int)) := h3.cell 0 rfl
  have e : ((pw : Int) == q) = decide (pw = q) := by
    by_cases h : pw = q
    · subst h; simp
    · rw [beq_eq_false_iff_ne.2 (by omega), decide_eq_false h]
  have d1 := later_cell c1
  have d2 := later_cell c2
  have d3 := later_cell c3
  clear h1 h2 h3
  obtain ⟨u, hu⟩ : ∃ u, u = decide (pw = q) := ⟨_, rfl⟩
  rw [← hu] at e ⊢
  clear hu
  go_enter Tryz.func59, Tryz.ntmps59
  go_wp2
  go_quiet (fail)
  go_wp2
  go_ret
  exact ⟨rfl, ⟨below_drewN (Below.refl _ _) _⟩⟩

set_option maxRecDepth 100000 in
set_option maxHeartbeats 4000000 in
theorem indexBt_any (a : Option Addr) (cap n nb m q B : Nat) (T : List Bt) (y1 y2 : Value) (w : World) (h : SlC w a n cap 1 (btV T)) (hT : T.length = n) (hn : n ≤ 1000000) (hE : ∀ t ∈ T, BtM w B t)
    (h2 : Box w nb #[.pointer (some ⟨m, 0, none⟩)] 121) (h3 : Box w m #[.int .i64 (q : Int), y1, y2] 123) :
    Calls Tryz.prog 60 #[.slice a n cap, .func (.func 59) #[] #[.pointer (some ⟨nb, 0, none⟩)]] w fun e w' => ∃ r : Int, e = .returned (.int .i64 r) ∧ (r = -1 ∨ ∃ j : Nat, r = j ∧ ∃ hj : j < T.length, T[j].pw = q) ∧ Kp (Below w.heap.size w w') := by
  have H := Kp.mk h
  have HTn := Kp.mk hT
  have HE := Kp.mk hE
  have H2 := Kp.mk h2
  have H3 := Kp.mk h3
  have eg : ∀ args w, (callFunc 59 args).run Tryz.prog w = .ok (.enter 59 args) w := enters_of Tryz.func59 (by kernel_rfl) rfl
  clear h hT hE h2 h3
  go_enter Tryz.func60, Tryz.ntmps60
  go_wp2
  go_loopw [8] (fun i wr => ∃ k : Nat, k ≤ n ∧ i = .int .i64 k ∧ Kp (Below w.heap.size w wr)) (fun i _ => n - (intOf i).toNat)
  case atStart => exact ⟨0, Nat.zero_le _, rfl, ⟨Below.refl _ _⟩⟩
  case round =>
    obtain ⟨k, hk, rfl, HB⟩ := hrel
    by_cases hlt : k < n
    · have hkT : k < T.length := by rw [HTn.out]; exact hlt
      obtain ⟨b, off, rfl, c1⟩ := (H.out.below HB.out).cell k (by rw [btV_length]; exact hkT)
      have HM := Kp.mk (HE.out _ (List.getElem_mem hkT))
      rw [show (btV T)[k]'(by rw [btV_length]; exact hkT) = .pointer (some ⟨T[k].b, 0, none⟩) by simp [btV]] at c1
      have C := Kp.mk (same_any _ nb m _ q _ _ y1 y2 wr (HM.out.box.below HB.out) (H2.out.below HB.out) (H3.out.below HB.out))
      obtain ⟨p, hp⟩ : ∃ p, T[k].pw = p := ⟨_, rfl⟩
      have HPW := Kp.mk hp
      rw [hp] at C
      clear hp HM
      generalize T[k].b = tb at *
      by_cases hpq : p = q
      · rw [decide_eq_true hpq] at C
        go_wp2_with (go_at_fn 59; refine C.out.mono ?_; rintro e w' ⟨rfl, hb⟩)
        go_ret
        exact ⟨_, rfl, .inr ⟨k, rfl, hkT, HPW.out.trans hpq⟩, ⟨below_step HB.out hb.out⟩⟩
      · rw [decide_eq_false hpq] at C
        go_wp2_with (go_at_fn 59; refine C.out.mono ?_; rintro e w' ⟨rfl, hb⟩)
        go_roundw
        case rel => exact ⟨k + 1, by omega, by go_num, ⟨below_step HB.out hb.out⟩⟩
        case measure => simp [intOf]; omega
    · go_wp2
      go_ret
      exact ⟨_, rfl, .inl rfl, HB⟩

set_option maxRecDepth 100000 in
set_option maxHeartbeats 4000000 in
/-- Where an id stands. -/
theorem indexId_any (a : Option Addr) (cap n : Nat) (L : List Int) (x : Int) (w : World) (h : SlI w a cap L) (hl : L.length = n) (hn : n ≤ 1000000) :
    Calls Tryz.prog 87 #[.slice a n cap, .int .i64 x] w fun e w' => ∃ r : Int, e = .returned (.int .i64 r) ∧ ((r = -1 ∧ x ∉ L) ∨ ∃ j : Nat, r = j ∧ ∃ hj : j < L.length, L[j] = x) ∧ w' = w := by
  have H := Kp.mk h
  have HL := Kp.mk hl
  clear h hl
  go_enter Tryz.func87, Tryz.ntmps87
  go_wp2
  go_loop [8] (fun i => ∃ k : Nat, k ≤ n ∧ i = .int .i64 k ∧ Kp (∀ j (hj : j < L.length), j < k → L[j] ≠ x)) (fun i => n - (intOf i).toNat)
  case atStart => exact ⟨0, Nat.zero_le _, rfl, ⟨fun j _ h => by omega⟩⟩
  case round =>
    obtain ⟨k, hk, rfl, HN⟩ := hrel
    by_cases hlt : k < n
    · have hkl : k < L.length := by rw [HL.out]; exact hlt
      obtain ⟨b, off, rfl, c1⟩ := H.out.at k hkl
      obtain ⟨y, hy⟩ : ∃ y, L[k] = y := ⟨_, rfl⟩
      have HY := Kp.mk hy
      rw [hy] at c1
      clear hy
      by_cases hxy : x = y
      · have e : (x == y) = true := by simpa using hxy
        have HXY := Kp.mk hxy
        clear hxy
        go_wp2
        go_ret
        exact ⟨_, rfl, .inr ⟨k, rfl, hkl, HY.out.trans HXY.out.symm⟩, rfl⟩
      · have e : (x == y) = false := by simpa using hxy
        have HXY := Kp.mk hxy
        clear hxy
        go_wp2
        go_round
        case rel =>
          refine ⟨k + 1, by omega, by go_num, ⟨fun j hj hjk => ?_⟩⟩
          rcases Nat.lt_or_eq_of_le (Nat.le_of_lt_succ hjk) with h | rfl
          · exact HN.out j hj h
          · rw [HY.out]; exact fun e => HXY.out e.symm
        case measure => simp [intOf]; omega
    · obtain rfl : k = n := by omega
      go_wp2
      go_ret
      refine ⟨_, rfl, .inl ⟨rfl, fun hm => ?_⟩, rfl⟩
      obtain ⟨j, hj, e⟩ := List.getElem_of_mem hm
      exact HN.out j hj (by rw [← HL.out]; exact hj) e

end Go.Proofs.YtladgklnacihkaaGreat.Dy

