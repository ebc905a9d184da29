import Derived.Test.YtladgklnacihkaaGreatMg1
import Derived.Test.YtladgklnacihkaaGreatMg3
import Derived.Test.YtladgklnacihkaaGreatMg19
import Derived.Test.YtladgklnacihkaaGreatMg0
import Derived.Test.YtladgklnacihkaaGreatMg4
import Derived.Test.YtladgklnacihkaaGreatShelfK
import Derived.Shelf.SlSortCmp.NoneTotal
import Derived.Sort.OwnSortedInts
/- Points that come and go: what is told, by its number and by id, sorted. -/
namespace Go.Proofs.YtladgklnacihkaaGreat.Dy
set_option linter.unusedVariables false
open Go.RowKit Go.Sort Go.Lib

set_option maxRecDepth 100000 in
set_option maxHeartbeats 2000000 in
theorem told_any (f1 p1 f2 p2 : Int) (w : World) : Calls Tryz.prog 91 #[.agg #[.int .i64 f1, .int .i64 p1], .agg #[.int .i64 f2, .int .i64 p2]] w fun e w' => e = .returned (.int .i64 (cmpN f1 p1 f2 p2)) ∧ ∃ q os, w' = grow (w.drewN q) os := by
  have C1 := Kp.mk (fun W => q_eq (compare_any f1 f2 W))
  have C2 := Kp.mk (fun W => q_eq (compare_any p1 p2 W))
  have HP := Kp.mk (show cmpN f1 p1 f2 p2 = or2 (cmpI f1 f2) (cmpI p1 p2) from rfl)
  rw [HP.out]
  clear HP
  generalize cmpI f1 f2 = r1 at *
  generalize cmpI p1 p2 = r2 at *
  go_enter Tryz.func91, Tryz.ntmps91
  go_upto_region 1 with (fail)
  obtain ⟨W1, hW1⟩ : ∃ W, w.alloc (.cells #[.int .i64 f1, .int .i64 p1] 152) = W := ⟨_, rfl⟩
  obtain ⟨W2, hW2⟩ : ∃ W, W1.alloc (.cells #[.int .i64 f2, .int .i64 p2] 152) = W := ⟨_, rfl⟩
  rw [hW1, hW2]
  have s1 : W1.heap.size = w.heap.size + 1 := by rw [← hW1, alloc_size]
  have x2 : Box W2 w.heap.size #[.int .i64 f1, .int .i64 p1] 152 := by rw [← hW2]; refine Box.alloc ?_ _; rw [← hW1]; exact Box.new _ _ _
  have y2 : Box W2 (w.heap.size + 1) #[.int .i64 f2, .int .i64 p2] 152 := by rw [← hW2, ← s1]; exact Box.new _ _ _
  have c0 : W2.cell? ⟨w.heap.size, 0, none⟩ = some (.int .i64 f1) := x2.cell 0 rfl
  have c1 : W2.cell? ⟨w.heap.size, 1, none⟩ = some (.int .i64 p1) := x2.cell 1 rfl
  have d0 : W2.cell? ⟨w.heap.size + 1, 0, none⟩ = some (.int .i64 f2) := y2.cell 0 rfl
  have d1 : W2.cell? ⟨w.heap.size + 1, 1, none⟩ = some (.int .i64 p2) := y2.cell 1 rfl
  have HG := Kp.mk (show W2 = grow w #[.cells #[.int .i64 f1, .int .i64 p1] 152, .cells #[.int .i64 f2, .int .i64 p2] 152] by rw [← hW2, ← hW1, alloc_eq_grow, alloc_eq_grow, grow_grow]; rfl)
  clear hW1 hW2 s1 x2 y2
  go_still_tail 10, (by kernel_rfl)
  still_call (C1.out _)
  repeat still_step
  still_call (C2.out _)
  try refine wpStill_nil ?_
  have bx := Box.new W2.drew #[.int .i64 r1, .int .i64 r2] 3
  have CO := Kp.mk (or2_any W2.heap.size r1 r2 (W2.drew.alloc (.cells #[.int .i64 r1, .int .i64 r2] 3)) (bx.cell 0 rfl) (bx.cell 1 rfl))
  clear bx
  go_wp2_with fail
  refine CO.out.mono ?_
  rintro e w' ⟨rfl, rfl⟩
  go_wp2
  go_ret
  exact ⟨rfl, 1, _, by rw [HG.out, alloc_eq_grow, grow_grow, drew_grow]; rfl⟩

def toldL (d : Int × Int) : List Value := [.int .i64 d.1, .int .i64 d.2]
theorem toldL_len (d : Int × Int) : (toldL d).length = 2 := rfl
theorem toldL_one (d : Int × Int) : ∀ v ∈ toldL d, v.oneCell' = true := by
  intro v hv
  simp only [toldL, List.mem_cons, List.not_mem_nil, or_false] at hv
  rcases hv with rfl | rfl <;> rfl
theorem info_tld : (Tryz.prog.info? 152).map (fun i => (i.zero, i.size, i.bytes)) = some (some (.agg #[.int .i64 0, .int .i64 0]), 2, 16) := by kernel_rfl
theorem tTld : ElemTy Tryz.prog 150 152 2 16 (.agg #[.int .i64 0, .int .i64 0]) :=
  ⟨Tryz.underlying150, by obtain ⟨i0, hi, h0, h1, h2⟩ := info_parts info_tld; exact ⟨i0, hi, h0, h1, h2⟩, rfl, by decide⟩
def cfT (a b : Int × Int) : Int := cmpN a.1 a.2 b.1 b.2
theorem cfT_neg (a b : Int × Int) : cfT a b < 0 ↔ (a.1 < b.1 ∨ (a.1 = b.1 ∧ a.2 < b.2)) := cmpN_neg _ _ _ _
theorem swoT : SWO (ltOf cfT) where
  irrefl x := by unfold ltOf; rw [decide_eq_false_iff_not, cfT_neg]; omega
  trans x y z h1 h2 := by unfold ltOf at *; rw [decide_eq_true_eq, cfT_neg] at *; omega
  ntrans x y z h1 h2 := by unfold ltOf at *; rw [decide_eq_false_iff_not, cfT_neg] at *; omega
theorem toldCmp_any (x y : Int × Int) (w : World) : Calls Tryz.prog 91 #[.agg (toldL x).toArray, .agg (toldL y).toArray] w fun e w' => e = .returned (.int .i64 (cfT x y)) ∧ ∃ q os, w' = grow (w.drewN q) os := told_any x.1 x.2 y.1 y.2 w

set_option maxHeartbeats 1000000 in
theorem sortT_own (L : List (Int × Int)) (n B : Nat) (a : Option Addr) (c : Nat) (w : World) (hl : L.length = n) (hn : n ≤ 1000) (h : w.ownsRow B 152 2 (.slice a n c) n (flat toldL L)) :
    Calls Tryz.prog 90 #[.slice a n c, .func (.func 91) #[] #[]] w fun e w' => e = .returned (.tuple #[]) ∧ ∃ L', Kp (L'.Perm L ∧ L'.Pairwise keyLe) ∧ Kp (w'.ownsRow B 152 2 (.slice a n c) n (flat toldL L')) ∧ Kp (w.grownBy w' (blk a)) := by
  rcases Nat.eq_zero_or_pos n with hz | hn0
  · subst hz
    obtain rfl : L = [] := List.length_eq_zero_iff.1 hl
    refine Calls.mono (show Calls Tryz.prog 90 _ _ _ from AnyF.slices_SortFunc_none Tryz.sortTld a c _ w) ?_
    rintro e w' ⟨rfl, rfl⟩
    exact ⟨rfl, [], ⟨List.Perm.refl _, List.Pairwise.nil⟩, ⟨h⟩, ⟨grown_refl _ _⟩⟩
  obtain ⟨gb, rfl, hg, hg2⟩ := own_some h hn0
  rcases h.2 with ⟨hv, _⟩ | ⟨g', cap', cur, hv, hB', hgb, h1, h2, h3, h4⟩
  · cases hv
  simp only [Value.slice.injEq, Option.some.injEq, Addr.mk.injEq, and_true, true_and] at hv
  obtain ⟨rfl, rfl⟩ := hv
  have hs : L.toArray.size = n := by simp [hl]
  have hH : HoldsK toldL 2 w gb 0 L.toArray := holds_cells hgb (by
    rw [flatK_flat toldL_len (by omega), size_flatK, hs]
    exact h4)
  have hC : CmpLays Tryz.prog 91 #[] toldL 2 cfT gb 0 L.toArray.size w := by
    intro m os dk hk x y
    exact toldCmp_any x y _
  have hS := AnyQ.slices_SortFunc Tryz.sortTld 2 (fun w => by kernel_rfl) (fun w => by kernel_rfl) toldL toldL_len toldL_one cfT swoT 91 #[] gb 0 c L.toArray w (fun _ _ => by kernel_rfl) hC hH hg2 (by rw [hs]; omega)
  rw [hs] at hS
  refine Calls.mono (show Calls Tryz.prog 90 _ _ _ from hS) ?_
  rintro e w' ⟨rfl, d', q, os, hp, hsrt, rfl⟩
  have hsz : d'.size = n := by rw [hp.1, hs]
  refine ⟨rfl, d'.toList, ⟨?_, ?_⟩, ⟨?_⟩, ⟨?_⟩⟩
  · have := hp.2.2
    rw [ext_arr d' _ hsz, ext_arr L.toArray _ hs] at this
    exact this
  · rw [List.pairwise_iff_getElem]
    intro i j hi hj hij
    rw [Array.length_toList] at hi hj
    have h5 := hsrt i j (Nat.zero_le _) hij (by omega)
    unfold ltOf at h5
    rw [decide_eq_false_iff_not, cfT_neg, getElem!_pos d' j hj, getElem!_pos d' i (by omega)] at h5
    rw [Array.getElem_toList, Array.getElem_toList]
    unfold keyLe
    omega
  · have := own_cells (w := w) (base := B) (g := gb) (cap := c) (n := q) (m := n) (size := 2) (e := 152) (os := os) (cur := cur) (flatK toldL 2 d') (by rw [size_flatK, hsz]) hB' hgb h1 h2 h3
    rw [flatK_flat toldL_len (by omega)] at this
    exact this
  · exact grownBy_cells _

end Go.Proofs.YtladgklnacihkaaGreat.Dy

/- Laws of the walk's list as steps of a region that draws. -/
namespace Go.Proofs.YtladgklnacihkaaGreat
set_option linter.unusedVariables false
open Go.RowKit

def OnlyK (K : Act → World → Prop) : Exit → Act → World → Prop
  | .normal, a, w => K a w
  | _, _, _ => False
theorem onlyK_lets (K : Act → World → Prop) : ¬ LetsOut (OnlyK K) := fun ⟨_, _, h⟩ => h
theorem wp_onlyK {P : Program} {o : Oper} {a : Act} {w : World} {K : Act → World → Prop} {Q : Exit → Act → World → Prop} (h : o.wp P a w K (OnlyK K)) : o.wp P a w K Q := by
  unfold Oper.wp at h ⊢
  generalize (execOp a.eval o).run P w = r at h ⊢
  cases r with
  | ok n w' =>
    cases n with
    | value v => exact h
    | skip => exact h
    | defer d => exact h
    | enter f args =>
      refine Calls.mono h fun e w'' he => ?_
      cases e with
      | returned v => exact he
      | panicked c => exact he.elim
      | outgrown => exact (onlyK_lets _ he).elim
    | row row args => exact h
    | _ => exact h.elim
  | halt x w' => cases x <;> exact h.elim
/-- A law of the list, for one operation, as a step. -/
theorem step_of_list {P : Program} {ops : Array Oper} {o : Oper} {a : Act} {K : Act → World → Prop} {Q : Exit → Act → World → Prop} {E : Prop} {W : World} (hgd : o.guard = none) (h : wpList P ops (OnlyK K) [o] a W) :
    if Region.wanted o (yielded ops a.tmps) = true then Oper.wp P o a W K Q else E := by
  have hw : Region.wanted o (yielded ops a.tmps) = true := by simp [Region.wanted, hgd]
  rw [if_pos hw]
  unfold wpList at h
  rw [if_pos hw] at h
  rcases h with h | ⟨_, h⟩
  · exact wp_onlyK h
  · exact absurd h (onlyK_lets K)
theorem step_cat {P : Program} {t e : TypeId} {size bytes : Nat} {z : Value} (T : ElemTy P t e size bytes z)
    {ops : Array Oper} {o : Oper} {a : Act} {K : Act → World → Prop} {Q : Exit → Act → World → Prop} {E : Prop} {w : World} (hgd : o.guard = none) (s x : Operand)
    (ho : o.op = .call { callee := .builtin .append, args := #[s, x], argTypes := #[t, t] })
    (B : Nat) (sa : Option Addr) (n cap : Nat) (xs : List Value) (hs : a.eval s = .slice sa n cap) (hown : w.ownsRow B e size (.slice sa n cap) n xs)
    (xa : Option Addr) (m c : Nat) (cs : List Value) (hx : a.eval x = .slice xa m c) (hsl : SlC w xa m c size cs) (h1 : ∀ u ∈ cs, u.oneCell' = true)
    (hbytes : (n + m) * bytes ≤ 140737488355328) (hbp : 0 < bytes) (hB : B ≤ w.heap.size)
    (h : ∀ sa' cap' w', w'.ownsRow B e size (.slice sa' (n + m) cap') (n + m) (xs ++ cs) → w.grownBy w' (blk sa) → NewOr w sa sa' → K (a.put o.dst (.slice sa' (n + m) cap')) w') :
    if Region.wanted o (yielded ops a.tmps) = true then Oper.wp P o a w K Q else E :=
  step_of_list hgd (wpList_catS T hgd s x ho B sa n cap xs hs hown xa m c cs hx hsl h1 hbytes hbp hB h)

/-- 'append(nil, x...)' as a step. -/
theorem step_cat0 {P : Program} {t e : TypeId} {size bytes : Nat} {z : Value} (T : ElemTy P t e size bytes z)
    {ops : Array Oper} {o : Oper} {a : Act} {K : Act → World → Prop} {Q : Exit → Act → World → Prop} {E : Prop} {w : World} (hgd : o.guard = none) (s x : Operand)
    (ho : o.op = .call { callee := .builtin .append, args := #[s, x], argTypes := #[t, t] })
    (B : Nat) (hs : a.eval s = .slice none 0 0)
    (xa : Option Addr) (m c : Nat) (cs : List Value) (hx : a.eval x = .slice xa m c) (hsl : SlC w xa m c size cs) (h1 : ∀ u ∈ cs, u.oneCell' = true)
    (hbytes : m * bytes ≤ 140737488355328) (hbp : 0 < bytes) (hB : B ≤ w.heap.size)
    (h : ∀ sa' cap' w', w'.ownsRow B e size (.slice sa' m cap') m cs → w.grownBy w' none → K (a.put o.dst (.slice sa' m cap')) w') :
    if Region.wanted o (yielded ops a.tmps) = true then Oper.wp P o a w K Q else E :=
  step_of_list hgd (wpList_catS T hgd s x ho B none 0 0 [] hs (World.ownsRow_nil _ _ _ _) xa m c cs hx hsl h1 (by rw [Nat.zero_add]; exact hbytes) hbp hB (by
    intro sa' cap' w' h1 h2 _
    rw [Nat.zero_add] at h1 ⊢
    exact h sa' cap' w' h1 h2))

end Go.Proofs.YtladgklnacihkaaGreat

/- The cells of points, and of places. -/
namespace Go.Proofs.YtladgklnacihkaaGreat
set_option linter.unusedVariables false
open Go.RowKit

theorem pt_cells {w : World} {a : Option Addr} {n cap : Nat} {L : List Pt} (h : SlF ptL 3 w a n cap L) (i : Nat) (hi : i < n) :
    ∃ b off, a = some ⟨b, off, none⟩ ∧ w.cell? ⟨b, off + i * 3, none⟩ = some (.int .i64 (L.getD i pt0).x) ∧ w.cell? ⟨b, off + i * 3 + 1, none⟩ = some (.int .i64 (L.getD i pt0).y) ∧ w.cell? ⟨b, off + i * 3 + 2, none⟩ = some (.int .i64 (L.getD i pt0).w) := by
  have hl := h.len ptL_len (by omega)
  obtain ⟨b, off, ha, hb, hc⟩ := h.at ptL_len (by omega) i (by omega)
  rw [← getD_at L pt0 (by omega)] at hc
  exact ⟨b, off, ha, hc 0 (by omega), hc 1 (by omega), hc 2 (by omega)⟩
theorem nat_cell {w : World} {a : Option Addr} {n cap : Nat} {R : List Nat} (h : SlI w a cap (R.map Int.ofNat)) (hl : R.length = n) (i : Nat) (hi : i < n) :
    ∃ b off, a = some ⟨b, off, none⟩ ∧ w.cell? ⟨b, off + i, none⟩ = some (.int .i64 ((R.getD i 0 : Nat) : Int)) := by
  obtain ⟨b, off, ha, hc⟩ := h.at i (by rw [List.length_map]; omega)
  refine ⟨b, off, ha, ?_⟩
  rw [hc, getD_at _ _ (by omega), List.getElem_map]; rfl

end Go.Proofs.YtladgklnacihkaaGreat

