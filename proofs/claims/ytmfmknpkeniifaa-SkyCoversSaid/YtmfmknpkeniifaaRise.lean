/- Package lis: the walk of Rise. -/
import Derived.Test.YtmfmknpkeniifaaPilW
import Derived.Test.YtmfmknpkeniifaaRisP
import Derived.Test.YtmfmknpkeniifaaRnd
import Derived.Test.YtmfmknpkeniifaaBkw
import Derived.Test.YtmfmknpkeniifaaRev
namespace Go.Proofs.Ytmfmknpkeniifaa
set_option linter.unusedVariables false
open Go.RowKit
attribute [local go_sem] Oper.semAt_some

theorem own_rest {W W' : World} {B e size n : Nat} {v : Value} {xs : List Value} {row : Option Nat} (h : W.ownsRow B e size v n xs) (hg : W.grownBy W' row) (hr : ∀ r, row = some r → ∃ o : Obj, W.heap[r]? = some o ∧ o.isCells = false) : W'.ownsRow B e size v n xs := by
  refine ⟨h.1, ?_⟩
  rcases h.2 with h | ⟨g, cap, cur, hv, hB, hgb, h1, h2, h3, h4⟩
  · exact .inl h
  · refine .inr ⟨g, cap, cur, hv, hB, ?_, h1, h2, h3, h4⟩
    rw [hg.block g (Array.getElem?_eq_some_iff.1 hgb).1 (fun e => ?_)]
    · exact hgb
    · obtain ⟨o, ho, hc⟩ := hr g e.symm
      rw [hgb] at ho
      cases ho
      cases hc

def rowAt (L : List (Option Addr × Nat × List Int)) (i : Nat) : Option Addr × Nat × List Int := L.getD i (none, 0, [])
abbrev rowV (L : List (Option Addr × Nat × List Int)) (i : Nat) : Value := .slice (rowAt L i).1 (rowAt L i).2.2.length (rowAt L i).2.1
attribute [irreducible] rowAt
/-- The memory of Rise within its loop. -/
structure RiseMem (n0 bo bs : Nat) (W0 W : World) (ps : List (List Nat)) (k : Nat) (oa : Option Addr) (oc : Nat) : Prop where
  low : Below n0 W0 W
  bxo : W.ownsRow n0 38 1 (.slice (some ⟨bo, 0, none⟩) 1 1) 1 [.slice oa k oc]
  row : W.ownsRow n0 3 1 (.slice oa k oc) k (ints (nts (outR ps k)))
  d : blk oa ≠ some bo ∧ blk oa ≠ some bs

theorem keeps_own {W W' : World} {B C e size n c : Nat} {a : Option Addr} {xs : List Value} (h : W.ownsRow B e size (.slice a n c) n xs) (hg : W.grownBy W' (blk a)) : KeepsFrom C W W' :=
  ⟨hg.size, fun j o _ hj ho => by
    refine (hg.block j (Array.getElem?_eq_some_iff.1 hj).1 (fun e => ?_)).trans hj
    rcases h.2 with ⟨hv, _⟩ | ⟨g, cap, cur, hv, _, hgb, _⟩
    · simp only [Value.slice.injEq] at hv
      rw [hv.1] at e
      cases e
    · simp only [Value.slice.injEq] at hv
      rw [hv.1] at e
      simp only [blk, Option.map_some, Option.some.injEq] at e
      rw [e, hgb] at hj
      cases hj
      cases ho⟩

/-- One more place is put behind the others. -/
theorem RiseMem.push {n0 bo bs C : Nat} {W0 W w5 : World} {ps : List (List Nat)} {k xc sc : Nat} {xa sa : Option Addr} {y : Int} (h : RiseMem n0 bo bs W0 W ps k xa xc) (hbs : bs < W.heap.size) (hne : bo ≠ bs) (hn : n0 ≤ W.heap.size)
    (hown : w5.ownsRow n0 3 1 (.slice sa (k + 1) sc) (k + 1) (ints (nts (outR ps k)) ++ [.int .i64 y])) (hg : W.grownBy w5 (blk xa)) (hno : NewOr W xa sa) (hy : nts (outR ps (k + 1)) = nts (outR ps k) ++ [y]) :
    KeepsFrom C W (w5.setCell ⟨bo, 0, none⟩ (.slice sa (k + 1) sc)) ∧ KpB n0 bs W (w5.setCell ⟨bo, 0, none⟩ (.slice sa (k + 1) sc)) ∧ RiseMem n0 bo bs W0 (w5.setCell ⟨bo, 0, none⟩ (.slice sa (k + 1) sc)) ps (k + 1) sa sc := by
  have hbo := h.bxo.lt bo rfl
  have d' : blk sa ≠ some bo ∧ blk sa ≠ some bs := by
    rcases hno with e | ⟨g, e, hge⟩
    · rw [e]; exact h.d
    · rw [e]; refine ⟨fun e' => ?_, fun e' => ?_⟩ <;> simp at e' <;> omega
  have hb : Below n0 W (w5.setCell ⟨bo, 0, none⟩ (.slice sa (k + 1) sc)) := (below_of_grown hg hn (fun q hq => (own_lt h.row q hq).1)).setCell (p := ⟨bo, 0, none⟩) hbo.1 _
  refine ⟨(keeps_own h.row hg).trans ((KeepsOthers.setCell _ _ _).from _), ⟨hb, fun v e => ?_⟩, h.low.trans hb, ?_, ?_, d'⟩
  · have h1 := hg.cell e (fun e' => h.d.2 e'.symm)
    exact (World.cell?_setCell_far w5 ⟨bo, 0, none⟩ ⟨bs, 0, none⟩ _ hne).trans h1
  · have hk := own_keep h.bxo hg (fun q hq he => h.d.1 (by rw [hq, ← he]; rfl))
    have := (hk.stored 0 (.slice sa (k + 1) sc)).1
    simpa using this
  · rw [hy, ints_append]
    exact own_other hown d'.1

theorem box_ne {W : World} {B bp e size n c : Nat} {t : TypeId} {a : Option Addr} {cs : Array Value} {xs : List Value} (h : W.ownsRow B e size (.slice a n c) n xs) (hb : Box W bp cs t) (hne : t ≠ e) : blk a ≠ some bp := fun e' => by
  rcases h.2 with ⟨hv, _⟩ | ⟨g, cap, cur, hv, _, hgb, _⟩
  · simp only [Value.slice.injEq] at hv
    rw [hv.1] at e'
    cases e'
  · simp only [Value.slice.injEq] at hv
    rw [hv.1] at e'
    simp only [blk, Option.map_some, Option.some.injEq] at e'
    have h1 : W.heap[bp]? = _ := hb
    rw [← e', hgb] at h1
    simp only [Option.some.injEq, Obj.cells.injEq] at h1
    exact hne h1.2.1.symm
theorem rise_facts {bo bs k xc bp b o : Nat} {w1 X : World} {ps : List (List Nat)} {xa : Option Addr} {v u : Value} (h : RiseMem w1.heap.size bo bs w1 X ps k xa xc) (hbx : Box X bp #[v] 38) (hn : w1.heap.size ≤ X.heap.size) (c : w1.cell? ⟨b, o, none⟩ = some u) (hne : bo ≠ bp) :
    ∀ (ob : Obj) (w5 : World), (X.alloc ob).drew.grownBy w5 (blk xa) → X.grownBy w5 (blk xa) ∧ w5.frozen? ⟨bo, 0, none⟩ = false ∧ w5.cell? ⟨bo, 0, none⟩ = some (.slice xa k xc) ∧ (w5.cell? ⟨bp, 0, none⟩ = some v ∧ w5.cell? ⟨b, o, none⟩ = some u) ∧
      ∀ x, ((w5.setCell ⟨bo, 0, none⟩ x).cell? ⟨bp, 0, none⟩ = some v ∧ (w5.setCell ⟨bo, 0, none⟩ x).cell? ⟨b, o, none⟩ = some u) := by
  intro ob w5 hg
  have hg' : X.grownBy w5 (blk xa) := grown_trans (grown_drew (World.grownBy_alloc X ob (blk xa))) hg
  have hb := World.block_lt_of_cell? w1 _ c
  have hbo := h.bxo.lt bo rfl
  have k1 := own_keep h.bxo hg' (fun q hq he => h.d.1 (by rw [hq, ← he]; rfl))
  have k2 := box_keep hbx hg' (box_ne h.row hbx (by decide))
  have k3 := ((h.low.trans (below_of_grown hg' hn (fun q hq => (own_lt h.row q hq).1))).cell (p := ⟨b, o, none⟩) hb).trans c
  refine ⟨hg', k1.frozenAt 0, k1.cellAt 0 (by omega), ⟨k2.cell 0 rfl, k3⟩, fun x => ⟨(box_other k2 hne).cell 0 rfl, ?_⟩⟩
  exact (World.cell?_setCell_far w5 ⟨bo, 0, none⟩ ⟨b, o, none⟩ _ (by simp only at hb ⊢; omega)).trans k3

theorem newOr_back {X : World} {o : Obj} {a a' : Option Addr} (h : NewOr (X.alloc o).drew a a') : NewOr X a a' := by
  rcases h with h | ⟨g, h1, h2⟩
  · exact .inl h
  · refine .inr ⟨g, h1, ?_⟩
    have : (X.alloc o).drew.heap.size = (X.alloc o).heap.size := rfl
    rw [this, alloc_size] at h2
    omega

theorem newOr_later {W X : World} {a a' : Option Addr} (h : NewOr X a a') (hg : W.grownBy X none) : NewOr W a a' := by
  rcases h with h | ⟨g, h1, h2⟩
  · exact .inl h
  · exact .inr ⟨g, h1, Nat.le_trans hg.size h2⟩
theorem RiseMem.keepN {n0 bo bs k xc : Nat} {W0 W X : World} {ps : List (List Nat)} {xa : Option Addr} (h : RiseMem n0 bo bs W0 W ps k xa xc) (hg : W.grownBy X none) (hn : n0 ≤ W.heap.size) : RiseMem n0 bo bs W0 X ps k xa xc :=
  ⟨h.low.trans (below_of_grown hg hn (fun q hq => by cases hq)), own_keep h.bxo hg (fun q hq => by cases hq), own_keep h.row hg (fun q hq => by cases hq), h.d⟩

theorem rtest_any (p : List Nat) (x : Nat) (a : Option Addr) (c m bp bl : Nat) (w : World) (hp : p.length = m) (hm : m ≤ 300) (h : SlI w a c (nts p)) (h1 : w.cell? ⟨bp, 0, none⟩ = some (.slice a m c)) (h2 : w.cell? ⟨bl, 0, none⟩ = some (.int .i64 x)) :
    Asks 68 #[.pointer (some ⟨bp, 0, none⟩), .pointer (some ⟨bl, 0, none⟩)] (fun i => decide (x < p.getD i 0)) m w := by
  intro W hd k hk
  have c1 : W.cell? ⟨bp, 0, none⟩ = some (.slice a m c) := by rw [hd.cell]; exact h1
  have c2 : W.cell? ⟨bl, 0, none⟩ = some (.int .i64 x) := by rw [hd.cell]; exact h2
  obtain ⟨b, off, rfl, ck⟩ := (h.below (hd.below _)).at k (by rw [nts_length]; omega)
  rw [nts_get, ← getD_at p 0 (by omega)] at ck
  clear h h1 h2 hd
  dsimp only
  generalize p.getD k 0 = y at *
  rw [show decide (x < y) = decide ((x : Int) < y) by simp]
  have hki : (k : Int) < m := by omega
  clear hp
  go_enter Try.func68, Try.ntmps68
  go_wp2
  go_quiet (fail)
  go_wp2
  go_ret
  exact ⟨ret_bool (by simp), _, rfl⟩

set_option maxRecDepth 100000 in
set_option maxHeartbeats 2000000 in
theorem rise_any (a : Option Addr) (cap n : Nat) (l : List Int) (w : World) (h : SlI w a cap l) (hl : l.length = n) (hn : n ≤ 300) (hn0 : 0 < n) :
    Calls Try.prog 36 #[.slice a n cap] w (fun e w' => ∃ ra r rc, e = .returned (.tuple #[.slice ra r rc, .int .i64 0]) ∧ Kp ((riseOf l).length = r) ∧ Kp (SlI w' ra rc (nts (riseOf l))) ∧ Below w.heap.size w w') := by
  have H := Kp.mk h
  have HL := Kp.mk hl
  have hn' : ¬ (300 < (n : Int)) := by omega
  clear h hl
  refine (callsIn_wide (n := 3)).1 ?_
  refine callsIn_of_wp_marks Try.func36 rfl trivial ?_ rfl
  simp only [Try.ntmps36, List.size_toArray, List.length_cons, List.length_nil, Nat.reduceAdd, Nat.reduceSub, Array.replicate_succ, Array.replicate_zero, List.push_toArray, List.append_toArray, List.nil_append, List.cons_append]
  refine wpIn_wide.2 ?_
  go_wp2_with fail
  refine (piles_any a cap n l w H.out HL.out hn hn0).mono ?_
  rintro e w1 ⟨oa, oc, r, la, lc, rfl, HR, HP, _, hb1⟩
  go_wp2_with fail
  refine (bkw_any _ _ _ _).mono ?_
  rintro e w2 ⟨rfl, rfl⟩
  go_wp2
  have hbo := Box.new w1 #[.slice none 0 0] 38
  have hbs := Box.new (w1.alloc (.cells #[.slice none 0 0] 38)) #[.slice oa r oc] 103
  rw [alloc_size] at hbs
  have hsz : ((w1.alloc (.cells #[.slice none 0 0] 38)).alloc (.cells #[.slice oa r oc] 103)).heap.size = w1.heap.size + 2 := by rw [alloc_size, alloc_size]
  have hlow : Below w1.heap.size w1 ((w1.alloc (.cells #[.slice none 0 0] 38)).alloc (.cells #[.slice oa r oc] 103)) := ((Below.refl _ _).alloc (Nat.le_refl _) _).alloc (by rw [alloc_size]; omega) _
  have hown : ((w1.alloc (.cells #[.slice none 0 0] 38)).alloc (.cells #[.slice oa r oc] 103)).ownsRow w1.heap.size 38 1 (.slice (some ⟨w1.heap.size, 0, none⟩) 1 1) 1 [.slice none 0 0] :=
    (World.ownsRow_lit (base := w1.heap.size) (size := 1) (e := 38) w1 #[.slice none 0 0] 1 (Nat.le_refl _) (by decide) rfl).alloc _
  obtain ⟨L, hL, hsc, hF⟩ := HP.out
  have hlw := hb1.size
  obtain ⟨W0, hW0⟩ : ∃ W0, (w1.alloc (.cells #[.slice none 0 0] 38)).alloc (.cells #[.slice oa r oc] 103) = W0 := ⟨_, rfl⟩
  rw [hW0] at hbs hsz hlow hown ⊢
  have hcs := hbs.cell 0 rfl
  have HT := Kp.mk (fun i (hi : i < r) => show ∃ ra rc, rowAt L i = (ra, rc, nts ((pilesK l n).getD i [])) ∧ SlI w1 ra rc (nts ((pilesK l n).getD i [])) from by
    have hLl : L.length = r := by have := hsc.hlen; rw [hdr_length] at this; omega
    have hiL : i < L.length := by omega
    have hip : i < (pilesK l n).length := by rw [HR.out]; exact hi
    have e1 : rowAt L i = L[i] := by unfold rowAt; exact getD_at _ _ hiL
    have e2 : L[i].2.2 = nts ((pilesK l n).getD i []) := by
      rw [getD_at _ _ hip]
      have h1 : (lists L)[i]'(by simpa [lists] using hiL) = L[i].2.2 := by simp [lists]
      rw [← h1]
      simp [hL]
    refine ⟨L[i].1, L[i].2.1, ?_, ?_⟩
    · rw [e1, ← e2]
    · rw [← e2]; exact hF _ (List.getElem_mem hiL))
  clear hW0 hbo hL hF
  refine (wpIn_wide (n := 3)).1 ?_
  refine range_law (gf := 101) (lb := #[.pointer (some ⟨w1.heap.size + 1, 0, none⟩)]) rfl (enters_of Try.func101 (by kernel_rfl) rfl)
    (bkw_gives oa oc r (w1.heap.size + 1) (hdr L) w1 W0 hsc ?n1 hlow hcs (fun k => rowV L (r - 1 - k)) ?us) (fun h k => h.trans k) (fun W l o o' => KpB.put (by omega) W l o o') (Below.refl _ _) (fun _ => rfl)
    (fun k W => ∃ xa xc, Kp (RiseMem w1.heap.size w1.heap.size (w1.heap.size + 1) w1 W (pilesK l n) k xa xc)) ?own ?start
    (fun k a' W => ∃ bp, w1.heap.size + 1 < bp ∧ Box W bp #[rowV L (r - 1 - k)] 38 ∧ a' = { tmps := #[.slice a n cap, undef, .slice none 0 0, .int .i64 0, .slice oa r oc, .slice la n lc, .pointer (some ⟨w1.heap.size, 0, none⟩), undef, .pointer (some ⟨bp, 0, none⟩), undef, undef, .slice a n cap, .int .i64 n, .bool false, .tuple #[.slice oa r oc, .slice la n lc], .slice a n cap, .tuple #[.slice oa r oc, .slice la n lc], .slice oa r oc, .slice la n lc, .slice oa r oc, .func (.func 101) #[] #[.pointer (some ⟨w1.heap.size + 1, 0, none⟩)], .int .i64 ((r : Int) - 1 - k), rowV L (r - 1 - k), undef, undef, undef, undef, undef, undef, undef, undef, undef, undef, undef, undef, undef, undef, undef, undef, undef, undef, undef, undef, undef, undef, undef, undef, undef, undef, undef, undef, undef, undef], defers := [] })
    ?ownA ?assign ?body ?done
  case n1 =>
    have := pilesK_len l n
    have := HR.out
    omega
  case us =>
    intro k hk
    have hLl : L.length = r := by have := hsc.hlen; rw [hdr_length] at this; omega
    have hi : r - 1 - k < L.length := by omega
    rw [getD_at _ _ (by rw [hdr_length]; exact hi)]
    simp only [rowV]
    unfold rowAt
    rw [getD_at _ _ hi]
    simp [hdr]
  case own =>
    rintro k X Y row ⟨xa, xc, HM⟩ hgr hr
    have hr' : ∀ q, row = some q → ∃ o : Obj, X.heap[q]? = some o ∧ o.isCells = false := fun q e => (hr q e).2
    refine ⟨xa, xc, ⟨HM.out.low.grown hgr (by have := HM.out.low.size; omega) (fun q e => by have := (hr q e).1; omega), own_rest HM.out.bxo hgr hr', own_rest HM.out.row hgr hr', HM.out.d⟩⟩
  case start => exact ⟨none, 0, ⟨hlow, hown, World.ownsRow_nil _ _ _ _, by simp [blk], by simp [blk]⟩⟩
  case ownA =>
    rintro k a' _ X Y row ⟨bp, h1, h2, h3⟩ hgr hr
    refine ⟨bp, h1, box_keep h2 hgr (fun e => ?_), h3⟩
    obtain ⟨_, o, ho, hc⟩ := hr bp e
    have h2' : X.heap[bp]? = _ := h2
    rw [h2'] at ho
    cases ho
    cases hc
  case assign =>
    intro lp k W K hk hle ⟨xa, xc, HM⟩ hK
    gi_wp2
    have hbz : w1.heap.size + 1 < W.heap.size := by omega
    refine hK _ _ ((KeepsOthers.alloc _ _).from _) ⟨(Below.refl _ _).alloc (by omega) _, fun v e => ?_⟩ ⟨xa, xc, ⟨HM.out.low.alloc (by omega) _, HM.out.bxo.alloc _, HM.out.row.alloc _, HM.out.d⟩⟩ ⟨W.heap.size, hbz, Box.new _ _ _, rfl⟩
    exact ((below_alloc (Nat.le_refl _) _).cell (p := ⟨w1.heap.size + 1, 0, none⟩) hbz).trans e
  case body =>
    rintro lp k a' W hk hle ⟨xa, xc, HM⟩ ⟨bp, hbp, hbx, rfl⟩
    have c6 : W.cell? ⟨w1.heap.size, 0, none⟩ = some (.slice xa k xc) := HM.out.bxo.cellAt 0 (by omega)
    have f6 := HM.out.bxo.frozenAt 0
    have hbz : w1.heap.size + 1 < W.heap.size := by omega
    have hps : (pilesK l n).length = r := HR.out
    have hik : r - 1 - k < r := by omega
    obtain ⟨ra, rc, er, hrow⟩ := HT.out (r - 1 - k) hik
    have hpm : (pilesK l n).getD (r - 1 - k) [] ∈ pilesK l n := by rw [getD_at _ _ (by omega)]; exact List.getElem_mem _
    have HR1 := Kp.mk hrow
    have hI := piles_inv l n
    have HPI := Kp.mk hI
    have hpl : ((pilesK l n).getD (r - 1 - k) []).length ≤ 300 := by have := mem_len hpm; rw [hI.sum] at this; omega
    have hpne := List.length_pos_iff.2 (hI.ne _ hpm)
    have hon := Kp.mk (OutI.all hI k (by omega))
    have HB := Kp.mk (fun (h0 : k ≠ 0) => show Back l ((pilesK l n).getD (r - 1 - k) []) (tip (outR (pilesK l n) k)) from by
      have hm := hon.out.mem (by omega)
      rw [hps, show r - k = r - 1 - k + 1 by omega, getD_at _ _ (by omega)] at hm
      rw [getD_at _ _ (by omega)]
      exact hI.back (r - 1 - k) (by omega) _ hm)
    have HINC := Kp.mk (hI.inc _ hpm)
    have HS := Kp.mk (show nts (outR (pilesK l n) (k + 1)) = nts (outR (pilesK l n) k) ++ [((if k = 0 then ((pilesK l n).getD (r - 1 - k) []).getD 0 0 else ((pilesK l n).getD (r - 1 - k) []).getD (cutAt ((pilesK l n).getD (r - 1 - k) []) (tip (outR (pilesK l n) k)) - 1) 0 : Nat) : Int)] from by
      rw [outR, nts_append, hps]
      by_cases h0 : k = 0
      · rw [if_pos h0, if_pos h0, h0]; rfl
      · rw [if_neg h0, if_neg h0]; rfl)
    rw [rowV, er] at hbx
    simp only [rowV, er]
    clear hpm hrow hI hps er
    generalize (pilesK l n).getD (r - 1 - k) [] = p at *
    obtain ⟨m, hm⟩ : ∃ m, p.length = m := ⟨_, rfl⟩
    rw [nts_length, hm] at hbx
    simp only [nts_length, hm]
    rw [hm] at hpl hpne
    have HMM := Kp.mk hm
    have c8 := hbx.cell 0 rfl
    clear hm
    by_cases h0 : k = 0
    · subst h0
      gi_wp2
      obtain ⟨b, off, rfl, ci⟩ := HR1.out.at 0 (by rw [nts_length, HMM.out]; omega)
      rw [nts_get, ← getD_at p 0 (by rw [HMM.out]; omega), Nat.add_zero] at ci
      have ciW := (HM.out.low.cell (p := ⟨b, off, none⟩) (World.block_lt_of_cell? w1 _ ci)).trans ci
      have HF5 := Kp.mk (rise_facts HM.out hbx (by omega) ci (by omega))
      refine round_held (S := fun w' => w'.cell? ⟨bp, 0, none⟩ = some (.slice (some ⟨b, off, none⟩) m rc) ∧ w'.cell? ⟨b, off, none⟩ = some (.int .i64 ((p.getD 0 0 : Nat) : Int))) (by kernel_rfl) (by rfl) (by rfl) ⟨c8, ciW⟩ (fun hHeld => ?_)
      have hm0 : (0 : Int) < m := by omega
      have HSY := Kp.mk (show nts (outR (pilesK l n) (0 + 1)) = nts (outR (pilesK l n) 0) ++ [((p.getD 0 0 : Nat) : Int)] from by rw [HS.out]; simp)
      generalize p.getD 0 0 = y at *
      have c6A := ((below_alloc (w := W) (Nat.le_refl _) (.cells #[.int .i64 y] 3)).cell (p := ⟨w1.heap.size, 0, none⟩) (show w1.heap.size < W.heap.size from by omega)).trans c6
      refine wpAnyH_take (i := 1) (v := ?_) rfl (by kernel_rfl) (by kernel_rfl) (by kernel_rfl) (fun _ _ _ h => h) (Or.inl ⟨by rfl, ?_⟩) (by assumption) ?_
      rotate_left
      · (intro w hSw; (try dsimp only at hSw); go_simp; try with_reducible rfl)
      try simp only [Act.put]
      refine wpAnyH_take (i := 2) (v := ?_) rfl (by kernel_rfl) (by kernel_rfl) (by kernel_rfl) (fun _ _ _ h => h) (Or.inl ⟨by rfl, ?_⟩) (by assumption) ?_
      rotate_left
      · (intro w hSw; (try dsimp only at hSw); go_simp; try with_reducible rfl)
      try simp only [Act.put]
      refine wpAnyH_take (i := 3) (v := ?_) rfl (by kernel_rfl) (by kernel_rfl) (by kernel_rfl) (fun _ _ _ h => h) (Or.inl ⟨by rfl, ?_⟩) (by assumption) ?_
      rotate_left
      · (intro w hSw; (try dsimp only at hSw); go_simp; try with_reducible rfl)
      try simp only [Act.put]
      refine wpAnyH_ready (rs := [0, 4]) (by kernel_rfl) (by simp) ?_
      refine AllReadyH.cons rfl (fun K hK => ?_) (AllReadyH.cons rfl (fun K hK => ?_) AllReadyH.nil)
      · go_simp
        refine hK.out _ _ ?_ (fun hHeld => ?_)
        · exact hHeld
        clear hK K
        try simp only [Act.put]
        refine wpAnyH_ready (rs := [4]) (by kernel_rfl) (by simp) ?_
        refine AllReadyH.cons rfl (fun K hK => ?_) AllReadyH.nil
        go_simp
        refine hK.out _ _ ?_ (fun hHeld => ?_)
        · go_keep
        clear hK K
        try simp only [Act.put]
        refine wpAnyH_ready (rs := [5]) (by kernel_rfl) (by simp) ?_
        refine AllReadyH.cons rfl (fun K hK => ?_) AllReadyH.nil
        refine step_push tInts (by rfl) _ _ (by rfl) w1.heap.size xa 0 xc _ (by rfl) ((HM.out.row.alloc _).drew) 1 W.heap.size _ (heap_alloc_new W _) (by rfl) (by rfl) (by simp [Value.oneCell']) (by omega) (by omega) (by omega) (by show _ ≤ (W.alloc _).heap.size; rw [alloc_size]; omega) ?_
        intro sa sc w5 hown hgr hno
        obtain ⟨q1, q2, q3, q4, q5⟩ := HF5.out _ w5 hgr
        refine hK.out _ _ ?_ (fun hHeld => ?_)
        · exact q4
        clear hK K
        try simp only [Act.put]
        refine wpAnyH_ready (rs := [6]) (by kernel_rfl) (by simp) ?_
        refine AllReadyH.cons rfl (fun K hK => ?_) AllReadyH.nil
        go_simp
        refine hK.out _ _ ?_ (fun hHeld => ?_)
        · exact q5 _
        clear hK K
        try simp only [Act.put]
        refine wpAnyH_done (by kernel_rfl) ?_ _
        have hno' := newOr_back hno
        have HPU := Kp.mk (HM.out.push (C := W0.heap.size) hbz (by omega) (by omega) hown q1 hno' HSY.out)
        clear hown hgr hno hno' q1 q2 q3 q4 q5 hHeld
        refine Ahead.intro ?_
        gi_wp2
        obtain ⟨p1, p2, p3⟩ := HPU.out
        exact ⟨p1, p2, sa, sc, ⟨p3⟩⟩
      · go_simp
        refine hK.out _ _ ?_ (fun hHeld => ?_)
        · go_keep
        clear hK K
        try simp only [Act.put]
        refine wpAnyH_ready (rs := [0]) (by kernel_rfl) (by simp) ?_
        refine AllReadyH.cons rfl (fun K hK => ?_) AllReadyH.nil
        go_simp
        refine hK.out _ _ ?_ (fun hHeld => ?_)
        · exact hHeld
        clear hK K
        try simp only [Act.put]
        refine wpAnyH_ready (rs := [5]) (by kernel_rfl) (by simp) ?_
        refine AllReadyH.cons rfl (fun K hK => ?_) AllReadyH.nil
        refine step_push tInts (by rfl) _ _ (by rfl) w1.heap.size xa 0 xc _ (by rfl) ((HM.out.row.alloc _).drew) 1 W.heap.size _ (heap_alloc_new W _) (by rfl) (by rfl) (by simp [Value.oneCell']) (by omega) (by omega) (by omega) (by show _ ≤ (W.alloc _).heap.size; rw [alloc_size]; omega) ?_
        intro sa sc w5 hown hgr hno
        obtain ⟨q1, q2, q3, q4, q5⟩ := HF5.out _ w5 hgr
        refine hK.out _ _ ?_ (fun hHeld => ?_)
        · exact q4
        clear hK K
        try simp only [Act.put]
        refine wpAnyH_ready (rs := [6]) (by kernel_rfl) (by simp) ?_
        refine AllReadyH.cons rfl (fun K hK => ?_) AllReadyH.nil
        go_simp
        refine hK.out _ _ ?_ (fun hHeld => ?_)
        · exact q5 _
        clear hK K
        try simp only [Act.put]
        refine wpAnyH_done (by kernel_rfl) ?_ _
        have hno' := newOr_back hno
        have HPU := Kp.mk (HM.out.push (C := W0.heap.size) hbz (by omega) (by omega) hown q1 hno' HSY.out)
        clear hown hgr hno hno' q1 q2 q3 q4 q5 hHeld
        refine Ahead.intro ?_
        gi_wp2
        obtain ⟨p1, p2, p3⟩ := HPU.out
        exact ⟨p1, p2, sa, sc, ⟨p3⟩⟩
    · have e0 : ((k : Int) == 0) = false := by simpa using h0
      have hb := HB.out h0
      obtain ⟨q, rfl⟩ : ∃ q, k = q + 1 := ⟨k - 1, by omega⟩
      have hol := outR_length (pilesK l n) (q + 1)
      have hone : outR (pilesK l n) (q + 1) ≠ [] := fun e => by rw [e] at hol; simp at hol
      obtain ⟨g, rfl, hg1, hg2⟩ := own_some HM.out.row (by omega)
      have ct : W.cell? ⟨g, q, none⟩ = some (.int .i64 ((tip (outR (pilesK l n) (q + 1)) : Nat) : Int)) := by
        rw [HM.out.row.cellAt q (by omega), List.getElem?_eq_getElem (by rw [ints_length, nts_length]; omega), ints_get, nts_get, ← tip_get hone]
        congr 4
        simp [hol]
      have hql : q ≤ 300 := by have := pilesK_len l n; have := HR.out; omega
      obtain ⟨u1, u2, u3, u4, u5, u6, u7⟩ := back_cut hb HINC.out
      have HSY := Kp.mk (show nts (outR (pilesK l n) (q + 1 + 1)) = nts (outR (pilesK l n) (q + 1)) ++ [((p.getD (cutAt p (tip (outR (pilesK l n) (q + 1))) - 1) 0 : Nat) : Int)] from by rw [HS.out, if_neg (by omega)])
      have hpp := List.pairwise_iff_getElem.1 HINC.out
      have hbx1 := hbx.alloc (.cells #[.int .i64 ((tip (outR (pilesK l n) (q + 1)) : Nat) : Int)] 3)
      have hlow1 := HM.out.low.alloc (by omega) (.cells #[.int .i64 ((tip (outR (pilesK l n) (q + 1)) : Nat) : Int)] 3)
      have C := Kp.mk (search_any 68 _ _ m (enters_of Try.func68 (by kernel_rfl) rfl) (W.alloc (.cells #[.int .i64 ((tip (outR (pilesK l n) (q + 1)) : Nat) : Int)] 3)) (by omega)
        (rtest_any p (tip (outR (pilesK l n) (q + 1))) ra rc m bp W.heap.size _ HMM.out hpl (HR1.out.below hlow1) (hbx1.cell 0 rfl) ((Box.new W _ _).cell 0 rfl))
        (fun x y hxy hy hx => by
          by_cases e : x = y
          · rw [← e]; exact hx
          · have h1 := hpp x y (by rw [HMM.out]; omega) (by rw [HMM.out]; omega) (by omega)
            rw [getD_at _ _ (by rw [HMM.out]; omega), decide_eq_true_eq] at hx
            rw [getD_at _ _ (by rw [HMM.out]; omega), decide_eq_true_eq]
            omega))
      have HCUT := Kp.mk (show ∀ j, j ≤ m → (∀ i, i < j → decide (tip (outR (pilesK l n) (q + 1)) < p.getD i 0) = false) → (j < m → decide (tip (outR (pilesK l n) (q + 1)) < p.getD j 0) = true) → j = cutAt p (tip (outR (pilesK l n) (q + 1))) from fun j hj h1 h2 => by
        unfold cutAt
        refine (findIdx_uniq _ _ j (by rw [HMM.out]; exact hj) (fun i hi hij => ?_) (fun h => ?_)).symm
        · have := h1 i hij
          rwa [getD_at _ _ hi] at this
        · have := h2 (by rw [HMM.out] at h; exact h)
          rwa [getD_at _ _ h] at this)
      rw [HMM.out] at u2
      clear hb hol hone hpp u3 u4 u5 u6 u7
      generalize cutAt p (tip (outR (pilesK l n) (q + 1))) = j at *
      obtain ⟨j, rfl⟩ : ∃ j', j = j' + 1 := ⟨j - 1, by omega⟩
      rw [Nat.add_sub_cancel] at HSY
      obtain ⟨b, off, rfl, ci⟩ := HR1.out.at j (by rw [nts_length, HMM.out]; omega)
      rw [nts_get, ← getD_at p 0 (by rw [HMM.out]; omega)] at ci
      generalize htp : tip (outR (pilesK l n) (q + 1)) = x at *
      generalize p.getD j 0 = y at *
      clear htp
      have c8A : (W.alloc (.cells #[.int .i64 x] 3)).cell? ⟨bp, 0, none⟩ = some (.slice (some ⟨b, off, none⟩) m rc) := hbx1.cell 0 rfl
      gi_wp2_with fail
      refine ⟨trivial, (CallsIn.inRound lp (callsIn_wide.2 C.out)).mono ?_⟩
      rintro e X ⟨j', rfl, hj1, hj2, hj3, hd⟩
      obtain rfl : j' = j + 1 := HCUT.out j' hj1 hj2 hj3
      clear hj2 hj3 C HCUT
      have HGX := Kp.mk (show W.grownBy X none from grownBy_of_alloc (grown_of_below (hd.below _)))
      have HMX := Kp.mk (HM.out.keepN HGX.out (by omega))
      have hbxX : Box X bp #[.slice (some ⟨b, off, none⟩) m rc] 38 := box_keep hbx HGX.out (by simp)
      have hXs := HGX.out.size
      have c6X : X.cell? ⟨w1.heap.size, 0, none⟩ = some (.slice (some ⟨g, 0, none⟩) (q + 1) xc) := HMX.out.bxo.cellAt 0 (by omega)
      have c8X := hbxX.cell 0 rfl
      have ciX := (HMX.out.low.cell (p := ⟨b, off + j, none⟩) (World.block_lt_of_cell? w1 _ ci)).trans ci
      have HF5 := Kp.mk (rise_facts HMX.out hbxX (by omega) ci (by omega))
      have hjm : (j : Int) < m := by omega
      have hjb : j ≤ 300 := by omega
      have c6A := ((below_alloc (w := X) (Nat.le_refl _) (.cells #[.int .i64 y] 3)).cell (p := ⟨w1.heap.size, 0, none⟩) (show w1.heap.size < X.heap.size from by omega)).trans c6X
      clear hd c6 c8 c8A ct ci hbx hbx1 hlow1 f6
      have ej0 : (0 : Int) ≤ j := by omega
      have ejn : ((j : Int)).toNat = j := by omega
      have ew : IntKind.i64.wrap (j : Int) = j := IntWalk.i64_in _ (by omega)
      gi_wp2
      refine round_held (S := fun w' => w'.cell? ⟨bp, 0, none⟩ = some (.slice (some ⟨b, off, none⟩) m rc) ∧ w'.cell? ⟨b, off + j, none⟩ = some (.int .i64 ((y : Nat) : Int))) (by kernel_rfl) (by rfl) (by rfl) ⟨c8X, ciX⟩ (fun hHeld => ?_)
      refine wpAnyH_take (i := 1) (v := ?_) rfl (by kernel_rfl) (by kernel_rfl) (by kernel_rfl) (fun _ _ _ h => h) (Or.inl ⟨by rfl, ?_⟩) (by assumption) ?_
      rotate_left
      · (intro w hSw; (try dsimp only at hSw); go_simp; try with_reducible rfl)
      try simp only [Act.put]
      refine wpAnyH_take (i := 2) (v := ?_) rfl (by kernel_rfl) (by kernel_rfl) (by kernel_rfl) (fun _ _ _ h => h) (Or.inl ⟨by rfl, ?_⟩) (by assumption) ?_
      rotate_left
      · (intro w hSw; (try dsimp only at hSw); go_simp; try with_reducible rfl)
      try simp only [Act.put]
      refine wpAnyH_take (i := 3) (v := ?_) rfl (by kernel_rfl) (by kernel_rfl) (by kernel_rfl) (fun _ _ _ h => h) (Or.inl ⟨by rfl, ?_⟩) (by assumption) ?_
      rotate_left
      · (intro w hSw; (try dsimp only at hSw); go_simp; try with_reducible rfl)
      try simp only [Act.put]
      refine wpAnyH_take (i := 4) (v := ?_) rfl (by kernel_rfl) (by kernel_rfl) (by kernel_rfl) (fun _ _ _ h => h) (Or.inl ⟨by rfl, ?_⟩) (by assumption) ?_
      rotate_left
      · (intro w hSw; (try dsimp only at hSw); go_simp; try with_reducible rfl)
      try simp only [Act.put]
      refine wpAnyH_take (i := 5) (v := ?_) rfl (by kernel_rfl) (by kernel_rfl) (by kernel_rfl) (fun _ _ _ h => h) (Or.inl ⟨by rfl, ?_⟩) (by assumption) ?_
      rotate_left
      · (intro w hSw; (try dsimp only at hSw); go_simp; try with_reducible rfl)
      try simp only [Act.put]
      refine wpAnyH_ready (rs := [0, 6]) (by kernel_rfl) (by simp) ?_
      refine AllReadyH.cons rfl (fun K hK => ?_) (AllReadyH.cons rfl (fun K hK => ?_) AllReadyH.nil)
      · go_simp
        refine hK.out _ _ ?_ (fun hHeld => ?_)
        · exact hHeld
        clear hK K
        try simp only [Act.put]
        refine wpAnyH_ready (rs := [6]) (by kernel_rfl) (by simp) ?_
        refine AllReadyH.cons rfl (fun K hK => ?_) AllReadyH.nil
        go_simp
        refine hK.out _ _ ?_ (fun hHeld => ?_)
        · go_keep
        clear hK K
        try simp only [Act.put]
        refine wpAnyH_ready (rs := [7]) (by kernel_rfl) (by simp) ?_
        refine AllReadyH.cons rfl (fun K hK => ?_) AllReadyH.nil
        refine step_push tInts (by rfl) _ _ (by rfl) w1.heap.size (some ⟨g, 0, none⟩) (q + 1) xc _ (by rfl) ((HMX.out.row.alloc _).drew) 1 X.heap.size _ (heap_alloc_new X _) (by rfl) (by rfl) (by simp [Value.oneCell']) (by omega) (by omega) (by omega) (by show _ ≤ (X.alloc _).heap.size; rw [alloc_size]; omega) ?_
        intro sa sc w5 hown hgr hno
        obtain ⟨q1, q2, q3, q4, q5⟩ := HF5.out _ w5 hgr
        refine hK.out _ _ ?_ (fun hHeld => ?_)
        · exact q4
        clear hK K
        try simp only [Act.put]
        refine wpAnyH_ready (rs := [8]) (by kernel_rfl) (by simp) ?_
        refine AllReadyH.cons rfl (fun K hK => ?_) AllReadyH.nil
        go_simp
        refine hK.out _ _ ?_ (fun hHeld => ?_)
        · exact q5 _
        clear hK K
        try simp only [Act.put]
        refine wpAnyH_done (by kernel_rfl) ?_ _
        have hno' := newOr_later (newOr_back hno) HGX.out
        have HPU := Kp.mk (HM.out.push (C := W0.heap.size) hbz (by omega) (by omega) hown (grown_trans (grown_weak HGX.out) q1) hno' HSY.out)
        clear hown hgr hno hno' q1 q2 q3 q4 q5 hHeld
        refine Ahead.intro ?_
        gi_wp2
        obtain ⟨p1, p2, p3⟩ := HPU.out
        exact ⟨p1, p2, sa, sc, ⟨p3⟩⟩
      · go_simp
        refine hK.out _ _ ?_ (fun hHeld => ?_)
        · go_keep
        clear hK K
        try simp only [Act.put]
        refine wpAnyH_ready (rs := [0]) (by kernel_rfl) (by simp) ?_
        refine AllReadyH.cons rfl (fun K hK => ?_) AllReadyH.nil
        go_simp
        refine hK.out _ _ ?_ (fun hHeld => ?_)
        · exact hHeld
        clear hK K
        try simp only [Act.put]
        refine wpAnyH_ready (rs := [7]) (by kernel_rfl) (by simp) ?_
        refine AllReadyH.cons rfl (fun K hK => ?_) AllReadyH.nil
        refine step_push tInts (by rfl) _ _ (by rfl) w1.heap.size (some ⟨g, 0, none⟩) (q + 1) xc _ (by rfl) ((HMX.out.row.alloc _).drew) 1 X.heap.size _ (heap_alloc_new X _) (by rfl) (by rfl) (by simp [Value.oneCell']) (by omega) (by omega) (by omega) (by show _ ≤ (X.alloc _).heap.size; rw [alloc_size]; omega) ?_
        intro sa sc w5 hown hgr hno
        obtain ⟨q1, q2, q3, q4, q5⟩ := HF5.out _ w5 hgr
        refine hK.out _ _ ?_ (fun hHeld => ?_)
        · exact q4
        clear hK K
        try simp only [Act.put]
        refine wpAnyH_ready (rs := [8]) (by kernel_rfl) (by simp) ?_
        refine AllReadyH.cons rfl (fun K hK => ?_) AllReadyH.nil
        go_simp
        refine hK.out _ _ ?_ (fun hHeld => ?_)
        · exact q5 _
        clear hK K
        try simp only [Act.put]
        refine wpAnyH_done (by kernel_rfl) ?_ _
        have hno' := newOr_later (newOr_back hno) HGX.out
        have HPU := Kp.mk (HM.out.push (C := W0.heap.size) hbz (by omega) (by omega) hown (grown_trans (grown_weak HGX.out) q1) hno' HSY.out)
        clear hown hgr hno hno' q1 q2 q3 q4 q5 hHeld
        refine Ahead.intro ?_
        gi_wp2
        obtain ⟨p1, p2, p3⟩ := HPU.out
        exact ⟨p1, p2, sa, sc, ⟨p3⟩⟩
  case done =>
    rintro D W hD ⟨xa, xc, HM⟩ hK
    have c6 : W.cell? ⟨w1.heap.size, 0, none⟩ = some (.slice xa r xc) := HM.out.bxo.cellAt 0 (by omega)
    have hr3 : r ≤ 300 := by have := pilesK_len l n; have := HR.out; omega
    have hWs := HM.out.low.size
    go_wp2_with fail
    refine (reverse_any w1.heap.size xa r xc (nts (outR (pilesK l n) r)) W HM.out.row (by omega)).mono ?_
    rintro e X ⟨rfl, hrev, hgr⟩
    have c6X : X.cell? ⟨w1.heap.size, 0, none⟩ = some (.slice xa r xc) := (own_keep HM.out.bxo hgr (fun q hq he => HM.out.d.1 (by rw [hq, ← he]; rfl))).cellAt 0 (by omega)
    have hKX : X.heap[D]? = some (.deferred (some [])) := (keeps_own (C := 0) HM.out.row hgr).same D _ (Nat.zero_le _) hK rfl
    have HF := Kp.mk (HM.out.low.trans (below_of_grown hgr hWs (fun q hq => (own_lt HM.out.row q hq).1)))
    have HRV := Kp.mk hrev
    clear hrev hgr c6 hK
    go_wp2
    have hl := HL.out
    have hrn : (riseOf l).length = r := by rw [riseOf_length, hl]; exact HR.out
    have hob := own_rest HRV.out (grownBy_putObj' X D (.deferred none)) (fun q e => by cases e; exact ⟨_, hKX, rfl⟩)
    refine ⟨by simp, .inl ⟨_, _, rfl, run_takeDeferred hKX, ?_⟩⟩
    refine ⟨.tuple #[.slice xa r xc, .int .i64 0], by simp [results, Try.results36, go_sem], xa, r, xc, rfl, ⟨hrn⟩, ⟨?_⟩, (hb1.trans (HF.out.mono hlw)).trans (belowK_b (w := W0) (by omega) X D _ _ hD hKX rfl rfl)⟩
    refine own_sl_len (B := w1.heap.size) (l := nts (riseOf l)) ?_ ((nts_length _).trans hrn)
    have e : nts (riseOf l) = (nts (outR (pilesK l n) r)).reverse := by
      unfold riseOf nts
      rw [hl, HR.out, List.map_reverse]
    rw [e]
    exact hob

end Go.Proofs.Ytmfmknpkeniifaa
