/- slices.Values, Collect, Sorted at ints. -/
import Derived.Test.YteeeikninigeoaaDoorRnd
import Derived.Test.YteeeikninigeoaaDoorTwo
import Derived.Test.YteeeikninigeoaaDoorShelf
import Derived.Test.YteeeikninigeoaaDoorNumP
namespace Go.Proofs.YteeeikninigeoaaDoor
set_option linter.unusedVariables false
open Go.RowKit
attribute [local go_sem] Oper.semAt_some

def nth (l : List Int) (k : Nat) : Int := l.getD k 0
theorem nth_eq (l : List Int) (k : Nat) (h : k < l.length) : nth l k = l[k] := getD_at _ _ h
attribute [irreducible] nth
/-- What is below n0 is kept, and one box. -/
structure KpV (n0 bs : Nat) (W W' : World) : Prop where
  bel : Below n0 W W'
  box : ∀ v, W.cell? ⟨bs, 0, none⟩ = some v → W'.cell? ⟨bs, 0, none⟩ = some v
theorem KpV.refl (n0 bs : Nat) (W : World) : KpV n0 bs W W := ⟨Below.refl _ _, fun _ h => h⟩
theorem KpV.trans {n0 bs : Nat} {A B C : World} (h : KpV n0 bs A B) (k : KpV n0 bs B C) : KpV n0 bs A C := ⟨h.bel.trans k.bel, fun v e => k.box v (h.box v e)⟩
theorem KpV.put {n0 bs : Nat} {w : World} (hn : n0 ≤ w.heap.size) (W : World) (l : Nat) (o o' : Obj) (hl : w.heap.size ≤ l) (h : W.heap[l]? = some o) (ho : o.isCells = false) : KpV n0 bs W (W.putObj l o') :=
  ⟨(Below.refl n0 W).grown (grownBy_putObj' W l o') (by have := (Array.getElem?_eq_some_iff.1 h).1; omega) (fun k e => by cases e; omega), fun v e => (grownBy_putObj' W l o').cell e (fun he => by
    simp only [Option.some.injEq] at he
    simp only [World.cell?] at e
    rw [he, h] at e
    cases o <;> first | (cases ho; done) | (simp at e; done))⟩

theorem values_any (a : Option Addr) (n c : Nat) (w : World) :
    Calls Tryd.prog 77 #[.slice a n c] w fun e w' => e = .returned (.func (.func 103) #[] #[.pointer (some ⟨w.heap.size, 0, none⟩)]) ∧ w.alloc (.cells #[.slice a n c] 22) = w' := by
  go_enter Tryd.func77, Tryd.ntmps77
  go_wp2
  go_ret
  exact ⟨rfl, rfl⟩

set_option maxRecDepth 100000 in
set_option maxHeartbeats 1000000 in
theorem values_gives (a : Option Addr) (c n bs : Nat) (l : List Int) (w0 w : World) (hs : SlI w0 a c l) (hl : l.length = n) (hn : n ≤ 1000000) (hb : Below w0.heap.size w0 w) (hc : w.cell? ⟨bs, 0, none⟩ = some (.slice a n c)) :
    Gives Tryd.prog 103 #[.pointer (some ⟨bs, 0, none⟩)] (fun k => #[.int .i64 (nth l k)]) (KpV w0.heap.size bs) n w := by
  intro lp J W hW hJ hY h0
  have hcW : W.cell? ⟨bs, 0, none⟩ = some (.slice a n c) := by
    rw [hW.cell (p := ⟨bs, 0, none⟩) (World.block_lt_of_cell? w _ hc)]; exact hc
  have HS := Kp.mk (fun i (hi : i < l.length) (wr : World) (hk : KpV w0.heap.size bs W wr) => show ∃ b off, a = some ⟨b, off, none⟩ ∧ wr.cell? ⟨b, off + i, none⟩ = some (.int .i64 (nth l i)) from by
    obtain ⟨b, off, ha, hc0⟩ := hs.at i hi
    refine ⟨b, off, ha, ?_⟩
    rw [((hb.trans (hW.mono hb.size)).trans hk.bel).cell (p := ⟨b, off + i, none⟩) (World.block_lt_of_cell? w0 _ hc0), nth_eq _ _ hi]
    exact hc0)
  have HL := Kp.mk hl
  have HY := Kp.mk hY
  clear hs hY hc
  refine callsIn_of_wp Tryd.func103 rfl trivial ?_ rfl
  simp only [Tryd.ntmps103, List.size_toArray, List.length_cons, List.length_nil, Nat.reduceAdd, Nat.reduceSub, Array.replicate_succ, Array.replicate_zero, List.push_toArray, List.append_toArray, List.nil_append, List.cons_append]
  gi_wp2
  gi_loopw [7] (fun i wr => ∃ k : Nat, k ≤ n ∧ i = .int .i64 k ∧ J k wr ∧ Kp (KpV w0.heap.size bs W wr)) (fun i _ => n - (intOf i).toNat)
  case atStart => exact ⟨0, Nat.zero_le _, by simp, h0, ⟨KpV.refl _ _ _⟩⟩
  case round =>
    obtain ⟨k, hk, rfl, hJs, HK⟩ := hrel
    by_cases hlt : k < n
    · obtain ⟨b, off, rfl, ci⟩ := HS.out k (by rw [HL.out]; exact hlt) wr HK.out
      obtain ⟨fn, tmps, assign, body, hy, hR⟩ := HY.out k wr hlt hJs
      generalize nth l k = u at *
      gi_wp2
      refine hR.mono ?_
      rintro e W3 ⟨rfl, hJ3, hk3⟩
      gi_wp2
      go_roundw
      case rel => exact ⟨k + 1, by omega, by go_num, hJ3, ⟨HK.out.trans hk3⟩⟩
      case measure => simp [intOf]; omega
    · obtain rfl : k = n := by omega
      gi_wp2
      go_end0
      exact ⟨⟨_, rfl⟩, hJs⟩

theorem listIn_step {P : Program} {l m : Nat} {Q : Exit → Act → World → Prop} {ops : Array Oper} {o : Oper} {rest : List Oper} {a : Act} {W : World} (hgd : o.guard = none) (hd : ∀ c, o.op ≠ .defer c)
    (h : ∀ K : Act → World → Prop, (∀ a' w', wpListIn (Fence.wide.inRound l) m P ops Q rest a' w' → K a' w') → if Region.wanted o (yielded ops a.tmps) = true then Oper.wp P o a W K (Ahead Q) else True) : wpListIn (Fence.wide.inRound l) m P ops Q (o :: rest) a W := by
  have hw : Region.wanted o (yielded ops a.tmps) = true := by simp [Region.wanted, hgd]
  have h' := h _ (fun _ _ h => h)
  rw [if_pos hw] at h'
  unfold wpListIn
  rw [if_pos hw]
  exact lift_op hd h'
theorem own_rest {W W' : World} {B e size n : Nat} {v : Value} {xs : List Value} {row : Option Nat} (h : W.ownsRow B e size v n xs) (hg : W.grownBy W' row) (hr : ∀ r, row = some r → ∃ o : Obj, W.heap[r]? = some o ∧ o.isCells = false) : W'.ownsRow B e size v n xs := by
  refine ⟨h.1, ?_⟩
  rcases h.2 with h | ⟨g, cap, cur, hv, hB, hgb, h1, h2, h3, h4⟩
  · exact .inl h
  · refine .inr ⟨g, cap, cur, hv, hB, ?_, h1, h2, h3, h4⟩
    rw [hg.block g (Array.getElem?_eq_some_iff.1 hgb).1 (fun e => ?_)]
    · exact hgb
    · obtain ⟨o, ho, hc⟩ := hr g e.symm
      rw [hgb] at ho
      cases ho
      cases hc
theorem keeps_own {W W' : World} {B C e size n c : Nat} {a : Option Addr} {xs : List Value} (h : W.ownsRow B e size (.slice a n c) n xs) (hg : W.grownBy W' (blk a)) : KeepsFrom C W W' :=
  ⟨hg.size, fun j o _ hj ho => by
    refine (hg.block j (Array.getElem?_eq_some_iff.1 hj).1 (fun e => ?_)).trans hj
    rcases h.2 with ⟨hv, _⟩ | ⟨g, cap, cur, hv, _, hgb, _⟩
    · simp only [Value.slice.injEq] at hv
      rw [hv.1] at e
      cases e
    · simp only [Value.slice.injEq] at hv
      rw [hv.1] at e
      simp only [blk, Option.map_some, Option.some.injEq] at e
      rw [e, hgb] at hj
      cases hj
      cases ho⟩
/-- The memory of AppendSeq within its loop. -/
structure SeqMem (n0 bo : Nat) (W0 W : World) (l : List Int) (k : Nat) (oa : Option Addr) (oc : Nat) : Prop where
  low : Below n0 W0 W
  bxo : W.ownsRow n0 22 1 (.slice (some ⟨bo, 0, none⟩) 1 1) 1 [.slice oa k oc]
  row : W.ownsRow n0 3 1 (.slice oa k oc) k (ints (l.take k))

set_option maxRecDepth 100000 in
set_option maxHeartbeats 2000000 in
theorem appendSeq_any (a : Option Addr) (c n bs : Nat) (l : List Int) (w0 w : World) (hs : SlI w0 a c l) (hl : l.length = n) (hn : n ≤ 100000) (hb : Below w0.heap.size w0 w) (hc : w.cell? ⟨bs, 0, none⟩ = some (.slice a n c)) :
    Calls Tryd.prog 113 #[.slice none 0 0, .func (.func 103) #[] #[.pointer (some ⟨bs, 0, none⟩)]] w fun e w' => ∃ ra rc, e = .returned (.slice ra n rc) ∧ Kp (w'.ownsRow w.heap.size 3 1 (.slice ra n rc) n (ints l)) ∧ Kp (Below w.heap.size w w') := by
  refine (callsIn_wide (n := 3)).1 ?_
  refine callsIn_of_wp_marks Tryd.func113 rfl trivial ?_ rfl
  simp only [Tryd.ntmps113, List.size_toArray, List.length_cons, List.length_nil, Nat.reduceAdd, Nat.reduceSub, Array.replicate_succ, Array.replicate_zero, List.push_toArray, List.append_toArray, List.nil_append, List.cons_append]
  refine wpIn_wide.2 ?_
  go_wp2
  have hbsl := World.block_lt_of_cell? w _ hc
  have hlow := below_alloc (Nat.le_refl w.heap.size) (.cells #[.slice none 0 0] 22)
  have hown := World.ownsRow_lit (base := w.heap.size) (size := 1) (e := 22) w #[.slice none 0 0] 1 (Nat.le_refl _) (by decide) rfl
  have hsz : (w.alloc (.cells #[.slice none 0 0] 22)).heap.size = w.heap.size + 1 := alloc_size _ _
  have hcs : (w.alloc (.cells #[.slice none 0 0] 22)).cell? ⟨bs, 0, none⟩ = some (.slice a n c) := (hlow.cell (p := ⟨bs, 0, none⟩) hbsl).trans hc
  have hbl : Below w0.heap.size w0 (w.alloc (.cells #[.slice none 0 0] 22)) := hb.trans (hlow.mono hb.size)
  have hbz := hb.size
  have HL := Kp.mk hl
  obtain ⟨W0, hW0⟩ : ∃ W0, w.alloc (.cells #[.slice none 0 0] 22) = W0 := ⟨_, rfl⟩
  rw [hW0] at hown hsz hlow hcs hbl ⊢
  clear hW0 hc hl
  obtain ⟨bo, hbo⟩ : ∃ bo, bo = w.heap.size := ⟨_, rfl⟩
  rw [← hbo] at hown hlow hsz hbz ⊢
  have HBO := Kp.mk hbo
  have hbsl : bs < bo := by rw [hbo]; exact hbsl
  clear hbo
  refine (wpIn_wide (n := 3)).1 ?_
  refine range_law (gf := 103) (lb := #[.pointer (some ⟨bs, 0, none⟩)]) rfl (enters_of Tryd.func103 (by kernel_rfl) rfl)
    (values_gives a c n bs l w0 W0 hs HL.out (by omega) hbl hcs) (fun h k => h.trans k) (fun W l o o' => KpV.put (by omega) W l o o') (Below.refl _ _) (fun _ => rfl)
    (fun k W => ∃ xa xc, Kp (SeqMem bo bo w W l k xa xc)) ?own ?start
    (fun k a' W => a' = { tmps := #[.slice none 0 0, .func (.func 103) #[] #[.pointer (some ⟨bs, 0, none⟩)], .pointer (some ⟨bo, 0, none⟩), undef, .slice none 0 0, .int .i64 (nth l k), .func (.func 103) #[] #[.pointer (some ⟨bs, 0, none⟩)], .int .i64 (nth l k), undef, undef, undef, undef, undef], defers := [] })
    ?ownA ?assign ?body ?done
  case own =>
    rintro k X Y row ⟨xa, xc, HM⟩ hgr hr
    have hr' : ∀ q, row = some q → ∃ o : Obj, X.heap[q]? = some o ∧ o.isCells = false := fun q e => (hr q e).2
    refine ⟨xa, xc, ⟨HM.out.low.grown hgr (by have := HM.out.low.size; have := HBO.out; omega) (fun q e => by have := (hr q e).1; omega), own_rest HM.out.bxo hgr hr', own_rest HM.out.row hgr hr'⟩⟩
  case start => exact ⟨none, 0, ⟨hlow, hown, World.ownsRow_nil _ _ _ _⟩⟩
  case ownA =>
    rintro k a' _ X Y row h hgr hr
    exact h
  case assign =>
    intro lp k W K hk hle ⟨xa, xc, HM⟩ hK
    gi_wp2
    exact hK _ _ (KeepsFrom.refl _ _) (KpV.refl _ _ _) ⟨xa, xc, HM⟩ rfl
  case body =>
    rintro lp k a' W hk hle ⟨xa, xc, HM⟩ rfl
    have c6 : W.cell? ⟨bo, 0, none⟩ = some (.slice xa k xc) := HM.out.bxo.cellAt 0 (by omega)
    have f6 := HM.out.bxo.frozenAt 0
    have HTK := Kp.mk (show l.take (k + 1) = l.take k ++ [nth l k] from by
      rw [nth_eq _ _ (by rw [HL.out]; exact hk), List.take_succ_eq_append_getElem])
    generalize nth l k = u at *
    have hsW : bo ≤ W.heap.size := by omega
    gi_wp2_with (first
      | (gi_at_builtin; refine listIn_step rfl (fun c h => by cases h) (fun K hK => ?_); refine step_push tInts (by rfl) _ _ (by rfl) bo xa k xc _ (by rfl) (HM.out.row.alloc _) 1 W.heap.size _ (heap_alloc_new W _) (by rfl) (by rfl) (by simp [Value.oneCell']) (by omega) (by omega) (by omega) (by rw [alloc_size]; omega) ?_; intro sa sc w3 ho3 hgr3 hno3; refine hK _ _ ?_; have hbx3 := own_keep (HM.out.bxo.alloc _) hgr3 (fun q hq => row_row HM.out.row HM.out.bxo (by decide) q hq); have c63 : w3.cell? ⟨bo, 0, none⟩ = some (.slice xa k xc) := hbx3.cellAt 0 (by omega); have f63 := hbx3.frozenAt 0)
      | gi_in)
    have hg := grownBy_of_alloc hgr3
    have hb3 : Below bo W (w3.setCell ⟨bo, 0, none⟩ (.slice sa (k + 1) sc)) := (below_of_grown hg hsW (fun q hq => (own_lt HM.out.row q hq).1)).setCell (p := ⟨bo, 0, none⟩) (Nat.le_refl _) _
    refine ⟨(keeps_own HM.out.row hg).trans ((KeepsOthers.setCell _ _ _).from _), ⟨hb3.mono hbz, fun v e => ?_⟩, sa, sc, ⟨HM.out.low.trans hb3, ?_, ?_⟩⟩
    · exact (hb3.cell (p := ⟨bs, 0, none⟩) hbsl).trans e
    · have := (hbx3.stored 0 (.slice sa (k + 1) sc)).1
      simpa using this
    · rw [HTK.out, ints_append]
      exact own_keep ho3 (grown_set w3 bo 0 _) (fun q hq => by simp at hq; subst hq; exact fun e => row_row ho3 hbx3 (by decide) _ e rfl)
  case done =>
    rintro D W hD ⟨xa, xc, HM⟩ hK
    have c6 : W.cell? ⟨bo, 0, none⟩ = some (.slice xa n xc) := HM.out.bxo.cellAt 0 (by omega)
    have hWs := HM.out.low.size
    go_wp2
    have hob := own_rest HM.out.row (grownBy_putObj' W D (.deferred none)) (fun q e => by cases e; exact ⟨_, hK, rfl⟩)
    refine ⟨by simp, .inl ⟨_, _, rfl, run_takeDeferred hK, ?_⟩⟩
    refine ⟨.slice xa n xc, by simp [results, Tryd.results113, go_sem], xa, xc, rfl, ⟨?_⟩, ⟨?_⟩⟩
    · rw [← HBO.out]
      rwa [List.take_of_length_le (by rw [HL.out]; exact Nat.le_refl _)] at hob
    · rw [← HBO.out]
      have := belowK_b (w := W0) (n₀ := bo) (by omega) W D (.deferred (some [])) (.deferred none) hD hK rfl rfl
      exact HM.out.low.trans this

end Go.Proofs.YteeeikninigeoaaDoor
