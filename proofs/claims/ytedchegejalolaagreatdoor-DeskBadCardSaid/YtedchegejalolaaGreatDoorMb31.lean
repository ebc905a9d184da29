import Derived.Test.YtedchegejalolaaGreatDoorMb16
import Derived.Test.YtedchegejalolaaGreatDoorMb30
import Derived.Test.YtedchegejalolaaGreatDoorMb26
import Derived.Test.YtedchegejalolaaGreatDoorMb28
import Derived.Test.YtedchegejalolaaGreatDoorMb29
/- slices.Backward on a slice of slices of int. -/
namespace Go.Proofs.YtedchegejalolaaGreatDoor
set_option linter.unusedVariables false
open Go.RowKit
attribute [local go_sem] Oper.semAt_some

/-- What is below n0 is kept, and one box. -/
structure KpB (n0 bs : Nat) (W W' : World) : Prop where
  bel : Below n0 W W'
  box : ∀ v, W.cell? ⟨bs, 0, none⟩ = some v → W'.cell? ⟨bs, 0, none⟩ = some v
theorem KpB.refl (n0 bs : Nat) (W : World) : KpB n0 bs W W := ⟨Below.refl _ _, fun _ h => h⟩
theorem KpB.trans {n0 bs : Nat} {A B C : World} (h : KpB n0 bs A B) (k : KpB n0 bs B C) : KpB n0 bs A C := ⟨h.bel.trans k.bel, fun v e => k.box v (h.box v e)⟩
theorem KpB.put {n0 bs : Nat} {w : World} (hn : n0 ≤ w.heap.size) (W : World) (l : Nat) (o o' : Obj) (hl : w.heap.size ≤ l) (h : W.heap[l]? = some o) (ho : o.isCells = false) : KpB n0 bs W (W.putObj l o') :=
  ⟨(Below.refl n0 W).grown (grownBy_putObj' W l o') (by have := (Array.getElem?_eq_some_iff.1 h).1; omega) (fun k e => by cases e; omega), fun v e => (grownBy_putObj' W l o').cell e (fun he => by
    simp only [Option.some.injEq] at he
    simp only [World.cell?] at e
    rw [he, h] at e
    cases o <;> first | (cases ho; done) | (simp at e; done))⟩

end Go.Proofs.YtedchegejalolaaGreatDoor

/- Package lis: the walk of Rise. -/
namespace Go.Proofs.YtedchegejalolaaGreatDoor
set_option linter.unusedVariables false
open Go.RowKit
attribute [local go_sem] Oper.semAt_some

theorem rown_rest {W W' : World} {B e size n : Nat} {v : Value} {xs : List Value} {row : Option Nat} (h : W.ownsRow B e size v n xs) (hg : W.grownBy W' row) (hr : ∀ r, row = some r → ∃ o : Obj, W.heap[r]? = some o ∧ o.isCells = false) : W'.ownsRow B e size v n xs := by
  refine ⟨h.1, ?_⟩
  rcases h.2 with h | ⟨g, cap, cur, hv, hB, hgb, h1, h2, h3, h4⟩
  · exact .inl h
  · refine .inr ⟨g, cap, cur, hv, hB, ?_, h1, h2, h3, h4⟩
    rw [hg.block g (Array.getElem?_eq_some_iff.1 hgb).1 (fun e => ?_)]
    · exact hgb
    · obtain ⟨o, ho, hc⟩ := hr g e.symm
      rw [hgb] at ho
      cases ho
      cases hc

/-- The memory of Rise within its loop. -/
structure RiseMem (n0 bo bs : Nat) (W0 W : World) (ps : List (List Nat)) (k : Nat) (oa : Option Addr) (oc : Nat) : Prop where
  low : Below n0 W0 W
  bxo : W.ownsRow n0 33 1 (.slice (some ⟨bo, 0, none⟩) 1 1) 1 [.slice oa k oc]
  row : W.ownsRow n0 3 1 (.slice oa k oc) k (ints (pnts (outR ps k)))
  d : blk oa ≠ some bo ∧ blk oa ≠ some bs

theorem rkeeps_own {W W' : World} {B C e size n c : Nat} {a : Option Addr} {xs : List Value} (h : W.ownsRow B e size (.slice a n c) n xs) (hg : W.grownBy W' (blk a)) : KeepsFrom C W W' :=
  ⟨hg.size, fun j o _ hj ho => by
    refine (hg.block j (Array.getElem?_eq_some_iff.1 hj).1 (fun e => ?_)).trans hj
    rcases h.2 with ⟨hv, _⟩ | ⟨g, cap, cur, hv, _, hgb, _⟩
    · simp only [Value.slice.injEq] at hv
      rw [hv.1] at e
      cases e
    · simp only [Value.slice.injEq] at hv
      rw [hv.1] at e
      simp only [blk, Option.map_some, Option.some.injEq] at e
      rw [e, hgb] at hj
      cases hj
      cases ho⟩

/-- One more place is put behind the others. -/
theorem RiseMem.push {n0 bo bs C : Nat} {W0 W w5 : World} {ps : List (List Nat)} {k xc sc : Nat} {xa sa : Option Addr} {y : Int} (h : RiseMem n0 bo bs W0 W ps k xa xc) (hbs : bs < W.heap.size) (hne : bo ≠ bs) (hn : n0 ≤ W.heap.size)
    (hown : w5.ownsRow n0 3 1 (.slice sa (k + 1) sc) (k + 1) (ints (pnts (outR ps k)) ++ [.int .i64 y])) (hg : W.grownBy w5 (blk xa)) (hno : NewOr W xa sa) (hy : pnts (outR ps (k + 1)) = pnts (outR ps k) ++ [y]) :
    KeepsFrom C W (w5.setCell ⟨bo, 0, none⟩ (.slice sa (k + 1) sc)) ∧ KpB n0 bs W (w5.setCell ⟨bo, 0, none⟩ (.slice sa (k + 1) sc)) ∧ RiseMem n0 bo bs W0 (w5.setCell ⟨bo, 0, none⟩ (.slice sa (k + 1) sc)) ps (k + 1) sa sc := by
  have hbo := h.bxo.lt bo rfl
  have d' : blk sa ≠ some bo ∧ blk sa ≠ some bs := by
    rcases hno with e | ⟨g, e, hge⟩
    · rw [e]; exact h.d
    · rw [e]; refine ⟨fun e' => ?_, fun e' => ?_⟩ <;> simp at e' <;> omega
  have hb : Below n0 W (w5.setCell ⟨bo, 0, none⟩ (.slice sa (k + 1) sc)) := (below_of_grown hg hn (fun q hq => (own_lt h.row q hq).1)).setCell (p := ⟨bo, 0, none⟩) hbo.1 _
  refine ⟨(rkeeps_own h.row hg).trans ((KeepsOthers.setCell _ _ _).from _), ⟨hb, fun v e => ?_⟩, h.low.trans hb, ?_, ?_, d'⟩
  · have h1 := hg.cell e (fun e' => h.d.2 e'.symm)
    exact (World.cell?_setCell_far w5 ⟨bo, 0, none⟩ ⟨bs, 0, none⟩ _ hne).trans h1
  · have hk := own_keep h.bxo hg (fun q hq he => h.d.1 (by rw [hq, ← he]; rfl))
    have := (hk.stored 0 (.slice sa (k + 1) sc)).1
    simpa using this
  · rw [hy, ints_append]
    exact own_other hown d'.1

end Go.Proofs.YtedchegejalolaaGreatDoor

/- slices.Backward on a slice of int. -/
namespace Go.Proofs.YtedchegejalolaaGreatDoor
set_option linter.unusedVariables false
open Go.RowKit
attribute [local go_sem] Oper.semAt_some

theorem bki_any (a : Option Addr) (n c : Nat) (w : World) :
    Calls Tryz.prog 52 #[.slice a n c] w fun e w' => e = .returned (.func (.func 79) #[] #[.pointer (some ⟨w.heap.size, 0, none⟩)]) ∧ w.alloc (.cells #[.slice a n c] 33) = w' := by
  go_enter Tryz.func52, Tryz.ntmps52
  go_wp2
  go_ret
  exact ⟨rfl, rfl⟩

/-- What is kept while the call's own boxes (bo, bo + 1) change: what is older, what lies between them and n0, and one box. -/
structure KpS (bo n0 bs : Nat) (W W' : World) : Prop where
  bel : Below bo W W'
  mid : ∀ j, bo + 2 ≤ j → j < n0 → W'.heap[j]? = W.heap[j]?
  box : ∀ v, W.cell? ⟨bs, 0, none⟩ = some v → W'.cell? ⟨bs, 0, none⟩ = some v
theorem KpS.refl (bo n0 bs : Nat) (W : World) : KpS bo n0 bs W W := ⟨Below.refl _ _, fun _ _ _ => rfl, fun _ h => h⟩
theorem KpS.trans {bo n0 bs : Nat} {A B C : World} (h : KpS bo n0 bs A B) (k : KpS bo n0 bs B C) : KpS bo n0 bs A C := ⟨h.bel.trans k.bel, fun j h1 h2 => (k.mid j h1 h2).trans (h.mid j h1 h2), fun v e => k.box v (h.box v e)⟩
theorem KpS.put {bo n0 bs : Nat} {w : World} (hb : bo ≤ n0) (hn : n0 ≤ w.heap.size) (W : World) (l : Nat) (o o' : Obj) (hl : w.heap.size ≤ l) (h : W.heap[l]? = some o) (ho : o.isCells = false) : KpS bo n0 bs W (W.putObj l o') :=
  ⟨(Below.refl bo W).grown (grownBy_putObj' W l o') (by have := (Array.getElem?_eq_some_iff.1 h).1; omega) (fun k e => by cases e; omega), fun j h1 h2 => World.putObj_heap_other (by omega), fun v e => (grownBy_putObj' W l o').cell e (fun he => by
    simp only [Option.some.injEq] at he
    simp only [World.cell?] at e
    rw [he, h] at e
    cases o <;> first | (cases ho; done) | (simp at e; done))⟩

set_option maxRecDepth 100000 in
set_option maxHeartbeats 1000000 in
theorem bks_gives (a : Option Addr) (c n bs bo n0 : Nat) (cs : List Value) (w : World) (hs : SlC w a n c 1 cs) (hn : n ≤ 1000000) (hblk : ∀ k, blk a = some k → bo + 2 ≤ k ∧ k < n0) (hc : w.cell? ⟨bs, 0, none⟩ = some (.slice a n c)) (us : Nat → Value) (hu : ∀ k, k < n → us k = cs.getD (n - 1 - k) undef) :
    Gives Tryz.prog 79 #[.pointer (some ⟨bs, 0, none⟩)] (fun k => #[.int .i64 ((n : Int) - 1 - k), us k]) (KpS bo n0 bs) n w := by
  intro l J W hW hJ hY h0
  have hcW : W.cell? ⟨bs, 0, none⟩ = some (.slice a n c) := by
    rw [hW.cell (p := ⟨bs, 0, none⟩) (World.block_lt_of_cell? w _ hc)]; exact hc
  have HS := Kp.mk (fun i (hi : i < cs.length) (wr : World) (hk : KpS bo n0 bs W wr) => show ∃ b off, a = some ⟨b, off, none⟩ ∧ wr.cell? ⟨b, off + i, none⟩ = some cs[i] from by
    obtain ⟨b, off, ha, hc0⟩ := hs.cell i hi
    refine ⟨b, off, ha, ?_⟩
    obtain ⟨h1, h2⟩ := hblk b (by rw [ha]; rfl)
    have h3 := (hW.cell (p := ⟨b, off + i, none⟩) (World.block_lt_of_cell? w _ hc0)).trans hc0
    have h4 := hk.mid b h1 h2
    simp only [World.cell?] at h3 ⊢
    rw [h4]
    exact h3)
  have HL := Kp.mk hs.hlen
  have HY := Kp.mk hY
  have HU := Kp.mk hu
  clear hs hY hc hu
  refine callsIn_of_wp Tryz.func79 rfl trivial ?_ rfl
  simp only [Tryz.ntmps79, List.size_toArray, List.length_cons, List.length_nil, Nat.reduceAdd, Nat.reduceSub, Array.replicate_succ, Array.replicate_zero, List.push_toArray, List.append_toArray, List.nil_append, List.cons_append]
  gi_wp2
  gi_loopw [3] (fun i wr => ∃ k : Nat, k ≤ n ∧ i = .int .i64 ((n : Int) - 1 - k) ∧ J k wr ∧ Kp (KpS bo n0 bs W wr)) (fun i _ => (intOf i + 1).toNat)
  case atStart => exact ⟨0, Nat.zero_le _, by simp, h0, ⟨KpS.refl _ _ _ _⟩⟩
  case round =>
    obtain ⟨k, hk, rfl, hJs, HK⟩ := hrel
    have hcr := HK.out.box _ hcW
    by_cases hlt : k < n
    · have hge : 0 ≤ (n : Int) - 1 - k := by omega
      obtain ⟨b, off, rfl, ci⟩ := HS.out (n - 1 - k) (by rw [HL.out]; omega) wr HK.out
      rw [← getD_at cs undef (by rw [HL.out]; omega)] at ci
      obtain ⟨fn, tmps, assign, body, hy, hR⟩ := HY.out k wr hlt hJs
      have hu := HU.out k hlt
      rw [← hu] at ci
      clear hu
      generalize us k = u at *
      obtain ⟨q, hq⟩ : ∃ q : Nat, n - 1 - k = q := ⟨_, rfl⟩
      have hqz : (n : Int) - 1 - k = q := by omega
      rw [hq] at ci
      rw [hqz] at hy hge
      rw [hqz]
      have HQ := Kp.mk hqz
      have hqn : q < n := by omega
      clear hq hqz
      gi_wp2
      refine hR.mono ?_
      rintro e W3 ⟨rfl, hJ3, hk3⟩
      gi_wp2
      go_roundw
      case rel => exact ⟨k + 1, by omega, by rw [show ((n : Int) - 1 - ((k + 1 : Nat) : Int)) = q - 1 by have := HQ.out; omega], hJ3, ⟨HK.out.trans hk3⟩⟩
      case measure => simp [intOf]
    · obtain rfl : k = n := by omega
      gi_wp2
      go_end0
      exact ⟨⟨_, rfl⟩, hJs⟩

end Go.Proofs.YtedchegejalolaaGreatDoor

/- Package sky: the walk of Sky. -/
namespace Go.Proofs.YtedchegejalolaaGreatDoor
set_option linter.unusedVariables false
open Go.RowKit
attribute [local go_sem] Oper.semAt_some

/-- The memory of Sky within its loop: the box of what is out (bo), the box of the top (bt). -/
structure SkyMem (n0 B bo bt : Nat) (W0 W : World) (out : List Nat) (top : Pt) (xa : Option Addr) (o xc : Nat) : Prop where
  low : Below n0 W0 W
  bxo : Box W bo #[.slice xa o xc] 33
  bxt : Box W bt #[.int .i64 top.x, .int .i64 top.y, .int .i64 top.w] 78
  row : W.ownsRow B 3 1 (.slice xa o xc) o (ints (out.map Int.ofNat))
  len : out.length = o

section
variable {bo n0 bs : Nat} {W W' : World}
theorem kps_below (h : Below W.heap.size W W') (hn : n0 ≤ W.heap.size) (hb : bo ≤ W.heap.size) (hs : bs < W.heap.size) : KpS bo n0 bs W W' :=
  ⟨h.mono hb, fun j _ h2 => h.block j (by omega), fun v e => (h.cell (p := ⟨bs, 0, none⟩) hs).trans e⟩
theorem kps_grown {r : Option Nat} (h : W.grownBy W' r) (hn : n0 ≤ W.heap.size) (hb : bo ≤ W.heap.size) (hr : ∀ k, r = some k → n0 ≤ k ∧ bo ≤ k ∧ bs ≠ k) : KpS bo n0 bs W W' :=
  ⟨below_of_grown h hb (fun k hk => (hr k hk).2.1), fun j _ h2 => h.block j (by omega) (fun e => by have := (hr j e.symm).1; omega), fun v e => h.cell e (fun e' => (hr bs e'.symm).2.2 rfl)⟩
theorem kps_set {c o : Nat} {u : Value} (hc : c = bo ∨ c = bo + 1) (hs : bo + 2 ≤ bs) (hb : bo ≤ W.heap.size) : KpS bo n0 bs W (W.setCell ⟨c, o, none⟩ u) :=
  ⟨below_of_grown (grown_set W c o u) hb (fun k hk => by cases hk; omega), fun j h1 _ => heap_setCell_other W ⟨c, o, none⟩ j u (fun e => by dsimp only at e; omega), fun v e => by rw [World.cell?_setCell_other _ _ _ _ (fun e' => by simp only [Addr.mk.injEq] at e'; omega)]; exact e⟩
end
/-- A place of an order. -/
def ordAt (O : List Nat) (j : Nat) : Nat := O.getD j 0
theorem ordAt_eq (O : List Nat) (j : Nat) : ordAt O j = O.getD j 0 := rfl
attribute [irreducible] ordAt
theorem inList_step {P : Program} {l m : Nat} {Q : Exit → Act → World → Prop} {ops : Array Oper} {o : Oper} {rest : List Oper} {a : Act} {W : World} (hgd : o.guard = none) (hd : ∀ c, o.op ≠ .defer c)
    (h : ∀ K : Act → World → Prop, (∀ a' w', wpListIn (Fence.wide.inRound l) m P ops Q rest a' w' → K a' w') → if Region.wanted o (yielded ops a.tmps) = true then Oper.wp P o a W K (Ahead Q) else True) : wpListIn (Fence.wide.inRound l) m P ops Q (o :: rest) a W := by
  have hw : Region.wanted o (yielded ops a.tmps) = true := by simp [Region.wanted, hgd]
  have h' := h _ (fun _ _ h => h)
  rw [if_pos hw] at h'
  unfold wpListIn
  rw [if_pos hw]
  exact lift_op hd h'
theorem sl_own {w : World} {a : Option Addr} {c n : Nat} {l : List Int} (h : SlI w a c l) (hn : l.length = n) : SlC w a n c 1 (ints l) := by subst hn; exact h
end Go.Proofs.YtedchegejalolaaGreatDoor

