import Derived.Test.YteeeikninigeoaaGreatDoorMg26
import Derived.Test.YteeeikninigeoaaGreatDoorMg27
import Derived.Test.YteeeikninigeoaaGreatDoorMg9
import Derived.Test.YteeeikninigeoaaGreatDoorMg24
import Derived.Test.YteeeikninigeoaaGreatDoorMg25
/- Package lis: the walk of Rise. -/
namespace Go.Proofs.YteeeikninigeoaaGreatDoor
set_option linter.unusedVariables false
open Go.RowKit
attribute [local go_sem] Oper.semAt_some

theorem rown_rest {W W' : World} {B e size n : Nat} {v : Value} {xs : List Value} {row : Option Nat} (h : W.ownsRow B e size v n xs) (hg : W.grownBy W' row) (hr : ∀ r, row = some r → ∃ o : Obj, W.heap[r]? = some o ∧ o.isCells = false) : W'.ownsRow B e size v n xs := by
  refine ⟨h.1, ?_⟩
  rcases h.2 with h | ⟨g, cap, cur, hv, hB, hgb, h1, h2, h3, h4⟩
  · exact .inl h
  · refine .inr ⟨g, cap, cur, hv, hB, ?_, h1, h2, h3, h4⟩
    rw [hg.block g (Array.getElem?_eq_some_iff.1 hgb).1 (fun e => ?_)]
    · exact hgb
    · obtain ⟨o, ho, hc⟩ := hr g e.symm
      rw [hgb] at ho
      cases ho
      cases hc

def rrowAt (L : List (Option Addr × Nat × List Int)) (i : Nat) : Option Addr × Nat × List Int := L.getD i (none, 0, [])
abbrev rowV (L : List (Option Addr × Nat × List Int)) (i : Nat) : Value := .slice (rrowAt L i).1 (rrowAt L i).2.2.length (rrowAt L i).2.1
attribute [irreducible] rrowAt
/-- The memory of Rise within its loop. -/
structure RiseMem (n0 bo bs : Nat) (W0 W : World) (ps : List (List Nat)) (k : Nat) (oa : Option Addr) (oc : Nat) : Prop where
  low : Below n0 W0 W
  bxo : W.ownsRow n0 22 1 (.slice (some ⟨bo, 0, none⟩) 1 1) 1 [.slice oa k oc]
  row : W.ownsRow n0 3 1 (.slice oa k oc) k (ints (pnts (outR ps k)))
  d : blk oa ≠ some bo ∧ blk oa ≠ some bs

theorem rkeeps_own {W W' : World} {B C e size n c : Nat} {a : Option Addr} {xs : List Value} (h : W.ownsRow B e size (.slice a n c) n xs) (hg : W.grownBy W' (blk a)) : KeepsFrom C W W' :=
  ⟨hg.size, fun j o _ hj ho => by
    refine (hg.block j (Array.getElem?_eq_some_iff.1 hj).1 (fun e => ?_)).trans hj
    rcases h.2 with ⟨hv, _⟩ | ⟨g, cap, cur, hv, _, hgb, _⟩
    · simp only [Value.slice.injEq] at hv
      rw [hv.1] at e
      cases e
    · simp only [Value.slice.injEq] at hv
      rw [hv.1] at e
      simp only [blk, Option.map_some, Option.some.injEq] at e
      rw [e, hgb] at hj
      cases hj
      cases ho⟩

/-- One more place is put behind the others. -/
theorem RiseMem.push {n0 bo bs C : Nat} {W0 W w5 : World} {ps : List (List Nat)} {k xc sc : Nat} {xa sa : Option Addr} {y : Int} (h : RiseMem n0 bo bs W0 W ps k xa xc) (hbs : bs < W.heap.size) (hne : bo ≠ bs) (hn : n0 ≤ W.heap.size)
    (hown : w5.ownsRow n0 3 1 (.slice sa (k + 1) sc) (k + 1) (ints (pnts (outR ps k)) ++ [.int .i64 y])) (hg : W.grownBy w5 (blk xa)) (hno : NewOr W xa sa) (hy : pnts (outR ps (k + 1)) = pnts (outR ps k) ++ [y]) :
    KeepsFrom C W (w5.setCell ⟨bo, 0, none⟩ (.slice sa (k + 1) sc)) ∧ KpB n0 bs W (w5.setCell ⟨bo, 0, none⟩ (.slice sa (k + 1) sc)) ∧ RiseMem n0 bo bs W0 (w5.setCell ⟨bo, 0, none⟩ (.slice sa (k + 1) sc)) ps (k + 1) sa sc := by
  have hbo := h.bxo.lt bo rfl
  have d' : blk sa ≠ some bo ∧ blk sa ≠ some bs := by
    rcases hno with e | ⟨g, e, hge⟩
    · rw [e]; exact h.d
    · rw [e]; refine ⟨fun e' => ?_, fun e' => ?_⟩ <;> simp at e' <;> omega
  have hb : Below n0 W (w5.setCell ⟨bo, 0, none⟩ (.slice sa (k + 1) sc)) := (below_of_grown hg hn (fun q hq => (own_lt h.row q hq).1)).setCell (p := ⟨bo, 0, none⟩) hbo.1 _
  refine ⟨(rkeeps_own h.row hg).trans ((KeepsOthers.setCell _ _ _).from _), ⟨hb, fun v e => ?_⟩, h.low.trans hb, ?_, ?_, d'⟩
  · have h1 := hg.cell e (fun e' => h.d.2 e'.symm)
    exact (World.cell?_setCell_far w5 ⟨bo, 0, none⟩ ⟨bs, 0, none⟩ _ hne).trans h1
  · have hk := own_keep h.bxo hg (fun q hq he => h.d.1 (by rw [hq, ← he]; rfl))
    have := (hk.stored 0 (.slice sa (k + 1) sc)).1
    simpa using this
  · rw [hy, ints_append]
    exact own_other hown d'.1

theorem box_ne {W : World} {B bp e size n c : Nat} {t : TypeId} {a : Option Addr} {cs : Array Value} {xs : List Value} (h : W.ownsRow B e size (.slice a n c) n xs) (hb : Box W bp cs t) (hne : t ≠ e) : blk a ≠ some bp := fun e' => by
  rcases h.2 with ⟨hv, _⟩ | ⟨g, cap, cur, hv, _, hgb, _⟩
  · simp only [Value.slice.injEq] at hv
    rw [hv.1] at e'
    cases e'
  · simp only [Value.slice.injEq] at hv
    rw [hv.1] at e'
    simp only [blk, Option.map_some, Option.some.injEq] at e'
    have h1 : W.heap[bp]? = _ := hb
    rw [← e', hgb] at h1
    simp only [Option.some.injEq, Obj.cells.injEq] at h1
    exact hne h1.2.1.symm
theorem rise_facts {bo bs k xc bp b o : Nat} {w1 X : World} {ps : List (List Nat)} {xa : Option Addr} {v u : Value} (h : RiseMem w1.heap.size bo bs w1 X ps k xa xc) (hbx : Box X bp #[v] 22) (hn : w1.heap.size ≤ X.heap.size) (c : w1.cell? ⟨b, o, none⟩ = some u) (hne : bo ≠ bp) :
    ∀ (ob : Obj) (w5 : World), (X.alloc ob).drew.grownBy w5 (blk xa) → X.grownBy w5 (blk xa) ∧ w5.frozen? ⟨bo, 0, none⟩ = false ∧ w5.cell? ⟨bo, 0, none⟩ = some (.slice xa k xc) ∧ (w5.cell? ⟨bp, 0, none⟩ = some v ∧ w5.cell? ⟨b, o, none⟩ = some u) ∧
      ∀ x, ((w5.setCell ⟨bo, 0, none⟩ x).cell? ⟨bp, 0, none⟩ = some v ∧ (w5.setCell ⟨bo, 0, none⟩ x).cell? ⟨b, o, none⟩ = some u) := by
  intro ob w5 hg
  have hg' : X.grownBy w5 (blk xa) := grown_trans (grown_drew (World.grownBy_alloc X ob (blk xa))) hg
  have hb := World.block_lt_of_cell? w1 _ c
  have hbo := h.bxo.lt bo rfl
  have k1 := own_keep h.bxo hg' (fun q hq he => h.d.1 (by rw [hq, ← he]; rfl))
  have k2 := box_keep hbx hg' (box_ne h.row hbx (by decide))
  have k3 := ((h.low.trans (below_of_grown hg' hn (fun q hq => (own_lt h.row q hq).1))).cell (p := ⟨b, o, none⟩) hb).trans c
  refine ⟨hg', k1.frozenAt 0, k1.cellAt 0 (by omega), ⟨k2.cell 0 rfl, k3⟩, fun x => ⟨(box_other k2 hne).cell 0 rfl, ?_⟩⟩
  exact (World.cell?_setCell_far w5 ⟨bo, 0, none⟩ ⟨b, o, none⟩ _ (by simp only at hb ⊢; omega)).trans k3

theorem newOr_back {X : World} {o : Obj} {a a' : Option Addr} (h : NewOr (X.alloc o).drew a a') : NewOr X a a' := by
  rcases h with h | ⟨g, h1, h2⟩
  · exact .inl h
  · refine .inr ⟨g, h1, ?_⟩
    have : (X.alloc o).drew.heap.size = (X.alloc o).heap.size := rfl
    rw [this, alloc_size] at h2
    omega

theorem newOr_later {W X : World} {a a' : Option Addr} (h : NewOr X a a') (hg : W.grownBy X none) : NewOr W a a' := by
  rcases h with h | ⟨g, h1, h2⟩
  · exact .inl h
  · exact .inr ⟨g, h1, Nat.le_trans hg.size h2⟩
theorem RiseMem.keepN {n0 bo bs k xc : Nat} {W0 W X : World} {ps : List (List Nat)} {xa : Option Addr} (h : RiseMem n0 bo bs W0 W ps k xa xc) (hg : W.grownBy X none) (hn : n0 ≤ W.heap.size) : RiseMem n0 bo bs W0 X ps k xa xc :=
  ⟨h.low.trans (below_of_grown hg hn (fun q hq => by cases hq)), own_keep h.bxo hg (fun q hq => by cases hq), own_keep h.row hg (fun q hq => by cases hq), h.d⟩

end Go.Proofs.YteeeikninigeoaaGreatDoor

/- slices.Backward on a slice of int. -/
namespace Go.Proofs.YteeeikninigeoaaGreatDoor
set_option linter.unusedVariables false
open Go.RowKit
attribute [local go_sem] Oper.semAt_some

theorem bki_any (a : Option Addr) (n c : Nat) (w : World) :
    Calls Tryz.prog 43 #[.slice a n c] w fun e w' => e = .returned (.func (.func 79) #[] #[.pointer (some ⟨w.heap.size, 0, none⟩)]) ∧ w.alloc (.cells #[.slice a n c] 22) = w' := by
  go_enter Tryz.func43, Tryz.ntmps43
  go_wp2
  go_ret
  exact ⟨rfl, rfl⟩

set_option maxRecDepth 100000 in
set_option maxHeartbeats 1000000 in
theorem bki_gives (a : Option Addr) (c n bs : Nat) (cs : List Value) (w0 w : World) (hs : SlC w0 a n c 1 cs) (hn : n ≤ 1000000) (hb : Below w0.heap.size w0 w) (hc : w.cell? ⟨bs, 0, none⟩ = some (.slice a n c)) (us : Nat → Value) (hu : ∀ k, k < n → us k = cs.getD (n - 1 - k) undef) :
    Gives Tryz.prog 79 #[.pointer (some ⟨bs, 0, none⟩)] (fun k => #[.int .i64 ((n : Int) - 1 - k), us k]) (KpB w0.heap.size bs) n w := by
  intro l J W hW hJ hY h0
  have hcW : W.cell? ⟨bs, 0, none⟩ = some (.slice a n c) := by
    rw [hW.cell (p := ⟨bs, 0, none⟩) (World.block_lt_of_cell? w _ hc)]; exact hc
  have HS := Kp.mk (fun i (hi : i < cs.length) (wr : World) (hk : KpB w0.heap.size bs W wr) => show ∃ b off, a = some ⟨b, off, none⟩ ∧ wr.cell? ⟨b, off + i, none⟩ = some cs[i] from by
    obtain ⟨b, off, ha, hc0⟩ := hs.cell i hi
    refine ⟨b, off, ha, ?_⟩
    rw [((hb.trans (hW.mono hb.size)).trans hk.bel).cell (p := ⟨b, off + i, none⟩) (World.block_lt_of_cell? w0 _ hc0)]
    exact hc0)
  have HL := Kp.mk hs.hlen
  have HY := Kp.mk hY
  have HU := Kp.mk hu
  clear hs hY hc hu
  refine callsIn_of_wp Tryz.func79 rfl trivial ?_ rfl
  simp only [Tryz.ntmps79, List.size_toArray, List.length_cons, List.length_nil, Nat.reduceAdd, Nat.reduceSub, Array.replicate_succ, Array.replicate_zero, List.push_toArray, List.append_toArray, List.nil_append, List.cons_append]
  gi_wp2
  gi_loopw [3] (fun i wr => ∃ k : Nat, k ≤ n ∧ i = .int .i64 ((n : Int) - 1 - k) ∧ J k wr ∧ Kp (KpB w0.heap.size bs W wr)) (fun i _ => (intOf i + 1).toNat)
  case atStart => exact ⟨0, Nat.zero_le _, by simp, h0, ⟨KpB.refl _ _ _⟩⟩
  case round =>
    obtain ⟨k, hk, rfl, hJs, HK⟩ := hrel
    have hcr := HK.out.box _ hcW
    by_cases hlt : k < n
    · have hge : 0 ≤ (n : Int) - 1 - k := by omega
      obtain ⟨b, off, rfl, ci⟩ := HS.out (n - 1 - k) (by rw [HL.out]; omega) wr HK.out
      rw [← getD_at cs undef (by rw [HL.out]; omega)] at ci
      obtain ⟨fn, tmps, assign, body, hy, hR⟩ := HY.out k wr hlt hJs
      have hu := HU.out k hlt
      rw [← hu] at ci
      clear hu
      generalize us k = u at *
      obtain ⟨q, hq⟩ : ∃ q : Nat, n - 1 - k = q := ⟨_, rfl⟩
      have hqz : (n : Int) - 1 - k = q := by omega
      rw [hq] at ci
      rw [hqz] at hy hge
      rw [hqz]
      have HQ := Kp.mk hqz
      have hqn : q < n := by omega
      clear hq hqz
      gi_wp2
      refine hR.mono ?_
      rintro e W3 ⟨rfl, hJ3, hk3⟩
      gi_wp2
      go_roundw
      case rel => exact ⟨k + 1, by omega, by rw [show ((n : Int) - 1 - ((k + 1 : Nat) : Int)) = q - 1 by have := HQ.out; omega], hJ3, ⟨HK.out.trans hk3⟩⟩
      case measure => simp [intOf]
    · obtain rfl : k = n := by omega
      gi_wp2
      go_end0
      exact ⟨⟨_, rfl⟩, hJs⟩

/-- What is kept while the call's own boxes (bo, bo + 1) change: what is older, what lies between them and n0, and one box. -/
structure KpS (bo n0 bs : Nat) (W W' : World) : Prop where
  bel : Below bo W W'
  mid : ∀ j, bo + 2 ≤ j → j < n0 → W'.heap[j]? = W.heap[j]?
  box : ∀ v, W.cell? ⟨bs, 0, none⟩ = some v → W'.cell? ⟨bs, 0, none⟩ = some v
theorem KpS.refl (bo n0 bs : Nat) (W : World) : KpS bo n0 bs W W := ⟨Below.refl _ _, fun _ _ _ => rfl, fun _ h => h⟩
theorem KpS.trans {bo n0 bs : Nat} {A B C : World} (h : KpS bo n0 bs A B) (k : KpS bo n0 bs B C) : KpS bo n0 bs A C := ⟨h.bel.trans k.bel, fun j h1 h2 => (k.mid j h1 h2).trans (h.mid j h1 h2), fun v e => k.box v (h.box v e)⟩
theorem KpS.put {bo n0 bs : Nat} {w : World} (hb : bo ≤ n0) (hn : n0 ≤ w.heap.size) (W : World) (l : Nat) (o o' : Obj) (hl : w.heap.size ≤ l) (h : W.heap[l]? = some o) (ho : o.isCells = false) : KpS bo n0 bs W (W.putObj l o') :=
  ⟨(Below.refl bo W).grown (grownBy_putObj' W l o') (by have := (Array.getElem?_eq_some_iff.1 h).1; omega) (fun k e => by cases e; omega), fun j h1 h2 => World.putObj_heap_other (by omega), fun v e => (grownBy_putObj' W l o').cell e (fun he => by
    simp only [Option.some.injEq] at he
    simp only [World.cell?] at e
    rw [he, h] at e
    cases o <;> first | (cases ho; done) | (simp at e; done))⟩

set_option maxRecDepth 100000 in
set_option maxHeartbeats 1000000 in
theorem bks_gives (a : Option Addr) (c n bs bo n0 : Nat) (cs : List Value) (w : World) (hs : SlC w a n c 1 cs) (hn : n ≤ 1000000) (hblk : ∀ k, blk a = some k → bo + 2 ≤ k ∧ k < n0) (hc : w.cell? ⟨bs, 0, none⟩ = some (.slice a n c)) (us : Nat → Value) (hu : ∀ k, k < n → us k = cs.getD (n - 1 - k) undef) :
    Gives Tryz.prog 79 #[.pointer (some ⟨bs, 0, none⟩)] (fun k => #[.int .i64 ((n : Int) - 1 - k), us k]) (KpS bo n0 bs) n w := by
  intro l J W hW hJ hY h0
  have hcW : W.cell? ⟨bs, 0, none⟩ = some (.slice a n c) := by
    rw [hW.cell (p := ⟨bs, 0, none⟩) (World.block_lt_of_cell? w _ hc)]; exact hc
  have HS := Kp.mk (fun i (hi : i < cs.length) (wr : World) (hk : KpS bo n0 bs W wr) => show ∃ b off, a = some ⟨b, off, none⟩ ∧ wr.cell? ⟨b, off + i, none⟩ = some cs[i] from by
    obtain ⟨b, off, ha, hc0⟩ := hs.cell i hi
    refine ⟨b, off, ha, ?_⟩
    obtain ⟨h1, h2⟩ := hblk b (by rw [ha]; rfl)
    have h3 := (hW.cell (p := ⟨b, off + i, none⟩) (World.block_lt_of_cell? w _ hc0)).trans hc0
    have h4 := hk.mid b h1 h2
    simp only [World.cell?] at h3 ⊢
    rw [h4]
    exact h3)
  have HL := Kp.mk hs.hlen
  have HY := Kp.mk hY
  have HU := Kp.mk hu
  clear hs hY hc hu
  refine callsIn_of_wp Tryz.func79 rfl trivial ?_ rfl
  simp only [Tryz.ntmps79, List.size_toArray, List.length_cons, List.length_nil, Nat.reduceAdd, Nat.reduceSub, Array.replicate_succ, Array.replicate_zero, List.push_toArray, List.append_toArray, List.nil_append, List.cons_append]
  gi_wp2
  gi_loopw [3] (fun i wr => ∃ k : Nat, k ≤ n ∧ i = .int .i64 ((n : Int) - 1 - k) ∧ J k wr ∧ Kp (KpS bo n0 bs W wr)) (fun i _ => (intOf i + 1).toNat)
  case atStart => exact ⟨0, Nat.zero_le _, by simp, h0, ⟨KpS.refl _ _ _ _⟩⟩
  case round =>
    obtain ⟨k, hk, rfl, hJs, HK⟩ := hrel
    have hcr := HK.out.box _ hcW
    by_cases hlt : k < n
    · have hge : 0 ≤ (n : Int) - 1 - k := by omega
      obtain ⟨b, off, rfl, ci⟩ := HS.out (n - 1 - k) (by rw [HL.out]; omega) wr HK.out
      rw [← getD_at cs undef (by rw [HL.out]; omega)] at ci
      obtain ⟨fn, tmps, assign, body, hy, hR⟩ := HY.out k wr hlt hJs
      have hu := HU.out k hlt
      rw [← hu] at ci
      clear hu
      generalize us k = u at *
      obtain ⟨q, hq⟩ : ∃ q : Nat, n - 1 - k = q := ⟨_, rfl⟩
      have hqz : (n : Int) - 1 - k = q := by omega
      rw [hq] at ci
      rw [hqz] at hy hge
      rw [hqz]
      have HQ := Kp.mk hqz
      have hqn : q < n := by omega
      clear hq hqz
      gi_wp2
      refine hR.mono ?_
      rintro e W3 ⟨rfl, hJ3, hk3⟩
      gi_wp2
      go_roundw
      case rel => exact ⟨k + 1, by omega, by rw [show ((n : Int) - 1 - ((k + 1 : Nat) : Int)) = q - 1 by have := HQ.out; omega], hJ3, ⟨HK.out.trans hk3⟩⟩
      case measure => simp [intOf]
    · obtain rfl : k = n := by omega
      gi_wp2
      go_end0
      exact ⟨⟨_, rfl⟩, hJs⟩

end Go.Proofs.YteeeikninigeoaaGreatDoor

/- Package sky: the walk of Sky. -/
namespace Go.Proofs.YteeeikninigeoaaGreatDoor
set_option linter.unusedVariables false
open Go.RowKit
attribute [local go_sem] Oper.semAt_some

/-- The memory of Sky within its loop: the box of what is out (bo), the box of the top (bt). -/
structure SkyMem (n0 B bo bt : Nat) (W0 W : World) (out : List Nat) (top : Pt) (xa : Option Addr) (o xc : Nat) : Prop where
  low : Below n0 W0 W
  bxo : Box W bo #[.slice xa o xc] 22
  bxt : Box W bt #[.int .i64 top.x, .int .i64 top.y, .int .i64 top.w] 63
  row : W.ownsRow B 3 1 (.slice xa o xc) o (ints (out.map Int.ofNat))
  len : out.length = o

section
variable {bo n0 bs : Nat} {W W' : World}
theorem kps_below (h : Below W.heap.size W W') (hn : n0 ≤ W.heap.size) (hb : bo ≤ W.heap.size) (hs : bs < W.heap.size) : KpS bo n0 bs W W' :=
  ⟨h.mono hb, fun j _ h2 => h.block j (by omega), fun v e => (h.cell (p := ⟨bs, 0, none⟩) hs).trans e⟩
theorem kps_grown {r : Option Nat} (h : W.grownBy W' r) (hn : n0 ≤ W.heap.size) (hb : bo ≤ W.heap.size) (hr : ∀ k, r = some k → n0 ≤ k ∧ bo ≤ k ∧ bs ≠ k) : KpS bo n0 bs W W' :=
  ⟨below_of_grown h hb (fun k hk => (hr k hk).2.1), fun j _ h2 => h.block j (by omega) (fun e => by have := (hr j e.symm).1; omega), fun v e => h.cell e (fun e' => (hr bs e'.symm).2.2 rfl)⟩
theorem kps_set {c o : Nat} {u : Value} (hc : c = bo ∨ c = bo + 1) (hs : bo + 2 ≤ bs) (hb : bo ≤ W.heap.size) : KpS bo n0 bs W (W.setCell ⟨c, o, none⟩ u) :=
  ⟨below_of_grown (grown_set W c o u) hb (fun k hk => by cases hk; omega), fun j h1 _ => heap_setCell_other W ⟨c, o, none⟩ j u (fun e => by dsimp only at e; omega), fun v e => by rw [World.cell?_setCell_other _ _ _ _ (fun e' => by simp only [Addr.mk.injEq] at e'; omega)]; exact e⟩
end
/-- A place of an order. -/
def ordAt (O : List Nat) (j : Nat) : Nat := O.getD j 0
theorem ordAt_eq (O : List Nat) (j : Nat) : ordAt O j = O.getD j 0 := rfl
attribute [irreducible] ordAt
theorem inList_step {P : Program} {l m : Nat} {Q : Exit → Act → World → Prop} {ops : Array Oper} {o : Oper} {rest : List Oper} {a : Act} {W : World} (hgd : o.guard = none) (hd : ∀ c, o.op ≠ .defer c)
    (h : ∀ K : Act → World → Prop, (∀ a' w', wpListIn (Fence.wide.inRound l) m P ops Q rest a' w' → K a' w') → if Region.wanted o (yielded ops a.tmps) = true then Oper.wp P o a W K (Ahead Q) else True) : wpListIn (Fence.wide.inRound l) m P ops Q (o :: rest) a W := by
  have hw : Region.wanted o (yielded ops a.tmps) = true := by simp [Region.wanted, hgd]
  have h' := h _ (fun _ _ h => h)
  rw [if_pos hw] at h'
  unfold wpListIn
  rw [if_pos hw]
  exact lift_op hd h'
theorem sl_own {w : World} {a : Option Addr} {c n : Nat} {l : List Int} (h : SlI w a c l) (hn : l.length = n) : SlC w a n c 1 (ints l) := by subst hn; exact h
set_option maxRecDepth 100000 in
set_option maxHeartbeats 4000000 in
theorem sky_det (a : Option Addr) (cap m : Nat) (L : List Pt) (w : World) (h : SlF ptL 3 w a (m + 1) cap L) (hm : m + 1 ≤ 150) (hN : ∀ p ∈ L, p.Near) :
    Calls Tryz.prog 22 #[.slice a (m + 1) cap] w (fun e w' => ∃ ra r rc S, e = .returned (.tuple #[.slice ra r rc, .int .i64 0]) ∧ Kp (IsOrder L (detN (m + 1) L)) ∧ Kp (∃ top, SkyInv (gOf L) (met (detN (m + 1) L) (m + 1)) S top) ∧ Kp (S.length = r) ∧ Kp (SlI w' ra rc (S.reverse.map Int.ofNat)) ∧ Below w.heap.size w w') := by
  obtain ⟨O, hO⟩ : ∃ O, detN (m + 1) L = O := ⟨_, rfl⟩
  have HOE := Kp.mk hO
  rw [hO]
  clear hO
  have HLn := Kp.mk (h.len ptL_len (by omega))
  have HA := Kp.mk (below_alloc (Nat.le_refl w.heap.size) (.cells #[.slice a (m + 1) cap] 24))
  have HBX := Kp.mk (Box.new w #[.slice a (m + 1) cap] 24)
  have H1 := Kp.mk (SlF.below h HA.out)
  have CC := Kp.mk (gcheck_any a cap (m + 1) L _ H1.out hm hN)
  have b0 : (w.alloc (.cells #[.slice a (m + 1) cap] 24)).cell? ⟨w.heap.size, 0, none⟩ = some (.slice a (m + 1) cap) := HBX.out.cell 0 rfl
  clear h hN
  refine (callsIn_wide (n := 3)).1 ?_
  refine callsIn_of_wp_marks Tryz.func22 rfl trivial ?_ rfl
  simp only [Tryz.ntmps22, List.size_toArray, List.length_cons, List.length_nil, Nat.reduceAdd, Nat.reduceSub, Array.replicate_succ, Array.replicate_zero, List.push_toArray, List.append_toArray, List.nil_append, List.cons_append]
  refine wpIn_wide.2 ?_
  go_wp2_with fail
  refine CC.out.mono ?_
  rintro e w1 ⟨rfl, HB1⟩
  have HX1 := Kp.mk (HBX.out.below HB1.out)
  have HP1 := Kp.mk (SlF.below H1.out HB1.out)
  have HBB1 := Kp.mk (below_step HA.out HB1.out)
  clear CC H1 b0
  -- the two boxes
  have hbo := Box.new w1 #[.slice none 0 0] 22
  have hbt := Box.new (w1.alloc (.cells #[.slice none 0 0] 22)) #[.int .i64 0, .int .i64 0, .int .i64 0] 63
  rw [alloc_size] at hbt
  have hbo2 := hbo.alloc (.cells #[.int .i64 0, .int .i64 0, .int .i64 0] 63)
  have hlow2 : Below w1.heap.size w1 ((w1.alloc (.cells #[.slice none 0 0] 22)).alloc (.cells #[.int .i64 0, .int .i64 0, .int .i64 0] 63)) := below_then_alloc (below_alloc (Nat.le_refl _) _) _
  have HX2 := Kp.mk (HX1.out.below hlow2)
  have HP2 := Kp.mk (SlF.below HP1.out hlow2)
  have hsz2 : ((w1.alloc (.cells #[.slice none 0 0] 22)).alloc (.cells #[.int .i64 0, .int .i64 0, .int .i64 0] 63)).heap.size = w1.heap.size + 2 := by rw [alloc_size, alloc_size]
  have b2 : ((w1.alloc (.cells #[.slice none 0 0] 22)).alloc (.cells #[.int .i64 0, .int .i64 0, .int .i64 0] 63)).cell? ⟨w.heap.size, 0, none⟩ = some (.slice a (m + 1) cap) := HX2.out.cell 0 rfl
  generalize hw2 : (w1.alloc (.cells #[.slice none 0 0] 22)).alloc (.cells #[.int .i64 0, .int .i64 0, .int .i64 0] 63) = w2 at *
  have HBO := Kp.mk hbo2
  have HBT := Kp.mk hbt
  have HLOW := Kp.mk hlow2
  clear hbo hbt hbo2 hlow2
  go_wp2_with fail
  refine (skySorted_det a cap (m + 1) L w2 HP2.out (by omega)).mono ?_
  rintro e w3 ⟨oa, oc, rfl, HIO, HOO, HB3⟩
  rw [HOE.out] at HIO HOO
  have HOL := Kp.mk (show O.length = m + 1 by rw [HIO.out.len, HLn.out])
  have HORD := Kp.mk (own_sl_len HOO.out (by rw [List.length_map]; exact HOL.out))
  go_wp2_with fail
  refine (bki_any _ _ _ _).mono ?_
  rintro e w4 ⟨rfl, rfl⟩
  go_wp2
  obtain ⟨pb, hpb⟩ : ∃ pb, pb = w.heap.size := ⟨_, rfl⟩
  obtain ⟨bo, hbo⟩ : ∃ bo, bo = w1.heap.size := ⟨_, rfl⟩
  obtain ⟨bs, hbs⟩ : ∃ bs, bs = w3.heap.size := ⟨_, rfl⟩
  have hs23 := HB3.out.size
  have hpbo : pb < bo := by rw [hpb, hbo]; exact HX1.out.lt
  have hobs : bo + 2 ≤ bs := by rw [hbo, hbs, ← hsz2]; exact hs23
  have HBSX := Kp.mk (Box.new w3 #[.slice oa (m + 1) oc] 22)
  have hba := below_alloc (Nat.le_refl w3.heap.size) (.cells #[.slice oa (m + 1) oc] 22)
  have HORD4 := Kp.mk (HORD.out.below hba)
  have hob := own_lt HOO.out
  have HOB := Kp.mk (show ∀ k, blk oa = some k → bo + 2 ≤ k ∧ k < bs from fun k hk => by
    have := hob k hk; rw [hsz2] at this; omega)
  have HLO := Kp.mk (show Below bo w1 (w3.alloc (.cells #[.slice oa (m + 1) oc] 22)) from by
    rw [hbo]
    exact HLOW.out.trans ((HB3.out.mono (by rw [hsz2]; omega)).trans (hba.mono (by omega))))
  have HBO4 := Kp.mk ((HBO.out.below HB3.out).below hba)
  have HBT4 := Kp.mk ((HBT.out.below HB3.out).below hba)
  have hsz4 : (w3.alloc (.cells #[.slice oa (m + 1) oc] 22)).heap.size = bs + 1 := by rw [alloc_size, ← hbs]
  have HBB1' := Kp.mk HBB1.out.size
  rw [← hpb] at HX1
  rw [← hbo] at HBO4 HBT4
  rw [← hbs] at HBSX
  rw [← hpb, ← hbo, ← hbs]
  obtain ⟨W0, hW0⟩ : ∃ W0, w3.alloc (.cells #[.slice oa (m + 1) oc] 22) = W0 := ⟨_, rfl⟩
  rw [hW0] at HBSX HORD4 HLO HBO4 HBT4 hsz4 ⊢
  have hcs := HBSX.out.cell 0 rfl
  have HPBE := Kp.mk hpb
  have HBOE := Kp.mk hbo
  clear hW0 hba hob hs23 HB3 HBO HBT HLOW HORD HOO hpb hbo hbs hw2 HX2 HP2 b2 hsz2
  refine (wpIn_wide (n := 3)).1 ?_
  refine range_law (gf := 79) (lb := #[.pointer (some ⟨bs, 0, none⟩)]) rfl (enters_of Tryz.func79 (by kernel_rfl) rfl)
    (bks_gives oa oc (m + 1) bs bo bs (ints (O.map Int.ofNat)) W0 (sl_own HORD4.out (by rw [List.length_map]; exact HOL.out)) (by omega) HOB.out hcs (fun k => .int .i64 ((ordAt O (m - k) : Nat) : Int)) ?us) (fun h k => h.trans k) (fun W l o o' => KpS.put (by omega) (by omega) W l o o') (Below.refl _ _) (fun _ => rfl)
    (fun k W => ∃ xa o xc out top, Kp (SkyMem bo (bs + 1) bo (bo + 1) w1 W out top xa o xc) ∧ Kp (SkyInv (gOf L) (met O k) out top)) ?own ?start
    (fun k a' W => a' = { tmps := #[.slice a (m + 1) cap, .pointer (some ⟨pb, 0, none⟩), .slice none 0 0, .int .i64 0, .int .i64 0, .pointer (some ⟨bo, 0, none⟩), .pointer (some ⟨bo + 1, 0, none⟩), undef, .int .i64 ((ordAt O (m - k) : Nat) : Int), undef, .slice a (m + 1) cap, .int .i64 0, .int .i64 0, .bool false, undef, .slice a (m + 1) cap, .slice oa (m + 1) oc, .func (.func 79) #[] #[.pointer (some ⟨bs, 0, none⟩)], .int .i64 ((m : Int) - k), .int .i64 ((ordAt O (m - k) : Nat) : Int), undef, undef, undef, undef, undef, undef, undef, undef, undef, undef, undef, undef, undef, undef, undef, undef, undef, undef, undef, undef, undef, undef, undef, undef, undef, undef, undef, undef, undef, undef, undef, undef, undef, undef, undef, undef], defers := [] })
    ?ownA ?assign ?body ?done
  case us =>
    intro k hk
    rw [show m + 1 - 1 - k = m - k by omega, ordAt_eq]
    have hlt : m - k < (ints (O.map Int.ofNat)).length := by rw [ints_length, List.length_map, HOL.out]; omega
    rw [getD_at (ints (O.map Int.ofNat)) undef hlt, ints_get, List.getElem_map, getD_at O 0 (by rw [HOL.out]; omega)]
    rfl
  case own =>
    rintro k X Y row ⟨xa, o, xc, out, top, HM, HI⟩ hgr hr
    have hr' : ∀ q, row = some q → ∃ o : Obj, X.heap[q]? = some o ∧ o.isCells = false := fun q e => (hr q e).2
    have hbox : ∀ {b : Nat} {cs : Array Value} {t : TypeId}, Box X b cs t → Box Y b cs t := fun {b cs t} hb => box_keep hb hgr (fun e => by
      obtain ⟨o, ho, hc⟩ := hr' b e
      have h2' : X.heap[b]? = _ := hb
      rw [h2'] at ho
      cases ho
      cases hc)
    exact ⟨xa, o, xc, out, top, ⟨⟨HM.out.low.grown hgr (by have := HM.out.bxo.lt; omega) (fun q e => by have := (hr q e).1; omega), hbox HM.out.bxo, hbox HM.out.bxt, rown_rest HM.out.row hgr hr', HM.out.len⟩⟩, HI⟩
  case start => exact ⟨none, 0, 0, [], ⟨0, 0, 0⟩, ⟨⟨HLO.out, HBO4.out, HBT4.out, World.ownsRow_nil _ _ _ _, rfl⟩⟩, ⟨SkyInv.start _ _⟩⟩
  case ownA =>
    rintro k a' _ X Y row h hgr hr
    exact h
  case assign =>
    intro lp k W K hk hle ⟨xa, o, xc, out, top, HM, HI⟩ hK
    gi_wp2
    exact hK _ _ (KeepsFrom.refl _ _) (KpS.refl _ _ _ _) ⟨xa, o, xc, out, top, HM, HI⟩ rfl
  case body =>
    rintro lp k a' W hk hle ⟨xa, o, xc, out, top, HM, HI⟩ rfl
    have hsW : bs + 1 ≤ W.heap.size := by omega
    have hbw1 : Below w1.heap.size w1 W := by rw [← HBOE.out]; exact HM.out.low
    have HPW := Kp.mk (SlF.below HP1.out hbw1)
    have hXW : Box W pb #[.slice a (m + 1) cap] 24 := HX1.out.below hbw1
    have c1 : W.cell? ⟨pb, 0, none⟩ = some (.slice a (m + 1) cap) := hXW.cell 0 rfl
    have hil : ordAt O (m - k) < m + 1 := by
      rw [ordAt_eq]
      have := HIO.out.lt (m - k) (by rw [HOL.out]; omega)
      rw [HLn.out] at this; exact this
    have HMS := Kp.mk (show met O (k + 1) = met O k ++ [ordAt O (m - k)] from by
      rw [met_succ O k (by rw [HOL.out]; exact hk), HOL.out, show m + 1 - 1 - k = m - k by omega, ordAt_eq])
    have HLX := Kp.mk (show ∀ d ∈ met O k, lexLe (gOf L (ordAt O (m - k))) (gOf L d) from fun d hd => by
      have := HIO.out.lex (j := k) (by rw [HOL.out]; exact hk) d hd
      rw [HOL.out, show m + 1 - 1 - k = m - k by omega] at this
      rw [ordAt_eq]; exact this)
    generalize ordAt O (m - k) = i at *
    obtain ⟨qb, qo, rfl, hqb, cp⟩ := HPW.out.at ptL_len (by omega) i (by rw [HLn.out]; exact hil)
    rw [← getD_at L pt0 (by rw [HLn.out]; exact hil)] at cp
    obtain ⟨p, hp⟩ : ∃ p, p = L.getD i pt0 := ⟨_, rfl⟩
    have HPE := Kp.mk (show gOf L i = p from hp.symm)
    rw [← hp] at cp
    have p0 : W.cell? ⟨qb, qo + i * 3, none⟩ = some (.int .i64 p.x) := cp 0 (by omega)
    have p1 : W.cell? ⟨qb, qo + i * 3 + 1, none⟩ = some (.int .i64 p.y) := cp 1 (by omega)
    have p2 : W.cell? ⟨qb, qo + i * 3 + 2, none⟩ = some (.int .i64 p.w) := cp 2 (by omega)
    have hin : (i : Int) < (m : Int) + 1 := by omega
    have hbel : Below W.heap.size W (W.alloc (.cells #[.int .i64 p.x, .int .i64 p.y, .int .i64 p.w] 63)) := below_alloc (Nat.le_refl _) _
    have hnew := Box.new W #[.int .i64 p.x, .int .i64 p.y, .int .i64 p.w] 63
    have HKA := Kp.mk (kps_below (bo := bo) (n0 := bs) (bs := bs) hbel (by omega) (by omega) (by omega))
    have HOA := Kp.mk (HM.out.bxo.below hbel)
    have HTA := Kp.mk (HM.out.bxt.below hbel)
    have HRA := Kp.mk (own_below HM.out.row hbel)
    have HLA := Kp.mk (HM.out.low.trans (hbel.mono (by omega)))
    have HKF := Kp.mk (show KeepsFrom W0.heap.size W (W.alloc (.cells #[.int .i64 p.x, .int .i64 p.y, .int .i64 p.w] 63)) from (KeepsOthers.alloc _ _).from _)
    have d0 : (W.alloc (.cells #[.int .i64 p.x, .int .i64 p.y, .int .i64 p.w] 63)).cell? ⟨W.heap.size, 0, none⟩ = some (.int .i64 p.x) := hnew.cell 0 rfl
    have d1 : (W.alloc (.cells #[.int .i64 p.x, .int .i64 p.y, .int .i64 p.w] 63)).cell? ⟨W.heap.size, 1, none⟩ = some (.int .i64 p.y) := hnew.cell 1 rfl
    have d2 : (W.alloc (.cells #[.int .i64 p.x, .int .i64 p.y, .int .i64 p.w] 63)).cell? ⟨W.heap.size, 2, none⟩ = some (.int .i64 p.w) := hnew.cell 2 rfl
    have HNW := Kp.mk hnew
    have hszA : W.heap.size + 1 = (W.alloc (.cells #[.int .i64 p.x, .int .i64 p.y, .int .i64 p.w] 63)).heap.size := (alloc_size _ _).symm
    have HSZA := Kp.mk hszA
    generalize hWA : W.alloc (.cells #[.int .i64 p.x, .int .i64 p.y, .int .i64 p.w] 63) = WA at *
    have c5 : WA.cell? ⟨bo, 0, none⟩ = some (.slice xa o xc) := HOA.out.cell 0 rfl
    have e0 : WA.cell? ⟨bo + 1, 0, none⟩ = some (.int .i64 top.x) := HTA.out.cell 0 rfl
    have e1 : WA.cell? ⟨bo + 1, 1, none⟩ = some (.int .i64 top.y) := HTA.out.cell 1 rfl
    have e2 : WA.cell? ⟨bo + 1, 2, none⟩ = some (.int .i64 top.w) := HTA.out.cell 2 rfl
    have hlen := HM.out.len
    have hlen' := hlen
    have hon : out = [] ↔ o = 0 := by rw [← hlen]; exact List.length_eq_zero_iff.symm
    clear cp hp hbel hnew hXW hbw1 hszA hle hlen
    have hol : o ≤ 151 := by
      have h1 := HI.out.sub.length_le
      rw [hlen', met_length O k (by rw [HOL.out]; omega)] at h1
      omega
    have hbs1 : bs + 1 ≤ WA.heap.size := by have := HSZA.out; omega
    have hwne : W.heap.size ≠ bo := by omega
    by_cases ho : o = 0
    · have ez : ((o : Int) == 0) = true := by simpa using ho
      have HI5 := Kp.mk (HI.out.take i HLX.out (.inl (hon.2 ho)))
      rw [HPE.out] at HI5
      clear ho hon
      gi_wp2_with (first
        | (gi_at_builtin; refine inList_step rfl (fun c h => by cases h) (fun K hK => ?_); refine step_push tInts (by rfl) _ _ (by rfl) (bs + 1) xa o xc _ (by rfl) (HRA.out.alloc _) 1 WA.heap.size _ (heap_alloc_new WA _) (by rfl) (by rfl) (by simp [Value.oneCell']) (by omega) (by omega) (by omega) (by rw [alloc_size]; omega) ?_; intro sa sc w3 ho3 hgr3 hno3; refine hK _ _ ?_; have hg := grownBy_of_alloc hgr3; have hb3 := box_grow HOA.out hg (row_box HRA.out HOA.out (by decide)); have ht3 := box_grow HTA.out hg (row_box HRA.out HTA.out (by decide)); have hn3 := box_grow HNW.out hg (row_box HRA.out HNW.out (by decide)); have c53 : w3.cell? ⟨bo, 0, none⟩ = some (.slice xa o xc) := hb3.cell 0 rfl; have f53 := hb3.free 0; have hb4 := box_put (i := 0) hb3 (.slice sa (o + 1) sc); have ht4 := box_far (c := bo) (o := 0) (v := .slice sa (o + 1) sc) ht3 (by omega); have hn4 := box_far (c := bo) (o := 0) (v := .slice sa (o + 1) sc) hn3 (by omega); have g0 := hn4.cell 0 rfl; have g1 := hn4.cell 1 rfl; have g2 := hn4.cell 2 rfl; have k0 := ht4.cell 0 rfl; have k1 := ht4.cell 1 rfl; have k2 := ht4.cell 2 rfl; have m0 := ht4.free 0; have m1 := ht4.free 1; have m2 := ht4.free 2; have hro := own_keep ho3 (grown_set w3 bo 0 (.slice sa (o + 1) sc)) (fun q hq => by cases hq; exact row_box ho3 hb3 (by decide)))
        | gi_in)
      have hw4 : bo + 2 ≤ (w3.setCell ⟨bo, 0, none⟩ (.slice sa (o + 1) sc)).heap.size := by have := ht4.lt; omega
      have ht5 := box_put (i := 0) ht4 (.int .i64 p.x)
      have ht6 := box_put (i := 1) ht5 (.int .i64 p.y)
      have ht7 := box_put (i := 2) ht6 (.int .i64 p.w)
      have hb7 := box_far (c := bo + 1) (o := 2) (v := .int .i64 p.w) (box_far (c := bo + 1) (o := 1) (v := .int .i64 p.y) (box_far (c := bo + 1) (o := 0) (v := .int .i64 p.x) hb4 (by omega)) (by omega)) (by omega)
      have hr5 := own_keep hro (grown_set _ (bo + 1) 0 (.int .i64 p.x)) (fun q hq => by cases hq; exact row_box hro ht4 (by decide))
      have hr6 := own_keep hr5 (grown_set _ (bo + 1) 1 (.int .i64 p.y)) (fun q hq => by cases hq; exact row_box hr5 ht5 (by decide))
      have hr7 := own_keep hr6 (grown_set _ (bo + 1) 2 (.int .i64 p.w)) (fun q hq => by cases hq; exact row_box hr6 ht6 (by decide))
      have KS : KpS bo bs bs WA _ := (kps_grown (bo := bo) (n0 := bs) (bs := bs) hg (by omega) (by omega) (fun q hq => by have := (own_lt HRA.out q hq).1; omega)).trans
        ((kps_set (c := bo) (o := 0) (u := .slice sa (o + 1) sc) (.inl rfl) hobs (by have := hb3.lt; omega)).trans
        ((kps_set (c := bo + 1) (o := 0) (u := .int .i64 p.x) (.inr rfl) hobs (by omega)).trans
        ((kps_set (c := bo + 1) (o := 1) (u := .int .i64 p.y) (.inr rfl) hobs (by have := ht5.lt; omega)).trans
        (kps_set (c := bo + 1) (o := 2) (u := .int .i64 p.w) (.inr rfl) hobs (by have := ht6.lt; omega)))))
      refine ⟨by rw [← hsz4]; exact HKF.out.trans ((rkeeps_own HRA.out hg).trans (((KeepsOthers.setCell _ _ _).from _).trans (((KeepsOthers.setCell _ _ _).from _).trans (((KeepsOthers.setCell _ _ _).from _).trans ((KeepsOthers.setCell _ _ _).from _))))), HKA.out.trans KS, sa, o + 1, sc, out ++ [i], p, ⟨⟨HLA.out.trans KS.bel, by simpa using hb7, by simpa using ht7, ?_, by rw [List.length_append, hlen']; rfl⟩⟩, ⟨by rw [HMS.out]; exact HI5.out⟩⟩
      rw [List.map_append, ints_append]
      exact hr7
    · have hne : out ≠ [] := fun e => ho (hon.1 e)
      have ez : ((o : Int) == 0) = false := by simpa using ho
      by_cases h1 : top.y < p.y
      · have t1 : decide (top.y < p.y) = true := decide_eq_true h1
        have HI5 := Kp.mk (HI.out.take i HLX.out (.inr (.inl (by rw [HPE.out]; exact h1))))
        rw [HPE.out] at HI5
        clear ho hon h1 hne
        gi_wp2_with (first
          | (gi_at_builtin; refine inList_step rfl (fun c h => by cases h) (fun K hK => ?_); refine step_push tInts (by rfl) _ _ (by rfl) (bs + 1) xa o xc _ (by rfl) (HRA.out.alloc _) 1 WA.heap.size _ (heap_alloc_new WA _) (by rfl) (by rfl) (by simp [Value.oneCell']) (by omega) (by omega) (by omega) (by rw [alloc_size]; omega) ?_; intro sa sc w3 ho3 hgr3 hno3; refine hK _ _ ?_; have hg := grownBy_of_alloc hgr3; have hb3 := box_grow HOA.out hg (row_box HRA.out HOA.out (by decide)); have ht3 := box_grow HTA.out hg (row_box HRA.out HTA.out (by decide)); have hn3 := box_grow HNW.out hg (row_box HRA.out HNW.out (by decide)); have c53 : w3.cell? ⟨bo, 0, none⟩ = some (.slice xa o xc) := hb3.cell 0 rfl; have f53 := hb3.free 0; have hb4 := box_put (i := 0) hb3 (.slice sa (o + 1) sc); have ht4 := box_far (c := bo) (o := 0) (v := .slice sa (o + 1) sc) ht3 (by omega); have hn4 := box_far (c := bo) (o := 0) (v := .slice sa (o + 1) sc) hn3 (by omega); have g0 := hn4.cell 0 rfl; have g1 := hn4.cell 1 rfl; have g2 := hn4.cell 2 rfl; have k0 := ht4.cell 0 rfl; have k1 := ht4.cell 1 rfl; have k2 := ht4.cell 2 rfl; have m0 := ht4.free 0; have m1 := ht4.free 1; have m2 := ht4.free 2; have hro := own_keep ho3 (grown_set w3 bo 0 (.slice sa (o + 1) sc)) (fun q hq => by cases hq; exact row_box ho3 hb3 (by decide)))
          | gi_in)
        have hw4 : bo + 2 ≤ (w3.setCell ⟨bo, 0, none⟩ (.slice sa (o + 1) sc)).heap.size := by have := ht4.lt; omega
        have ht5 := box_put (i := 0) ht4 (.int .i64 p.x)
        have ht6 := box_put (i := 1) ht5 (.int .i64 p.y)
        have ht7 := box_put (i := 2) ht6 (.int .i64 p.w)
        have hb7 := box_far (c := bo + 1) (o := 2) (v := .int .i64 p.w) (box_far (c := bo + 1) (o := 1) (v := .int .i64 p.y) (box_far (c := bo + 1) (o := 0) (v := .int .i64 p.x) hb4 (by omega)) (by omega)) (by omega)
        have hr5 := own_keep hro (grown_set _ (bo + 1) 0 (.int .i64 p.x)) (fun q hq => by cases hq; exact row_box hro ht4 (by decide))
        have hr6 := own_keep hr5 (grown_set _ (bo + 1) 1 (.int .i64 p.y)) (fun q hq => by cases hq; exact row_box hr5 ht5 (by decide))
        have hr7 := own_keep hr6 (grown_set _ (bo + 1) 2 (.int .i64 p.w)) (fun q hq => by cases hq; exact row_box hr6 ht6 (by decide))
        have KS : KpS bo bs bs WA _ := (kps_grown (bo := bo) (n0 := bs) (bs := bs) hg (by omega) (by omega) (fun q hq => by have := (own_lt HRA.out q hq).1; omega)).trans
          ((kps_set (c := bo) (o := 0) (u := .slice sa (o + 1) sc) (.inl rfl) hobs (by have := hb3.lt; omega)).trans
          ((kps_set (c := bo + 1) (o := 0) (u := .int .i64 p.x) (.inr rfl) hobs (by omega)).trans
          ((kps_set (c := bo + 1) (o := 1) (u := .int .i64 p.y) (.inr rfl) hobs (by have := ht5.lt; omega)).trans
          (kps_set (c := bo + 1) (o := 2) (u := .int .i64 p.w) (.inr rfl) hobs (by have := ht6.lt; omega)))))
        refine ⟨by rw [← hsz4]; exact HKF.out.trans ((rkeeps_own HRA.out hg).trans (((KeepsOthers.setCell _ _ _).from _).trans (((KeepsOthers.setCell _ _ _).from _).trans (((KeepsOthers.setCell _ _ _).from _).trans ((KeepsOthers.setCell _ _ _).from _))))), HKA.out.trans KS, sa, o + 1, sc, out ++ [i], p, ⟨⟨HLA.out.trans KS.bel, by simpa using hb7, by simpa using ht7, ?_, by rw [List.length_append, hlen']; rfl⟩⟩, ⟨by rw [HMS.out]; exact HI5.out⟩⟩
        rw [List.map_append, ints_append]
        exact hr7
      · have t1 : decide (top.y < p.y) = false := decide_eq_false h1
        by_cases h2 : p.x = top.x
        · have t2 : (p.x == top.x) = true := by simpa using h2
          by_cases h3 : p.y = top.y
          · have t3 : (p.y == top.y) = true := by simpa using h3
            have HI5 := Kp.mk (HI.out.take i HLX.out (.inr (.inr (by rw [HPE.out]; exact ⟨h2, h3⟩))))
            rw [HPE.out] at HI5
            clear ho hon h1 h2 h3 hne
            gi_wp2_with (first
              | (gi_at_builtin; refine inList_step rfl (fun c h => by cases h) (fun K hK => ?_); refine step_push tInts (by rfl) _ _ (by rfl) (bs + 1) xa o xc _ (by rfl) (HRA.out.alloc _) 1 WA.heap.size _ (heap_alloc_new WA _) (by rfl) (by rfl) (by simp [Value.oneCell']) (by omega) (by omega) (by omega) (by rw [alloc_size]; omega) ?_; intro sa sc w3 ho3 hgr3 hno3; refine hK _ _ ?_; have hg := grownBy_of_alloc hgr3; have hb3 := box_grow HOA.out hg (row_box HRA.out HOA.out (by decide)); have ht3 := box_grow HTA.out hg (row_box HRA.out HTA.out (by decide)); have hn3 := box_grow HNW.out hg (row_box HRA.out HNW.out (by decide)); have c53 : w3.cell? ⟨bo, 0, none⟩ = some (.slice xa o xc) := hb3.cell 0 rfl; have f53 := hb3.free 0; have hb4 := box_put (i := 0) hb3 (.slice sa (o + 1) sc); have ht4 := box_far (c := bo) (o := 0) (v := .slice sa (o + 1) sc) ht3 (by omega); have hn4 := box_far (c := bo) (o := 0) (v := .slice sa (o + 1) sc) hn3 (by omega); have g0 := hn4.cell 0 rfl; have g1 := hn4.cell 1 rfl; have g2 := hn4.cell 2 rfl; have k0 := ht4.cell 0 rfl; have k1 := ht4.cell 1 rfl; have k2 := ht4.cell 2 rfl; have m0 := ht4.free 0; have m1 := ht4.free 1; have m2 := ht4.free 2; have hro := own_keep ho3 (grown_set w3 bo 0 (.slice sa (o + 1) sc)) (fun q hq => by cases hq; exact row_box ho3 hb3 (by decide)))
              | gi_in)
            have hw4 : bo + 2 ≤ (w3.setCell ⟨bo, 0, none⟩ (.slice sa (o + 1) sc)).heap.size := by have := ht4.lt; omega
            have ht5 := box_put (i := 0) ht4 (.int .i64 p.x)
            have ht6 := box_put (i := 1) ht5 (.int .i64 p.y)
            have ht7 := box_put (i := 2) ht6 (.int .i64 p.w)
            have hb7 := box_far (c := bo + 1) (o := 2) (v := .int .i64 p.w) (box_far (c := bo + 1) (o := 1) (v := .int .i64 p.y) (box_far (c := bo + 1) (o := 0) (v := .int .i64 p.x) hb4 (by omega)) (by omega)) (by omega)
            have hr5 := own_keep hro (grown_set _ (bo + 1) 0 (.int .i64 p.x)) (fun q hq => by cases hq; exact row_box hro ht4 (by decide))
            have hr6 := own_keep hr5 (grown_set _ (bo + 1) 1 (.int .i64 p.y)) (fun q hq => by cases hq; exact row_box hr5 ht5 (by decide))
            have hr7 := own_keep hr6 (grown_set _ (bo + 1) 2 (.int .i64 p.w)) (fun q hq => by cases hq; exact row_box hr6 ht6 (by decide))
            have KS : KpS bo bs bs WA _ := (kps_grown (bo := bo) (n0 := bs) (bs := bs) hg (by omega) (by omega) (fun q hq => by have := (own_lt HRA.out q hq).1; omega)).trans
              ((kps_set (c := bo) (o := 0) (u := .slice sa (o + 1) sc) (.inl rfl) hobs (by have := hb3.lt; omega)).trans
              ((kps_set (c := bo + 1) (o := 0) (u := .int .i64 p.x) (.inr rfl) hobs (by omega)).trans
              ((kps_set (c := bo + 1) (o := 1) (u := .int .i64 p.y) (.inr rfl) hobs (by have := ht5.lt; omega)).trans
              (kps_set (c := bo + 1) (o := 2) (u := .int .i64 p.w) (.inr rfl) hobs (by have := ht6.lt; omega)))))
            refine ⟨by rw [← hsz4]; exact HKF.out.trans ((rkeeps_own HRA.out hg).trans (((KeepsOthers.setCell _ _ _).from _).trans (((KeepsOthers.setCell _ _ _).from _).trans (((KeepsOthers.setCell _ _ _).from _).trans ((KeepsOthers.setCell _ _ _).from _))))), HKA.out.trans KS, sa, o + 1, sc, out ++ [i], p, ⟨⟨HLA.out.trans KS.bel, by simpa using hb7, by simpa using ht7, ?_, by rw [List.length_append, hlen']; rfl⟩⟩, ⟨by rw [HMS.out]; exact HI5.out⟩⟩
            rw [List.map_append, ints_append]
            exact hr7
          · have t3 : (p.y == top.y) = false := by simpa using h3
            have HI5 := Kp.mk (HI.out.skip i HLX.out hne (by rw [HPE.out]; exact h1) (by rw [HPE.out]; exact fun h => h3 h.2))
            clear h1 h2 h3 hon
            gi_wp2
            exact ⟨HKF.out, HKA.out, xa, o, xc, out, top, ⟨⟨HLA.out, HOA.out, HTA.out, HRA.out, HM.out.len⟩⟩, ⟨by rw [HMS.out]; exact HI5.out⟩⟩
        · have t2 : (p.x == top.x) = false := by simpa using h2
          have HI5 := Kp.mk (HI.out.skip i HLX.out hne (by rw [HPE.out]; exact h1) (by rw [HPE.out]; exact fun h => h2 h.1))
          clear h1 h2 hon
          gi_wp2
          exact ⟨HKF.out, HKA.out, xa, o, xc, out, top, ⟨⟨HLA.out, HOA.out, HTA.out, HRA.out, HM.out.len⟩⟩, ⟨by rw [HMS.out]; exact HI5.out⟩⟩
  case done =>
    rintro D W hD ⟨xa, o, xc, out, top, HM, HI⟩ hK
    have c5 : W.cell? ⟨bo, 0, none⟩ = some (.slice xa o xc) := HM.out.bxo.cell 0 rfl
    have hol : o ≤ 151 := by
      have h1 := HI.out.sub.length_le
      rw [HM.out.len, met_length O (m + 1) (by rw [HOL.out]; omega)] at h1
      omega
    have hWs : bs + 1 ≤ W.heap.size := by
      have := (Array.getElem?_eq_some_iff.1 hK).1
      omega
    go_wp2_with fail
    refine (reverse_any (bs + 1) xa o xc (out.map Int.ofNat) W HM.out.row (by omega)).mono ?_
    rintro e X ⟨rfl, hrev, hgr⟩
    have hbX := box_grow HM.out.bxo hgr (row_box HM.out.row HM.out.bxo (by decide))
    have c5X : X.cell? ⟨bo, 0, none⟩ = some (.slice xa o xc) := hbX.cell 0 rfl
    have hKX : X.heap[D]? = some (.deferred (some [])) := (rkeeps_own (C := 0) HM.out.row hgr).same D _ (Nat.zero_le _) hK rfl
    have HF := Kp.mk (show Below bo w1 X from HM.out.low.trans (below_of_grown hgr (by omega) (fun q hq => by have := (own_lt HM.out.row q hq).1; omega)))
    have HRV := Kp.mk hrev
    have HLEN := Kp.mk HM.out.len
    clear hrev hgr c5 hK hbX HM
    go_wp2
    have hob := rown_rest HRV.out (grownBy_putObj' X D (.deferred none)) (fun q e => by cases e; exact ⟨_, hKX, rfl⟩)
    refine ⟨by simp, .inl ⟨_, _, rfl, run_takeDeferred hKX, ?_⟩⟩
    refine ⟨.tuple #[.slice xa o xc, .int .i64 0], by simp [results, Tryz.results22, go_sem], xa, o, xc, out, rfl, HIO, ⟨⟨top, HI.out⟩⟩, HLEN, ⟨?_⟩, ?_⟩
    · refine own_sl_len (B := bs + 1) (n := o) ?_ (by rw [List.length_map, List.length_reverse]; exact HLEN.out)
      rw [List.map_reverse]
      exact hob
    · have hk := belowK_b (w := W0) (n₀ := bo) (by omega) X D (.deferred (some [])) (.deferred none) hD hKX rfl rfl
      exact HBB1.out.trans ((HF.out.trans hk).mono (by rw [HBOE.out]; exact HBB1'.out))

theorem sky_any (a : Option Addr) (cap m : Nat) (L : List Pt) (w : World) (h : SlF ptL 3 w a (m + 1) cap L) (hm : m + 1 ≤ 150) (hN : ∀ p ∈ L, p.Near) :
    Calls Tryz.prog 22 #[.slice a (m + 1) cap] w (fun e w' => ∃ ra r rc O S, e = .returned (.tuple #[.slice ra r rc, .int .i64 0]) ∧ Kp (IsOrder L O) ∧ Kp (∃ top, SkyInv (gOf L) (met O (m + 1)) S top) ∧ Kp (S.length = r) ∧ Kp (SlI w' ra rc (S.reverse.map Int.ofNat)) ∧ Below w.heap.size w w') :=
  (sky_det a cap m L w h hm hN).mono fun e w' ⟨ra, r, rc, S, h1, h2, h3, h4, h5, h6⟩ => ⟨ra, r, rc, _, S, h1, h2, h3, h4, h5, h6⟩

end Go.Proofs.YteeeikninigeoaaGreatDoor

