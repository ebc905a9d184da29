import Derived.Test.YtedchegejalolaaGreatDoorMb4
import Derived.Test.YtedchegejalolaaGreatDoorMb27
import Derived.Test.YtedchegejalolaaGreatDoorMb13
import Derived.Test.YtedchegejalolaaGreatDoorMb25
import Derived.Test.YtedchegejalolaaGreatDoorMb16
/- desk: area. -/
namespace Go.Proofs.YtedchegejalolaaGreatDoor.Dk
set_option linter.unusedVariables false
open Go.RowKit
open Pick (crn nxt areaS crossP)

theorem hfault_none (a : Option Addr) (cap : Nat) (w : World) (h : SlF ptL 3 w a 0 cap []) :
    Calls Tryz.prog 56 #[.slice a 0 cap] w fun e w' => ∃ code : Int, code ≠ 0 ∧ e = .returned (.int .i64 code) ∧ Kp (Below w.heap.size w w') := by
  have C := Kp.mk (gcheck_any a cap 0 [] w h (by omega) (by simp))
  clear h
  go_enter Tryz.func56, Tryz.ntmps56
  go_wp2_with fail
  refine C.out.mono ?_
  rintro e w' ⟨rfl, HB⟩
  go_wp2
  go_ret
  exact ⟨_, by decide, rfl, HB⟩
theorem hArea_none (a : Option Addr) (cap : Nat) (w : World) (h : SlF ptL 3 w a 0 cap []) :
    Calls Tryz.prog 37 #[.slice a 0 cap] w fun e w' => ∃ code : Int, code ≠ 0 ∧ e = .returned (.tuple #[.int .i64 0, .int .i64 code]) ∧ Kp (Below w.heap.size w w') := by
  have C := Kp.mk (hfault_none a cap w h)
  clear h
  go_enter Tryz.func37, Tryz.ntmps37
  go_wp2_with fail
  refine C.out.mono ?_
  rintro e w' ⟨code, hc, rfl, HB⟩
  have hc2 : (code == 0) = false := by rw [beq_eq_false_iff_ne]; exact hc
  have hc3 : (code != 0) = true := by simpa using hc
  go_wp2
  refine bodyPost_ret (v := .tuple #[.int .i64 0, .int .i64 code]) (by simp [results, Tryz.results37, go_sem]) rfl ?_
  exact ⟨code, hc, rfl, HB⟩
def areaW : Wd := [97, 114, 101, 97]
noncomputable def areaG (L : List Pt) : Int := if -17592186044416000 ≤ areaF L ∧ areaF L ≤ 17592186044416000 then areaF L else 0
theorem areaG_bd (L : List Pt) : -17592186044416000 ≤ areaG L ∧ areaG L ≤ 17592186044416000 := by
  unfold areaG
  split
  · assumption
  · omega
theorem areaG_eq {L : List Pt} {v : Int} (h : AreaOf L v) (hb : -17592186044416000 ≤ v ∧ v ≤ 17592186044416000) : v = areaG L := by
  have e := areaF_eq h
  rw [e] at hb
  unfold areaG
  rw [if_pos hb]
  exact e
noncomputable def areaT (L : List Pt) : Wd := if L.length = 0 then noneW else toldT areaW [areaG L]
theorem area_bd {L : List Pt} (hN : ∀ p ∈ L, p.Near) {K C : List Nat} (h : IsCorners L K C) (hl : C.length ≤ 2000) : -17592186044416000 ≤ areaS (C.map (ptAt L)) (C.map (ptAt L)).length ∧ areaS (C.map (ptAt L)) (C.map (ptAt L)).length ≤ 17592186044416000 := by
  have := areaS_bd (D := C.map (ptAt L)) (fun i hi => by
    rw [List.length_map] at hi
    rw [getD_pts L C i hi]
    exact hN _ (ptAt_mem (corners_lt h i hi))) _ (Nat.le_refl _)
  rw [List.length_map] at this ⊢
  omega
set_option maxRecDepth 100000 in
set_option maxHeartbeats 4000000 in
theorem area_any (B db pc : Nat) (pa : Option Addr) (L : List Pt) (w : World) (h : DS w B db pa pc L) (hL : L.length ≤ 150) (hN : ∀ p ∈ L, p.Near) (hT : Tab w) :
    Calls Tryz.prog 22 #[.pointer (some ⟨db, 0, none⟩)] w fun e w' => e = .returned (str (areaT L)) ∧ Kp (Below w.heap.size w w') := by
  have k0 : w.cell? ⟨db, 0, none⟩ = some (.slice pa L.length pc) := h.box.cell 0 rfl
  have hs : SlF ptL 3 w pa L.length pc L := own_slc h.row
  have HT := Kp.mk hT
  have HNR := Kp.mk hN
  obtain ⟨n, hn⟩ : ∃ n, L.length = n := ⟨_, rfl⟩
  unfold areaT
  rw [hn] at k0 hs hL ⊢
  clear h hN hT
  by_cases h0 : n = 0
  · subst h0
    obtain rfl : L = [] := List.length_eq_zero_iff.1 hn
    have CA := Kp.mk (hArea_none pa pc w hs)
    rw [if_pos rfl]
    clear hs hn hL
    go_enter Tryz.func22, Tryz.ntmps22
    go_wp2_with fail
    refine CA.out.mono ?_
    rintro e w1 ⟨code, hc, rfl, HB⟩
    have hc2 : (code == 0) = false := by rw [beq_eq_false_iff_ne]; exact hc
    have hc3 : (code != 0) = true := by simpa using hc
    clear CA
    go_wp2
    go_ret
    exact ⟨rfl, HB⟩
  · obtain ⟨m, rfl⟩ : ∃ m, n = m + 1 := ⟨n - 1, by omega⟩
    have CA := Kp.mk (hArea_core pa pc m L w hs hL HNR.out)
    rw [if_neg h0]
    clear hs hn hL h0
    go_enter Tryz.func22, Tryz.ntmps22
    go_wp2_with fail
    refine CA.out.mono ?_
    rintro e w1 ⟨K, C, rfl, HC, hl, HB1⟩
    have hbd := area_bd HNR.out HC.out hl
    have he := areaG_eq ⟨K, C, HC.out, rfl⟩ hbd
    generalize areaS (C.map (ptAt L)) (C.map (ptAt L)).length = v at *
    obtain ⟨b1, b2⟩ := hbd
    have HE := Kp.mk he
    have hal := below_alloc (Nat.le_refl w1.heap.size) (.cells #[.int .i64 v] 3)
    have HAL := Kp.mk (below_step HB1.out hal)
    have CT := Kp.mk (told_any areaW (by decide) (some ⟨w1.heap.size, 0, none⟩) 1 1 [v] (w1.alloc (.cells #[.int .i64 v] 3)) (own_slc (B := 0) (e := 3) ⟨rfl, .inr ⟨w1.heap.size, 1, #[.int .i64 v], rfl, Nat.zero_le _, heap_alloc_new w1 _, Nat.le_refl _, by decide, rfl, rfl⟩⟩) rfl (by omega) (fun z hz => by rw [List.mem_singleton.1 hz]; omega) (HT.out.below HAL.out))
    clear CA k0 hal he HC
    go_wp2_with fail
    refine CT.out.mono ?_
    rintro e w2 ⟨rfl, HB2⟩
    have HB := Kp.mk (below_step HAL.out HB2.out)
    clear CT HAL
    go_wp2
    go_ret
    exact ⟨by rw [← HE.out]; rfl, HB⟩

end Go.Proofs.YtedchegejalolaaGreatDoor.Dk

/- A comparison of two places by x, y and place: the walk of the closure. -/
namespace Go.Proofs.YtedchegejalolaaGreatDoor
set_option linter.unusedVariables false
open Go.RowKit Go.Sort

set_option maxRecDepth 100000 in
set_option maxHeartbeats 2000000 in
theorem skyOrd_any (bs : Nat) (a : Option Addr) (cap n x y : Nat) (L : List Pt) (w : World) (h : SlF ptL 3 w a n cap L) (hn : n ≤ 1000) (hb : w.cell? ⟨bs, 0, none⟩ = some (.slice a n cap)) (hx : x < n) (hy : y < n) :
    Calls Tryz.prog 81 #[.int .i64 x, .int .i64 y, .pointer (some ⟨bs, 0, none⟩)] w fun e w' => e = .returned (.int .i64 (cmpP L x y)) ∧ ∃ q os, w' = grow (w.drewN q) os := by
  have hl := h.len ptL_len (by omega)
  obtain ⟨b, off, rfl, hbw, cx⟩ := h.at ptL_len (by omega) x (by omega)
  obtain ⟨_, _, e1, _, cy⟩ := h.at ptL_len (by omega) y (by omega)
  simp only [Option.some.injEq, Addr.mk.injEq, and_true] at e1
  obtain ⟨rfl, rfl⟩ := e1
  rw [← getD_at L pt0 (by omega)] at cx cy
  have HP := Kp.mk (show cmpP L x y = or3 (cmpI (L.getD x pt0).x (L.getD y pt0).x) (cmpI (L.getD x pt0).y (L.getD y pt0).y) (cmpI x y) from rfl)
  generalize L.getD x pt0 = p at *
  generalize L.getD y pt0 = q at *
  have x0 : w.cell? ⟨b, off + x * 3, none⟩ = some (.int .i64 p.x) := cx 0 (by omega)
  have x1 : w.cell? ⟨b, off + x * 3 + 1, none⟩ = some (.int .i64 p.y) := cx 1 (by omega)
  have y0 : w.cell? ⟨b, off + y * 3, none⟩ = some (.int .i64 q.x) := cy 0 (by omega)
  have y1 : w.cell? ⟨b, off + y * 3 + 1, none⟩ = some (.int .i64 q.y) := cy 1 (by omega)
  have C1 := Kp.mk (fun W => q_eq (compare_any p.x q.x W))
  have C2 := Kp.mk (fun W => q_eq (compare_any p.y q.y W))
  have C3 := Kp.mk (fun W => q_eq (compare_any (x : Int) (y : Int) W))
  rw [HP.out]
  clear h cx cy HP hl
  generalize cmpI p.x q.x = c1 at *
  generalize cmpI p.y q.y = c2 at *
  generalize cmpI (x : Int) (y : Int) = c3 at *
  go_enter Tryz.func81, Tryz.ntmps81
  go_wp2
  go_still_tail 25, (by kernel_rfl)
  still_call (C1.out _)
  repeat still_step
  still_call (C2.out _)
  repeat still_step
  still_call (C3.out _)
  try refine wpStill_nil ?_
  have bx := Box.new w.drew #[.int .i64 c1, .int .i64 c2, .int .i64 c3] 3
  have CO := Kp.mk (or3_any w.heap.size c1 c2 c3 (w.drew.alloc (.cells #[.int .i64 c1, .int .i64 c2, .int .i64 c3] 3)) (bx.cell 0 rfl) (bx.cell 1 rfl) (bx.cell 2 rfl))
  clear bx
  go_wp2_with fail
  refine CO.out.mono ?_
  rintro e w' ⟨rfl, rfl⟩
  go_wp2
  go_ret
  exact ⟨rfl, 1, #[.cells #[.int .i64 c1, .int .i64 c2, .int .i64 c3] 3], by rw [alloc_eq_grow, drew_grow]; rfl⟩

end Go.Proofs.YtedchegejalolaaGreatDoor

/- Package sky: the walk of sorted. -/
namespace Go.Proofs.YtedchegejalolaaGreatDoor
set_option linter.unusedVariables false
open Go.RowKit Go.Sort

end Go.Proofs.YtedchegejalolaaGreatDoor

/- Package sky: the walk of Layers. -/
namespace Go.Proofs.YtedchegejalolaaGreatDoor
set_option linter.unusedVariables false
open Go.RowKit

/-- The memory of Layers within its loop. -/
structure LayMem (n0 B3 g gc : Nat) (w wr : World) (a : Option Addr) (cap n : Nat) (L : List Pt) (oa : Option Addr) (oc : Nat) (O : List Nat) (R : List Nat) (ta : Option Addr) (t tc : Nat) (tops : List Int) : Prop where
  ps : SlF ptL 3 wr a n cap L
  ord : SlI wr oa oc (O.map Int.ofNat)
  out : wr.ownsRow n0 3 1 (.slice (some ⟨g, 0, none⟩) n gc) n (ints (R.map Int.ofNat))
  tops : wr.ownsRow B3 3 1 (.slice ta t tc) t (ints tops)
  bel : Below n0 w wr
  psb : ∀ k, blk a = some k → k < n0
  ordb : ∀ k, blk oa = some k → k < B3 ∧ k ≠ g
  gb : n0 ≤ g ∧ g < B3
  sz : B3 ≤ wr.heap.size
section
variable {n0 B3 g gc : Nat} {w wr w' : World} {a : Option Addr} {cap n : Nat} {L : List Pt} {oa : Option Addr} {oc : Nat} {O R : List Nat} {ta : Option Addr} {t tc : Nat} {tops : List Int}
theorem LayMem.below (h : LayMem n0 B3 g gc w wr a cap n L oa oc O R ta t tc tops) (hb : Below wr.heap.size wr w') : LayMem n0 B3 g gc w w' a cap n L oa oc O R ta t tc tops :=
  ⟨h.ps.below hb, h.ord.below hb, own_below h.out hb, own_below h.tops hb, h.bel.trans (hb.mono (by have := h.sz; have := h.gb; omega)), h.psb, h.ordb, h.gb, Nat.le_trans h.sz hb.size⟩
theorem LayMem.push {ta' : Option Addr} {t' tc' : Nat} {tops' : List Int} (h : LayMem n0 B3 g gc w wr a cap n L oa oc O R ta t tc tops) (hg : wr.grownBy w' (blk ta)) (ho : w'.ownsRow B3 3 1 (.slice ta' t' tc') t' (ints tops')) : LayMem n0 B3 g gc w w' a cap n L oa oc O R ta' t' tc' tops' := by
  have hlt := own_lt h.tops
  have hgb := h.gb
  refine ⟨SlC.keep h.ps hg (fun k hk e => ?_), SlC.keep h.ord hg (fun k hk e => ?_), own_keep h.out hg (fun k hk e => ?_), ho, h.bel.trans (below_of_grown hg (by have := h.sz; omega) (fun k hk => by have := (hlt k hk).1; omega)), h.psb, h.ordb, h.gb, Nat.le_trans h.sz hg.size⟩
  · have := h.psb k e; have := (hlt k hk).1; omega
  · have := h.ordb k e; have := (hlt k hk).1; omega
  · have := (hlt k hk).1
    simp only [blk, Option.map_some, Option.some.injEq] at e
    omega
theorem LayMem.store {tb i : Nat} {x : Int} (h : LayMem n0 B3 g gc w wr a cap n L oa oc O R (some ⟨tb, 0, none⟩) t tc tops) : LayMem n0 B3 g gc w (wr.setCell ⟨tb, i, none⟩ (.int .i64 x)) a cap n L oa oc O R (some ⟨tb, 0, none⟩) t tc (tops.set i x) := by
  refine h.push (grown_set wr tb i _) ?_
  rw [← ints_set]
  exact (h.tops.stored i (.int .i64 x)).1
theorem LayMem.put {i x : Nat} (h : LayMem n0 B3 g gc w wr a cap n L oa oc O R ta t tc tops) : LayMem n0 B3 g gc w (wr.setCell ⟨g, i, none⟩ (.int .i64 (x : Int))) a cap n L oa oc O (R.set i x) ta t tc tops := by
  have hg := grown_set wr g i (.int .i64 (x : Int))
  have hgb := h.gb
  refine ⟨SlC.keep h.ps hg (fun k hk e => ?_), SlC.keep h.ord hg (fun k hk e => ?_), ?_, own_keep h.tops hg (fun k hk e => ?_), h.bel.trans (below_of_grown hg (by have := h.sz; omega) (fun k hk => by cases hk; exact hgb.1)), h.psb, h.ordb, h.gb, Nat.le_trans h.sz hg.size⟩
  · cases hk; have := h.psb _ e; omega
  · cases hk; exact (h.ordb _ e).2 rfl
  · rw [List.map_set, ← ints_set]
    exact (h.out.stored i (.int .i64 (x : Int))).1
  · cases hk; have := (own_lt h.tops _ e).1; omega
theorem LayMem.box {bp : Nat} {cs : Array Value} {T : TypeId} (h : LayMem n0 B3 g gc w wr a cap n L oa oc O R ta t tc tops) (hb : Box wr bp cs T) (hg : wr.grownBy w' (blk ta)) (hne : T ≠ 3) : Box w' bp cs T :=
  (hg.block bp hb.lt (fun e => by
    rcases h.tops.2 with ⟨hv, _⟩ | ⟨g', _, _, hv, _, hgb, _⟩
    · simp only [Value.slice.injEq] at hv; rw [hv.1] at e; cases e
    · simp only [Value.slice.injEq] at hv
      rw [hv.1] at e
      simp only [blk, Option.map_some, Option.some.injEq] at e
      subst e
      have hb' : wr.heap[bp]? = some (.cells cs T (0, 0)) := hb
      rw [hgb] at hb'
      cases hb'
      exact hne rfl)).trans hb
end
/-- Those of an order that were met, from its end on. -/
def met (O : List Nat) (j : Nat) : List Nat := O.reverse.take j
theorem met_succ (O : List Nat) (j : Nat) (h : j < O.length) : met O (j + 1) = met O j ++ [O.getD (O.length - 1 - j) 0] := by
  unfold met
  rw [List.take_succ_eq_append_getElem (by rw [List.length_reverse]; exact h), List.getElem_reverse, getD_at _ _ (by omega)]
theorem met_length (O : List Nat) (j : Nat) (h : j ≤ O.length) : (met O j).length = j := by
  unfold met
  rw [List.length_take, List.length_reverse]; omega
theorem met_mem {O : List Nat} {j d : Nat} (h : d ∈ met O j) : ∃ i, i < O.length ∧ O.length - j ≤ i ∧ O.getD i 0 = d := by
  unfold met at h
  obtain ⟨i, hi, rfl⟩ := List.getElem_of_mem h
  rw [List.length_take, List.length_reverse] at hi
  refine ⟨O.length - 1 - i, by omega, by omega, ?_⟩
  rw [List.getElem_take, List.getElem_reverse, getD_at _ _ (by omega)]
/-- What stands ahead in the order is not to the right. -/
theorem IsOrder.lex {L : List Pt} {O : List Nat} (h : IsOrder L O) {j : Nat} (hj : j < O.length) : ∀ d ∈ met O j, lexLe (L.getD (O.getD (O.length - 1 - j) 0) pt0) (L.getD d pt0) := by
  intro d hd
  obtain ⟨i, h1, h2, rfl⟩ := met_mem hd
  exact h.up (O.length - 1 - j) i (by omega) h1
theorem IsOrder.all {L : List Pt} {O : List Nat} (h : IsOrder L O) : ∀ i, i < L.length → i ∈ met O O.length := by
  intro i hi
  unfold met
  rw [List.take_of_length_le (by simp), List.mem_reverse]
  exact h.perm.mem_iff.2 (List.mem_range.2 hi)
def gOf (L : List Pt) (d : Nat) : Pt := L.getD d pt0

end Go.Proofs.YtedchegejalolaaGreatDoor

