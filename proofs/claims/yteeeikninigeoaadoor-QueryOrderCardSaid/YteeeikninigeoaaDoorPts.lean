/- Points of raw spots; package grid: what points may be. -/
import Derived.Test.YteeeikninigeoaaDoorPtP
import Derived.Shelf.Abstract
namespace Go.Proofs.YteeeikninigeoaaDoor
set_option linter.unusedVariables false
open Go.RowKit

theorem info_pt : (Tryd.prog.info? 43).map (fun i => (i.zero, i.size, i.bytes)) = some (some (.agg #[.int .i64 0, .int .i64 0, .int .i64 0]), 3, 24) := by kernel_rfl
theorem tPts : ElemTy Tryd.prog 40 43 3 24 (.agg #[.int .i64 0, .int .i64 0, .int .i64 0]) :=
  ⟨Tryd.underlying40, by obtain ⟨i0, hi, h0, h1, h2⟩ := info_parts info_pt; exact ⟨i0, hi, h0, h1, h2⟩, rfl, by decide⟩

set_option maxRecDepth 100000 in
set_option maxHeartbeats 2000000 in
theorem points_any (a : Option Addr) (cap m n : Nat) (bound : Int) (L : List Pt) (w : World) (h : SlF ptL 3 w a m cap L) (hm : m ≤ 9223372036854775807) (hn : n ≤ 1000) (h0 : 0 < bound) (h1 : bound ≤ 1000000) (hw : ∀ x ∈ L, x.Wf) :
    Calls Tryd.prog 11 #[.slice a m cap, .int .i64 n, .int .i64 bound] w (fun e w' => ∃ oa oc r, e = .returned (.slice oa r oc) ∧ Kp ((ptsOf L n bound).length = r) ∧ Kp (w'.ownsRow w.heap.size 43 3 (.slice oa r oc) r (flat ptL (ptsOf L n bound))) ∧ Below w.heap.size w w') := by
  have hml : L.length = m := h.len ptL_len (by omega)
  have H := Kp.mk h
  have HW := Kp.mk hw
  have HML := Kp.mk hml
  obtain ⟨B, hB⟩ : ∃ B, B = w.heap.size := ⟨_, rfl⟩
  have HB := Kp.mk hB
  clear h hw hml hB
  go_enter Tryd.func11, Tryd.ntmps11
  go_wp2
  go_loopw [7, 8] (fun v i wr => ∃ (k : Nat) (sa : Option Addr) (sc : Nat), k ≤ m ∧ k ≤ n ∧ i = .int .i64 k ∧ v = .slice sa k sc ∧ Kp (wr.ownsRow B 43 3 (.slice sa k sc) k (flat ptL (ptsOf L k bound))) ∧ Kp (Below B w wr)) (fun _ i _ => m - (intOf i).toNat)
  case atStart => exact ⟨0, none, 0, Nat.zero_le _, Nat.zero_le _, rfl, rfl, ⟨by unfold ptsOf; simp [flat, World.ownsRow_nil]⟩, ⟨Below.refl _ _⟩⟩
  case round =>
    obtain ⟨k, sa, sc, hkm, hkn, rfl, rfl, HO, HBL⟩ := hrel
    by_cases hgo : k < m ∧ k < n
    · obtain ⟨hlt, hltn⟩ := hgo
      obtain ⟨b, off, rfl, hbw, co⟩ := H.out.at ptL_len (by omega) k (by rw [HML.out]; exact hlt)
      rw [← HB.out] at hbw
      have hwf := HW.out _ (List.getElem_mem (show k < L.length by rw [HML.out]; exact hlt))
      have HSU := Kp.mk (ptsOf_succ L k bound (by rw [HML.out]; exact hlt))
      obtain ⟨x, hx⟩ : ∃ x, x = L[k]'(by rw [HML.out]; exact hlt) := ⟨_, rfl⟩
      rw [← hx] at co hwf HSU
      obtain ⟨xx, xy, xw⟩ := x
      obtain ⟨i1, i2⟩ := wf_bd hwf.x
      obtain ⟨i3, i4⟩ := wf_bd hwf.y
      obtain ⟨i5, i6⟩ := wf_bd hwf.w
      dsimp only at i1 i2 i3 i4 i5 i6
      have o0 : wr.cell? ⟨b, off + k * 3, none⟩ = some (.int .i64 xx) := (HBL.out.cell (p := ⟨b, off + k * 3, none⟩) hbw).trans (co 0 (by omega))
      have o1 : wr.cell? ⟨b, off + k * 3 + 1, none⟩ = some (.int .i64 xy) := (HBL.out.cell (p := ⟨b, off + k * 3 + 1, none⟩) hbw).trans (co 1 (by omega))
      have o2 : wr.cell? ⟨b, off + k * 3 + 2, none⟩ = some (.int .i64 xw) := (HBL.out.cell (p := ⟨b, off + k * 3 + 2, none⟩) hbw).trans (co 2 (by omega))
      obtain ⟨q1, h1', l1⟩ : ∃ q, pick xx bound = q ∧ 0 ≤ q ∧ q < bound := ⟨_, rfl, pick_bd xx bound h0⟩
      obtain ⟨q2, h2', l2⟩ : ∃ q, pick xy bound = q ∧ 0 ≤ q ∧ q < bound := ⟨_, rfl, pick_bd xy bound h0⟩
      obtain ⟨q3, h3', l3⟩ : ∃ q, pick xw 20 = q ∧ 0 ≤ q ∧ q < 20 := ⟨_, rfl, pick_bd xw 20 (by omega)⟩
      have HOP := Kp.mk (show ptOf bound ⟨xx, xy, xw⟩ = ⟨q1, q2, q3⟩ from by simp only [ptOf, h1', h2', h3'])
      have C1 := Kp.mk (fun W => h1' ▸ picked_any xx bound W h0 (by omega) i1 i2)
      have C2 := Kp.mk (fun W => h2' ▸ picked_any xy bound W h0 (by omega) i3 i4)
      have C3 := Kp.mk (fun W => h3' ▸ picked_any xw 20 W (by omega) (by omega) i5 i6)
      have hBw : B ≤ wr.heap.size := by rw [HB.out]; exact HBL.out.size
      have HKS := Kp.mk (fun (w' : World) (hgr : (wr.alloc (.cells #[.int .i64 q1, .int .i64 q2, .int .i64 q3] 43)).drew.grownBy w' (blk sa)) => show w'.cell? ⟨b, off + k * 3, none⟩ = some (.int .i64 xx) ∧ w'.cell? ⟨b, off + k * 3 + 1, none⟩ = some (.int .i64 xy) ∧ w'.cell? ⟨b, off + k * 3 + 2, none⟩ = some (.int .i64 xw) from by
        have hbel := pushed_below HO.out hBw hgr
        exact ⟨(hbel.cell (p := ⟨b, off + k * 3, none⟩) hbw).trans o0, (hbel.cell (p := ⟨b, off + k * 3 + 1, none⟩) hbw).trans o1, (hbel.cell (p := ⟨b, off + k * 3 + 2, none⟩) hbw).trans o2⟩)
      clear co hwf hx h1' h2' h3'
      go_wp2
      go_region_held3 (fun w' => w'.cell? ⟨b, off + k * 3, none⟩ = some (.int .i64 xx) ∧ w'.cell? ⟨b, off + k * 3 + 1, none⟩ = some (.int .i64 xy) ∧ w'.cell? ⟨b, off + k * 3 + 2, none⟩ = some (.int .i64 xw))
        (first | exact ⟨o0, o1, o2⟩ | go_keep | exact hS7)
        ((first
          | (go_at_call 6; (first | (with_reducible refine (C1.out _).mono ?_) | (with_reducible refine (C2.out _).mono ?_) | (with_reducible refine (C3.out _).mono ?_)); rintro e w' ⟨rfl, rfl⟩)
          | (refine step_push tPts (by rfl) _ _ (by rfl) B sa k sc _ (by rfl) ((HO.out.alloc _).drew) 1 wr.heap.size _ (heap_alloc_new wr _) (by rfl) (by rfl) (by simp [Value.oneCell']) (by omega) (by omega) (by omega) (by show B ≤ (wr.alloc _).heap.size; rw [alloc_size]; omega) ?_; intro sa' cap' w' hown' hgr hno; have hS7 := HKS.out w' hgr)))
      all_goals
        have HO7 := Kp.mk (show w'.ownsRow B 43 3 (.slice sa' (k + 1) cap') (k + 1) (flat ptL (ptsOf L (k + 1) bound)) from by
          rw [HSU.out, flat_append, HOP.out]
          have e : flat ptL [(⟨q1, q2, q3⟩ : Pt)] = [.int .i64 q1, .int .i64 q2, .int .i64 q3] := by
            simp [flat, ptL]
          rw [e]; exact hown')
        have HB7 := Kp.mk (HBL.out.trans (pushed_below HO.out hBw hgr))
        clear hown' hgr hno hS7
        go_wp2
        go_roundw
        case rel => exact ⟨k + 1, sa', cap', by omega, by omega, by go_num, rfl, HO7, HB7⟩
        case measure => simp [intOf]; omega
    · have hfin : Kp (ptsOf L n bound = ptsOf L k bound ∧ (ptsOf L k bound).length = k) := by
        refine ⟨?_, by rw [ptsOf_length, HML.out]; omega⟩
        unfold ptsOf
        by_cases h : k < m
        · rw [show k = n by omega]
        · rw [List.take_of_length_le (by rw [HML.out]; omega), List.take_of_length_le (by rw [HML.out]; omega)]
      have hor : (k < m ∧ ¬ k < n) ∨ ¬ k < m := by
        by_cases h1 : k < m
        · exact .inl ⟨h1, fun h2 => hgo ⟨h1, h2⟩⟩
        · exact .inr h1
      clear hgo
      rcases hor with ⟨hlt, hm60⟩ | hlt
      all_goals
        go_wp2
        go_ret
        refine ⟨sa, sc, k, rfl, ⟨by rw [hfin.out.1]; exact hfin.out.2⟩, ⟨?_⟩, ?_⟩
        · rw [hfin.out.1, ← HB.out]; exact HO.out
        · rw [← HB.out]; exact HBL.out

theorem near_any (x : Int) (w : World) (h1 : -1048576 ≤ x) (h2 : x ≤ 1048576) :
    Calls Tryd.prog 38 #[.int .i64 x] w fun e w' => e = .returned (.bool true) ∧ w = w' := by
  have h1' : decide (-1048576 ≤ x) = true := decide_eq_true h1
  have h2' : decide (x ≤ 1048576) = true := decide_eq_true h2
  go_enter Tryd.func38, Tryd.ntmps38
  go_wp2
  go_ret
  exact ⟨rfl, rfl⟩

theorem odd_any (p : Pt) (w : World) (h : p.Near) :
    Calls Tryd.prog 37 #[.agg #[.int .i64 p.x, .int .i64 p.y, .int .i64 p.w]] w fun e w' => e = .returned (.bool false) ∧ w.alloc (.cells #[.int .i64 p.x, .int .i64 p.y, .int .i64 p.w] 43) = w' := by
  obtain ⟨x, y, z⟩ := p
  obtain ⟨⟨a1, a2⟩, ⟨b1, b2⟩, ⟨c1, c2⟩⟩ := h
  have C1 := Kp.mk (fun W => near_any x W a1 a2)
  have C2 := Kp.mk (fun W => near_any y W b1 b2)
  have C3 := Kp.mk (fun W => near_any z W c1 c2)
  clear a1 a2 b1 b2 c1 c2
  dsimp only
  go_enter Tryd.func37, Tryd.ntmps37
  go_wp2_with (go_at_call 38; (first | (with_reducible refine (C1.out _).mono ?_) | (with_reducible refine (C2.out _).mono ?_) | (with_reducible refine (C3.out _).mono ?_)); rintro e w' ⟨rfl, rfl⟩)
  go_ret
  exact ⟨rfl, rfl⟩

set_option maxHeartbeats 1000000 in
theorem noOdd_any (a : Option Addr) (cap n : Nat) (L : List Pt) (w : World) (h : SlF ptL 3 w a n cap L) (hn : n ≤ 1000000) (hN : ∀ p ∈ L, p.Near) :
    Calls Tryd.prog 45 #[.slice a n cap, .func (.func 37) #[] #[]] w fun e w' => e = .returned (.int .i64 (-1)) ∧ Kp (Below w.heap.size w w') := by
  have HLn := Kp.mk (h.len ptL_len (by omega))
  have H := Kp.mk h
  have HN := Kp.mk hN
  have eg : ∀ args w, (callFunc 37 args).run Tryd.prog w = .ok (.enter 37 args) w := enters_of Tryd.func37 (by kernel_rfl) rfl
  clear h hN
  go_enter Tryd.func45, Tryd.ntmps45
  go_wp2
  go_loopw [8] (fun i wr => ∃ k : Nat, k ≤ n ∧ i = .int .i64 k ∧ Kp (Below w.heap.size w wr)) (fun i _ => n - (intOf i).toNat)
  case atStart => exact ⟨0, Nat.zero_le _, rfl, ⟨Below.refl _ _⟩⟩
  case round =>
    obtain ⟨k, hk, rfl, HB⟩ := hrel
    by_cases hlt : k < n
    · obtain ⟨b, off, rfl, hbw, co⟩ := (H.out.below HB.out).at ptL_len (by omega) k (by rw [HLn.out]; exact hlt)
      have hm := HN.out _ (List.getElem_mem (show k < L.length by rw [HLn.out]; exact hlt))
      generalize L[k]'(by rw [HLn.out]; exact hlt) = p at *
      have C := Kp.mk (odd_any p wr hm)
      have o0 : wr.cell? ⟨b, off + k * 3, none⟩ = some (.int .i64 p.x) := co 0 (by omega)
      have o1 : wr.cell? ⟨b, off + k * 3 + 1, none⟩ = some (.int .i64 p.y) := co 1 (by omega)
      have o2 : wr.cell? ⟨b, off + k * 3 + 2, none⟩ = some (.int .i64 p.w) := co 2 (by omega)
      clear co hm
      go_wp2_with (go_at_fn 37; refine C.out.mono ?_; rintro e w' ⟨rfl, rfl⟩)
      have HB2 := Kp.mk (HB.out.alloc (by exact HB.out.size) (.cells #[.int .i64 p.x, .int .i64 p.y, .int .i64 p.w] 43))
      go_roundw
      case rel => exact ⟨k + 1, by omega, by go_num, HB2⟩
      case measure => simp [intOf]; omega
    · go_wp2
      go_ret
      exact ⟨rfl, HB⟩

theorem noneOdd_any (a : Option Addr) (cap n : Nat) (L : List Pt) (w : World) (h : SlF ptL 3 w a n cap L) (hn : n ≤ 1000000) (hN : ∀ p ∈ L, p.Near) :
    Calls Tryd.prog 36 #[.slice a n cap, .func (.func 37) #[] #[]] w fun e w' => e = .returned (.bool false) ∧ Kp (Below w.heap.size w w') := by
  have C := Kp.mk (noOdd_any a cap n L w h hn hN)
  clear h hN
  go_enter Tryd.func36, Tryd.ntmps36
  go_wp2_with fail
  refine C.out.mono ?_
  rintro e w1 ⟨rfl, HB⟩
  go_wp2
  go_ret
  exact ⟨rfl, HB⟩

theorem gcheck_any (a : Option Addr) (cap n : Nat) (L : List Pt) (w : World) (h : SlF ptL 3 w a n cap L) (hn : n ≤ 150) (hN : ∀ p ∈ L, p.Near) :
    Calls Tryd.prog 27 #[.slice a n cap] w fun e w' => e = .returned (.int .i64 0) ∧ Kp (Below w.heap.size w w') := by
  have C := Kp.mk (noneOdd_any a cap n L w h (by omega) hN)
  have hn' : ¬ (150 < (n : Int)) := by omega
  clear h hN
  go_enter Tryd.func27, Tryd.ntmps27
  go_wp2_with fail
  refine C.out.mono ?_
  rintro e w1 ⟨rfl, HB⟩
  go_wp2
  go_ret
  exact ⟨rfl, HB⟩

end Go.Proofs.YteeeikninigeoaaDoor
