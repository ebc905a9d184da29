/- Package ranks: Make, Find. -/
import Derived.Test.YteeeikninigeoaaDoorSrt2
import Derived.Test.YteeeikninigeoaaDoorClone
import Derived.Test.YteeeikninigeoaaDoorSInt
namespace Go.Proofs.YteeeikninigeoaaDoor
set_option linter.unusedVariables false
open Go.RowKit

/-- sort.SearchInts: the rank. -/
theorem srank_any (a : Option Addr) (cap n : Nat) (V : List Int) (x : Int) (w : World) (h : SlI w a cap V) (hl : V.length = n) (hn : n ≤ 100000) (hu : Up V) :
    Calls Tryd.prog 78 #[.slice a n cap, .int .i64 x] w fun e w' => ∃ k : Nat, e = .returned (.int .i64 k) ∧ Kp (IsRk V x k) ∧ Kp (Below w.heap.size w w') :=
  (srchInts_any a cap n V x w h hl hn (fun i j hij hj => up_le hu hij (by rw [hl]; exact hj))).mono fun e w' ⟨k, h1, h2, h3, h4, h5⟩ => ⟨k, h1, ⟨by rw [hl]; exact h2, h3.out, by rw [hl]; exact h4.out⟩, h5⟩

set_option maxRecDepth 100000 in
set_option maxHeartbeats 2000000 in
theorem rmake_any (a : Option Addr) (cap n : Nat) (l : List Int) (w : World) (h : SlI w a cap l) (hl : l.length = n) (hn : n ≤ 300) :
    Calls Tryd.prog 60 #[.slice a n cap] w fun e w' => ∃ va v vc ra rc R, e = .returned (.tuple #[.slice va v vc, .slice ra n rc, .int .i64 0]) ∧ Kp ((valL l).length = v) ∧ Kp (SlI w' va vc (valL l)) ∧ Kp (SlI w' ra rc (R.map Int.ofNat)) ∧ Kp (Rks l (valL l) R) ∧ Kp (Below w.heap.size w w') := by
  have hal := below_alloc (Nat.le_refl w.heap.size) (.cells #[.slice a n cap] 22)
  have hbx := (Box.new w #[.slice a n cap] 22).cell 0 rfl
  have CS := Kp.mk (sorted_any a cap n w.heap.size l w _ h hl (by omega) hal hbx)
  have H := Kp.mk h
  have HL := Kp.mk hl
  have HA := Kp.mk hal
  have hn' : ¬ (300 < (n : Int)) := by omega
  clear h hl hal hbx
  go_enter Tryd.func60, Tryd.ntmps60
  go_wp2_with fail
  refine (values_any a n cap w).mono ?_
  rintro e w' ⟨rfl, rfl⟩
  go_wp2_with fail
  refine CS.out.mono ?_
  rintro e w1 ⟨sa, sc, rfl, HS, HB1⟩
  have hs1 : (w.alloc (.cells #[.slice a n cap] 22)).heap.size ≤ w1.heap.size := HB1.out.size
  go_wp2_with fail
  refine (compact_own _ sa sc n _ w1 HS.out (by rw [List.length_mergeSort]; exact HL.out) (by omega) hs1).mono ?_
  rintro e w2 ⟨v, rfl, hv, HV, HB2⟩
  have HVL := Kp.mk (show (valL l).length = v from by unfold valL; exact hv.symm)
  have HVS := Kp.mk (show SlI w2 sa sc (valL l) from by
    have := own_sl_len HV.out hv.symm
    unfold valL; exact this)
  have HBW := Kp.mk (show Below w.heap.size w w2 from HA.out.trans ((HB1.out.trans HB2.out).mono (by rw [alloc_size]; omega)))
  have HVU := Kp.mk (valL_up l)
  have hv3 : v ≤ 300 := by have := valL_length l; have := HVL.out; have := HL.out; omega
  obtain ⟨B, hB⟩ : ∃ B, B = w2.heap.size := ⟨_, rfl⟩
  have HBE := Kp.mk hB
  obtain ⟨V, hVe⟩ : ∃ V, V = valL l := ⟨_, rfl⟩
  rw [← hVe] at HVL HVS HVU
  have HVE := Kp.mk hVe
  clear CS HS HB1 HB2 HV hv hB hs1 HA hVe
  go_wp2
  go_loopw [3, 16] (fun x i wr => ∃ (k : Nat) (ra : Option Addr) (rc : Nat) (R : List Nat), k ≤ n ∧ i = .int .i64 k ∧ x = .slice ra k rc ∧ Kp (R.length = k) ∧ Kp (∀ i, i < k → IsRk V (l.getD i 0) (R.getD i 0)) ∧ Kp (wr.ownsRow B 3 1 (.slice ra k rc) k (ints (R.map Int.ofNat))) ∧ Kp (Below B w2 wr)) (fun _ i _ => n - (intOf i).toNat)
  case atStart => exact ⟨0, none, 0, [], Nat.zero_le _, rfl, rfl, ⟨rfl⟩, ⟨fun i hi => by omega⟩, ⟨World.ownsRow_nil _ _ _ _⟩, ⟨Below.refl _ _⟩⟩
  case round =>
    obtain ⟨k, ra, rc, R, hk, rfl, rfl, HRL, HRK, HO, HBL⟩ := hrel
    have hb2r : Below w2.heap.size w2 wr := by rw [← HBE.out]; exact HBL.out
    by_cases hlt : k < n
    · obtain ⟨b, off, rfl, cx⟩ := (H.out.below (HBW.out.trans (hb2r.mono HBW.out.size))).at k (by rw [HL.out]; exact hlt)
      have hbW : B ≤ wr.heap.size := by rw [HBE.out]; exact hb2r.size
      have hg := getD_at l 0 (show k < l.length by rw [HL.out]; exact hlt)
      have CR := Kp.mk (srank_any sa sc v V (l[k]'(by rw [HL.out]; exact hlt)) wr (HVS.out.below hb2r) HVL.out (by omega) HVU.out)
      have HG := Kp.mk hg
      generalize l[k]'(by rw [HL.out]; exact hlt) = x at *
      clear hg
      go_wp2_with fail
      refine CR.out.mono ?_
      rintro e w3 ⟨r, rfl, HIR, HB3⟩
      have HO3 := Kp.mk (own_below HO.out HB3.out)
      have HBL3 := Kp.mk (HBL.out.trans (HB3.out.mono hbW))
      have hb3 : B ≤ w3.heap.size := Nat.le_trans hbW HB3.out.size
      clear CR HO cx
      go_wp2_with (at_builtin; refine wpList_push tInts rfl _ _ rfl B ra k rc _ rfl HO3.out 1 1 _ rfl rfl ?d1 (by decide) ?d2 (by decide) hb3 ?d4)
      case d1 => simp [Value.oneCell']
      case d2 => omega
      case d4 =>
        intro ya yc w4 ho4 hb4
        have HO4 := Kp.mk (show w4.ownsRow B 3 1 (.slice ya (k + 1) yc) (k + 1) (ints ((R ++ [r]).map Int.ofNat)) from by
          rw [List.map_append, ints_append]; exact ho4)
        have HRK4 := Kp.mk (show ∀ i, i < k + 1 → IsRk V (l.getD i 0) ((R ++ [r]).getD i 0) from fun i hi => by
          by_cases hik : i = k
          · subst hik
            rw [HG.out, show (R ++ [r]).getD i 0 = r by rw [getD_at _ _ (by rw [List.length_append, HRL.out]; simp), List.getElem_append_right (by rw [HRL.out]; exact Nat.le_refl _)]; simp]
            exact HIR.out
          · have hi' : i < k := by omega
            rw [show (R ++ [r]).getD i 0 = R.getD i 0 by rw [getD_at _ _ (by rw [List.length_append, HRL.out]; simp; omega), getD_at _ _ (by rw [HRL.out]; exact hi'), List.getElem_append_left]]
            exact HRK.out i hi')
        have HRL4 := Kp.mk (show (R ++ [r]).length = k + 1 by rw [List.length_append, HRL.out]; rfl)
        have HBL4 := Kp.mk (HBL3.out.trans hb4)
        clear ho4 hb4
        go_wp2
        go_roundw
        case rel => exact ⟨k + 1, ya, yc, R ++ [r], by omega, by go_num, rfl, HRL4, HRK4, HO4, HBL4⟩
        case measure => simp [intOf]; omega
    · obtain rfl : k = n := by omega
      have HVr := Kp.mk (HVS.out.below hb2r)
      have HBr := Kp.mk (HBW.out.trans (hb2r.mono HBW.out.size))
      go_wp2_with fail
      refine (clone_any sa sc v V wr HVr.out HVL.out (by omega)).mono ?_
      rintro e w3 ⟨ca, cc, rfl, hcl, hb3⟩
      have HC := Kp.mk hcl.sl
      have HR3 := Kp.mk (show SlI w3 ra rc (R.map Int.ofNat) from (own_sl_len HO.out (by rw [List.length_map]; exact HRL.out)).below hb3)
      have HB3 := Kp.mk (HBr.out.trans (hb3.mono HBr.out.size))
      have HRF := Kp.mk (show Rks l V R from ⟨by rw [HRL.out, HL.out], by rw [HL.out]; exact HRK.out⟩)
      clear hcl hb3
      go_wp2
      refine bodyPost_ret (v := .tuple #[.slice ca v cc, .slice ra k rc, .int .i64 0]) (by simp [results, Tryd.results60, go_sem]) rfl ?_
      refine ⟨ca, v, cc, ra, rc, R, rfl, ?_⟩
      rw [← HVE.out]
      exact ⟨HVL, HC, HR3, HRF, HB3⟩

end Go.Proofs.YteeeikninigeoaaDoor
