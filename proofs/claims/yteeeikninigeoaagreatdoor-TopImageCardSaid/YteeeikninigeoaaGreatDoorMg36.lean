import Derived.Test.YteeeikninigeoaaGreatDoorMg35
import Derived.Test.YteeeikninigeoaaGreatDoorMg3
import Derived.Test.YteeeikninigeoaaGreatDoorMg19
import Derived.Test.YteeeikninigeoaaGreatDoorMg23
import Derived.Test.YteeeikninigeoaaGreatDoorMg22
import Derived.Test.YteeeikninigeoaaGreatDoorMg29
import Derived.Test.YteeeikninigeoaaGreatDoorMg1
/- sameInts of the package damasktop. -/
namespace Go.Proofs.YteeeikninigeoaaGreatDoor
set_option linter.unusedVariables false
open Go.RowKit

set_option maxHeartbeats 400000 in
theorem sameIntsT_any (a b : Option Addr) (c d : Nat) (l m : List Int) (w : World) (h1 : SlI w a c l) (h2 : SlI w b d m) (hl : l.length ≤ 9223372036854775806) :
    Calls Tryz.prog 23 #[.slice a l.length c, .slice b m.length d] w fun e w' => e = .returned (.bool (l == m)) ∧ ∃ n, w' = w.drewN n := by
  by_cases hlm : l.length = m.length
  · have e1 : (((l.length : Int)) != m.length) = false := by simp [hlm]
    have hlm' := Lib.hid hlm
    have H1 := Lib.hid h1
    have H2 := Lib.hid h2
    clear hlm h1 h2
    go_enter Tryz.func23, Tryz.ntmps23
    go_wp2
    go_loopw [5] (fun i wr => ∃ k : Nat, k ≤ l.length ∧ i = .int .i64 k ∧ (∃ n, wr = w.drewN n) ∧ Hid (l.take k = m.take k)) (fun i _ => l.length - (intOf i).toNat)
    case atStart => exact ⟨0, Nat.zero_le _, rfl, ⟨0, rfl⟩, rfl⟩
    case round =>
      obtain ⟨k, hk, rfl, ⟨n, rfl⟩, HT⟩ := hrel
      by_cases hlt : k < l.length
      · have hlt2 : k < m.length := by have := hlm'.out; omega
        obtain ⟨b1, o1, rfl, c1⟩ := H1.out.at k hlt
        obtain ⟨b2, o2, rfl, c2⟩ := H2.out.at k hlt2
        by_cases hx : l[k] = m[k]
        · have ex : (l[k] != m[k]) = false := by simpa using hx
          have HX := Lib.hid hx
          clear hx
          go_wp2
          go_quiet (fail)
          go_wp2
          go_roundw
          case rel =>
            refine ⟨k + 1, by omega, by go_num, ⟨_, rfl⟩, ?_⟩
            have e := HT.out
            show l.take (k + 1) = m.take (k + 1)
            rw [List.take_succ_eq_append_getElem hlt, List.take_succ_eq_append_getElem hlt2, e, HX.out]
          case measure => simp [intOf]; omega
        · have ex : (l[k] != m[k]) = true := by simpa using hx
          have HX := Lib.hid (show (l == m) = false by
            rw [beq_eq_false_iff_ne]; intro h; subst h; exact hx rfl)
          clear hx
          go_wp2
          go_quiet (fail)
          go_wp2
          go_ret
          exact ⟨ret_bool HX.out.symm, _, World.drewN_drewN _ _ _⟩
      · go_wp2
        go_ret
        refine ⟨ret_bool ?_, _, rfl⟩
        symm
        rw [beq_iff_eq]
        have e := HT.out
        rwa [List.take_of_length_le (by omega), List.take_of_length_le (by have := hlm'.out; omega)] at e
  · have e1 : (((l.length : Int)) != m.length) = true := by simp; omega
    have hlm' := Lib.hid hlm
    clear hlm
    go_enter Tryz.func23, Tryz.ntmps23
    go_wp2
    go_ret
    exact ⟨ret_bool (beq_eq_false_iff_ne.2 (fun h => hlm'.out (by rw [h]))).symm, 0, rfl⟩

/-- Two slices that read as one list. -/
theorem sameIntsT_same (a b : Option Addr) (c d n : Nat) (l m : List Int) (w : World) (h1 : SlI w a c l) (h2 : SlI w b d m) (hl : l.length = n) (hm : m.length = n) (he : l = m) (hn : n ≤ 9223372036854775806) :
    Calls Tryz.prog 23 #[.slice a n c, .slice b n d] w fun e w' => e = .returned (.bool true) ∧ Below w.heap.size w w' := by
  subst hl
  have h := sameIntsT_any a b c d l m w h1 h2 hn
  rw [hm] at h
  exact h.mono fun e w' ⟨h1, n, h2⟩ => ⟨by rw [h1, he]; simp, by rw [h2]; exact drewN_below n⟩

end Go.Proofs.YteeeikninigeoaaGreatDoor

/- TopImage: the walk. -/
namespace Go.Proofs.YteeeikninigeoaaGreatDoor
set_option linter.unusedVariables false
open Go.RowKit

theorem raw_in {w : World} {a : Option Addr} {len cap : Nat} {zs : List Int} (h : IsRow .i64 w a len cap zs) : ∃ l, Raw w a len cap l := by
  obtain ⟨l, hl, hs, hw, _⟩ := row_sl h
  exact ⟨l, hs, hl.symm, fun z hz => wf_bd (hw z hz)⟩

theorem same_ints (a b : Option Addr) (c d k : Nat) (l : List Int) (w : World) (h1 : SlI w a c l) (h2 : SlI w b d l) (hk : l.length = k) (hl : k ≤ 1000) :
    Calls Tryz.prog 23 #[.slice a k c, .slice b k d] w fun e w' => e = .returned (.bool true) ∧ Kp (Below w.heap.size w w') := by
  subst hk
  refine (sameIntsT_any a b c d l l w h1 h2 (by omega)).mono ?_
  rintro e w' ⟨rfl, n, rfl⟩
  exact ⟨by simp, ⟨below_drewN (Below.refl _ _) n⟩⟩
/-- What sky.Sky answers: a matter of the points. -/
def SkyAns (L : List Pt) (n : Nat) (S : List Nat) : Prop := IsOrder L (detN n L) ∧ ∃ top, SkyInv (gOf L) (met (detN n L) n) S top
theorem SkyAns.unique {L : List Pt} {n : Nat} {S S' : List Nat} (h : SkyAns L n S) (h' : SkyAns L n S') : S = S' := by
  obtain ⟨ho, t, hs⟩ := h
  obtain ⟨_, t', hs'⟩ := h'
  exact sky_unique (List.Nodup.sublist (List.take_sublist _ _) ((List.reverse_perm _).nodup_iff.2 ho.nodup)) hs hs'
theorem SkyAns.le {L : List Pt} {n : Nat} {S : List Nat} (h : SkyAns L n S) : S.length ≤ n := by
  obtain ⟨_, t, hs⟩ := h
  have h1 := hs.sub.length_le
  unfold met at h1
  rw [List.length_take] at h1
  omega
theorem natV_ints (X : List Nat) : natV X = ints (X.map Int.ofNat) := by simp [natV, ints]
theorem own_sl {w : World} {B m c : Nat} {a : Option Addr} {l : List Int} (h : w.ownsRow B 3 1 (.slice a m c) m (ints l)) : SlI w a c l ∧ l.length = m := by
  have hl : l.length = m := by have := h.1; rwa [ints_length, Nat.mul_one] at this
  subst hl
  exact ⟨own_slc h, rfl⟩

set_option maxRecDepth 100000 in
set_option maxHeartbeats 32000000 in
theorem walk_TopImage (a0 : Option Addr) (len0 cap0 : Nat) (z0 : List Int) (a1 : Option Addr) (len1 cap1 : Nat) (z1 : List Int) (a2 a3 a4 : Int) (w : World) (w0 : IsFlat 3 w a0 len0 cap0 z0) (w1 : IsRow .i64 w a1 len1 cap1 z1) (w2 : (Lit.int .i64 a2).wf = true) (w3 : (Lit.int .i64 a3).wf = true) (w4 : (Lit.int .i64 a4).wf = true) (hT : Tab w) :
    Calls Tryz.prog 7 #[.slice a0 len0 cap0, .slice a1 len1 cap1, .int .i64 a2, .int .i64 a3, .int .i64 a4] w fun e w' => e = .returned (.bool true) ∧ Below w.heap.size w w' := by
  obtain ⟨S, hS, wS, nS⟩ := spots_in w0
  obtain ⟨l1, r1⟩ := raw_in w1
  obtain ⟨i1, i2⟩ := wf_bd w2
  obtain ⟨i3, i4⟩ := wf_bd w3
  obtain ⟨i5, i6⟩ := wf_bd w4
  have C1 := Kp.mk (points_any a0 cap0 len0 60 20 S w hS (by unfold maxLen at nS; omega) (by omega) (by omega) (by omega) wS)
  have HR1 := Kp.mk r1
  have HTB := Kp.mk hT
  have HX := Kp.mk (exprOf_any 3 (by omega))
  have K2 := Kp.mk (fun W => picked_any a2 20 W (by omega) (by omega) i1 i2)
  have K3 := Kp.mk (fun W => picked_any a3 20 W (by omega) (by omega) i3 i4)
  have K4 := Kp.mk (fun W => picked_any a4 9 W (by omega) (by omega) i5 i6)
  obtain ⟨q2, e2, g2⟩ := pick_nat a2 20 (by omega)
  obtain ⟨q3, e3, g3⟩ := pick_nat a3 20 (by omega)
  obtain ⟨q4, e4, g4⟩ := pick_nat a4 9 (by omega)
  rw [e2] at K2
  rw [e3] at K3
  rw [e4] at K4
  clear w0 w1 w2 w3 w4 hS wS nS r1 hT e2 e3 e4
  go_enter Tryz.func7, Tryz.ntmps7
  go_wp2_with fail
  refine C1.out.mono ?_
  rintro e w1 ⟨sa, sc, n, rfl, HR, HO, hb1⟩
  have HB1 := Kp.mk hb1
  have hn60 : n ≤ 60 := by have := HR.out; rw [ptsOf_length] at this; omega
  have HBD := Kp.mk (ptsOf_bd S 60 20 (by omega))
  have HP1 := Kp.mk (show SlF ptL 3 w1 sa n sc (ptsOf S 60 20) from own_slc HO.out)
  generalize ptsOf S 60 20 = L at *
  have HNR := Kp.mk (show ∀ p ∈ L, p.Near from fun p hp => by have := HBD.out p hp; unfold Pt.Near; omega)
  have HLN := Kp.mk HR.out
  have CP := Kp.mk (fun (W : World) (a : Option Addr) (c : Nat) (h : SlF ptL 3 W a n c L) => topPoints_any a c n L W h (by omega))
  have CS := Kp.mk (fun (W : World) (a : Option Addr) (c : Nat) (h : SlF ptL 3 W a n c L) => save_any a n c L W h (by omega) HLN.out HNR.out)
  have CN := Kp.mk (fun (W : World) (a : Option Addr) (c : Nat) (h : SlF ptL 3 W a n c L) => nearest_sure a c n q4 q2 q3 L W h (by omega) HNR.out (by omega) (by omega) (by omega))
  have CK := Kp.mk (fun (W : World) (a : Option Addr) (c : Nat) (h : SlF ptL 3 W a n c L) => sky_detN a c n L W h (by omega) HNR.out)
  clear hb1 C1 HO HR HBD
  -- what is saved
  go_wp2_with fail
  refine (CP.out _ _ _ HP1.out).mono ?_
  rintro e w2 ⟨ra, rc, rfl, HP2, hb2⟩
  have HP1b := Kp.mk (SlF.below HP1.out hb2)
  have HB2 := Kp.mk (below_step HB1.out hb2)
  clear hb2 HP1 HB1
  go_wp2_with fail
  refine (CS.out _ _ _ HP2.out).mono ?_
  rintro e w3 ⟨ia, r, ic, rfl, hr, HOS, hb3⟩
  have HP3 := Kp.mk (SlF.below HP1b.out hb3.out)
  have HB3 := Kp.mk (below_step HB2.out hb3.out)
  have HSV := Kp.mk (show SlB w3 ia r ic (saveL L) from own_slb HOS.out)
  have hrl : r = (encI (numsP L)).length + 4 := by rw [← HSV.out.len, saveL_len]
  have hm5 := encI_len (numsP L)
  obtain ⟨m, hm⟩ : ∃ m, m = (encI (numsP L)).length := ⟨_, rfl⟩
  rw [← hm] at hrl hm5
  have HM := Kp.mk hm
  clear hm HP2 hb3 HOS HB2 HP1b
  subst hrl
  have CL := Kp.mk (load_any ia m ic (saveL L) w3 HSV.out (saveL_lt L) hm5 (by omega))
  go_wp2_with fail
  refine CL.out.mono ?_
  rintro e w4 ⟨ta, c', tc, code, rfl, HLS, hb4⟩
  have hls := HLS.out
  rw [HM.out] at hls
  obtain ⟨hc0, hcn, ho⟩ := load_back HNR.out HLN.out (by omega) hls
  subst hc0
  obtain rfl : n = c' := hcn.symm
  have HQ4 := Kp.mk (show SlF ptL 3 w4 ta n tc L from own_slc ho)
  have HP4 := Kp.mk (SlF.below HP3.out hb4.out)
  have HB4 := Kp.mk (below_step HB3.out hb4.out)
  have t9 : decide ((m : Int) + 4 < 9) = false := decide_eq_false (by omega)
  have CX := Kp.mk (HX.out a1 len1 cap1 l1 w4 (HR1.out.below HB4.out))
  clear hls hcn ho HLS hb4 CL HSV HP3 HB3 HX
  go_wp2_with fail
  refine CX.out.mono ?_
  rintro e w5 ⟨⟨k, a, b, c, d, y, ea, en, ec⟩, x, _, _, _, _, rfl, HXV, HXS, _, hb5⟩
  rw [show (exL ⟨k, a, b, c, d, y, ea, en, ec⟩).toArray = exA k a b c d y ea en ec from rfl]
  have hal := below_alloc (Nat.le_refl w5.heap.size) (.cells (exA k a b c d y ea en ec) 30)
  have hbn := Box.new w5 (exA k a b c d y ea en ec) 30
  have hb56 := below_step hb5.out hal
  have HB6 := Kp.mk (below_step HB4.out hb56)
  have HIX := Kp.mk (HXV.out.is.below hal)
  have HP6 := Kp.mk (SlF.below HP4.out hb56)
  have HQ6 := Kp.mk (SlF.below HQ4.out hb56)
  obtain ⟨bx, hbx⟩ : ∃ bx, w5.heap.size = bx := ⟨_, rfl⟩
  obtain ⟨w6, hw6⟩ : ∃ w6, w5.alloc (.cells (exA k a b c d y ea en ec) 30) = w6 := ⟨_, rfl⟩
  rw [hw6] at hbn HB6 HIX HP6 HQ6
  rw [hbx] at hbn
  have HBX := Kp.mk hbn
  have HW6 := Kp.mk hw6
  have HBXE := Kp.mk hbx
  obtain ⟨hsx, hdx⟩ := HXS.out
  have hlx : x.txt.length ≤ 174 := by
    have := Ex.txt_len x 3 hsx (by omega)
    have e : Ex.bnd 3 = 174 := by decide
    omega
  have HT6 := Kp.mk (HTB.out.below HB6.out)
  have HCX := Kp.mk (fun (W : World) (hW : Below w6.heap.size w6 W) => show (W.cell? ⟨bx, 0, none⟩ = some (.int .i64 k) ∧ W.cell? ⟨bx, 1, none⟩ = some (.int .i64 a) ∧ W.cell? ⟨bx, 2, none⟩ = some (.int .i64 b) ∧ W.cell? ⟨bx, 3, none⟩ = some (.int .i64 c) ∧ W.cell? ⟨bx, 4, none⟩ = some (.int .i64 d) ∧ W.cell? ⟨bx, 5, none⟩ = some (.int .i64 y) ∧ W.cell? ⟨bx, 6, none⟩ = some (.slice ea en ec)) from by
    have hb := HBX.out.below hW
    exact ⟨hb.cell 0 rfl, hb.cell 1 rfl, hb.cell 2 rfl, hb.cell 3 rfl, hb.cell 4 rfl, hb.cell 5 rfl, hb.cell 6 rfl⟩)
  have CE := Kp.mk (fun (W : World) (a' : Option Addr) (c' : Nat) (hW : Below w6.heap.size w6 W) (h : SlF ptL 3 W a' n c' L) => show Calls Tryz.prog 20 #[.agg #[.int .i64 k, .int .i64 a, .int .i64 b, .int .i64 c, .int .i64 d, .int .i64 y, .slice ea en ec], .slice a' n c'] W (fun e w' => ∃ ra rc, e = .returned (.tuple #[.slice ra (evalL (x.sem L) n).length rc, .int .i64 0]) ∧ Kp (SlI w' ra rc ((evalL (x.sem L) n).map Int.ofNat)) ∧ Kp (Below W.heap.size W w')) from by
    refine (qeval_any a' c' n L (by omega) HNR.out x ⟨k, a, b, c, d, y, ea, en, ec⟩ W (HIX.out.below hW) h hsx (by omega) (by omega) (HT6.out.below hW)).mono ?_
    rintro e w' ⟨ra, m, rc, rfl, hl, ho, hb⟩
    obtain ⟨h1, h2⟩ := own_sl ho.out
    exact ⟨ra, rc, by rw [hl.out], ⟨h1⟩, hb⟩)
  have hev : ((evalL (x.sem L) n).map Int.ofNat).length = (evalL (x.sem L) n).length := List.length_map ..
  have hev2 := evalL_len (x.sem L) n
  generalize evalL (x.sem L) n = E at *
  clear hal hbn hb56 hw6 hbx HP4 HQ4 HB4 HXV HXS hb5 CX hsx hdx hlx
  obtain ⟨el, hel⟩ : ∃ el, E.length = el := ⟨_, rfl⟩
  rw [hel] at CE hev hev2
  have HEL := Kp.mk hev
  clear hev hel
  generalize E.map Int.ofNat = EI at *
  go_upto_region 7 with (fail)
  simp only [HBXE.out]
  rw [show (#[Value.int IntKind.i64 k, Value.int IntKind.i64 a, Value.int IntKind.i64 b, Value.int IntKind.i64 c, Value.int IntKind.i64 d, Value.int IntKind.i64 y, Value.slice ea en ec] : Array Value) = exA k a b c d y ea en ec from rfl, HW6.out]
  clear HW6 HBXE
  -- what is meant, of the points
  have hSS : ∀ W, Below w6.heap.size w6 W → (W.cell? ⟨bx, 0, none⟩ = some (.int .i64 k) ∧ W.cell? ⟨bx, 1, none⟩ = some (.int .i64 a) ∧ W.cell? ⟨bx, 2, none⟩ = some (.int .i64 b) ∧ W.cell? ⟨bx, 3, none⟩ = some (.int .i64 c) ∧ W.cell? ⟨bx, 4, none⟩ = some (.int .i64 d) ∧ W.cell? ⟨bx, 5, none⟩ = some (.int .i64 y) ∧ W.cell? ⟨bx, 6, none⟩ = some (.slice ea en ec)) := HCX.out
  have hS0 := hSS w6 (Below.refl _ _)
  have hD : Below w6.heap.size w6 w6.drew := (Below.refl _ _).drew
  have HPD := Kp.mk (SlF.below HP6.out hD)
  go_cut [18, 19] (fun v18 v19 wx => ∃ rb rcb, v18 = .slice rb el rcb ∧ v19 = .int .i64 0 ∧ Kp (SlI wx rb rcb EI) ∧ Kp (Below w6.heap.size w6 wx))
  case first =>
    go_region_held3 (fun W => (W.cell? ⟨bx, 0, none⟩ = some (.int .i64 k) ∧ W.cell? ⟨bx, 1, none⟩ = some (.int .i64 a) ∧ W.cell? ⟨bx, 2, none⟩ = some (.int .i64 b) ∧ W.cell? ⟨bx, 3, none⟩ = some (.int .i64 c) ∧ W.cell? ⟨bx, 4, none⟩ = some (.int .i64 d) ∧ W.cell? ⟨bx, 5, none⟩ = some (.int .i64 y) ∧ W.cell? ⟨bx, 6, none⟩ = some (.slice ea en ec)))
      (first | exact hS0 | exact hSx | exact hS9 | exact hSS _ hD | go_keep)
      ((first
        | (go_at_call 18; with_reducible refine (CP.out _ _ _ HPD.out).mono ?_; rintro e wx ⟨pa, pc, rfl, HPx, hbx⟩; have hx : Below w6.heap.size w6 wx := hD.trans (hbx.mono hD.size); have hSx := hSS wx hx)
        | (go_at_call 20; with_reducible refine (CE.out wx pa pc hx HPx.out).mono ?_; rintro e w9 ⟨rb, rcb, rfl, HEV, HB9⟩; have hx9 : Below w6.heap.size w6 w9 := hx.trans (HB9.out.mono hx.size); have hS9 := hSS w9 hx9)
        | fail))
    all_goals
      go_wp2
      go_meet
      exact ⟨rb, rcb, rfl, rfl, HEV, ⟨hx9⟩⟩
  case rest =>
  obtain ⟨ua, uc, rfl, rfl, HU7, HB67⟩ := hcut
  obtain ⟨w7, rfl⟩ : ∃ w7 : World, w7 = wc := ⟨_, rfl⟩
  have HP7 := Kp.mk (SlF.below HP6.out HB67.out)
  have HQ7 := Kp.mk (SlF.below HQ6.out HB67.out)
  have HB7 := Kp.mk (below_step HB6.out HB67.out)
  clear hSS hS0 hD HPD HP6 HQ6 HB6
  -- what is meant, of those that came back
  have hSS : ∀ W, Below w7.heap.size w7 W → (W.cell? ⟨bx, 0, none⟩ = some (.int .i64 k) ∧ W.cell? ⟨bx, 1, none⟩ = some (.int .i64 a) ∧ W.cell? ⟨bx, 2, none⟩ = some (.int .i64 b) ∧ W.cell? ⟨bx, 3, none⟩ = some (.int .i64 c) ∧ W.cell? ⟨bx, 4, none⟩ = some (.int .i64 d) ∧ W.cell? ⟨bx, 5, none⟩ = some (.int .i64 y) ∧ W.cell? ⟨bx, 6, none⟩ = some (.slice ea en ec)) := fun W hW => HCX.out W (HB67.out.trans (hW.mono HB67.out.size))
  have hS0 := hSS w7 (Below.refl _ _)
  have hD : Below w7.heap.size w7 w7.drew := (Below.refl _ _).drew
  have HQD := Kp.mk (SlF.below HQ7.out hD)
  go_upto_region 8 with (fail)
  go_cut [20, 21] (fun v18 v19 wx => ∃ rb rcb, v18 = .slice rb el rcb ∧ v19 = .int .i64 0 ∧ Kp (SlI wx rb rcb EI) ∧ Kp (Below w7.heap.size w7 wx))
  case first =>
    go_region_held3 (fun W => (W.cell? ⟨bx, 0, none⟩ = some (.int .i64 k) ∧ W.cell? ⟨bx, 1, none⟩ = some (.int .i64 a) ∧ W.cell? ⟨bx, 2, none⟩ = some (.int .i64 b) ∧ W.cell? ⟨bx, 3, none⟩ = some (.int .i64 c) ∧ W.cell? ⟨bx, 4, none⟩ = some (.int .i64 d) ∧ W.cell? ⟨bx, 5, none⟩ = some (.int .i64 y) ∧ W.cell? ⟨bx, 6, none⟩ = some (.slice ea en ec)))
      (first | exact hS0 | exact hSx | exact hS9 | exact hSS _ hD | go_keep)
      ((first
        | (go_at_call 18; with_reducible refine (CP.out _ _ _ HQD.out).mono ?_; rintro e wx ⟨pa, pc, rfl, HPx, hbx⟩; have hx : Below w7.heap.size w7 wx := hD.trans (hbx.mono hD.size); have hSx := hSS wx hx)
        | (go_at_call 20; with_reducible refine (CE.out wx pa pc (HB67.out.trans (hx.mono HB67.out.size)) HPx.out).mono ?_; rintro e w9 ⟨rb, rcb, rfl, HEV, HB9⟩; have hx9 : Below w7.heap.size w7 w9 := hx.trans (HB9.out.mono hx.size); have hS9 := hSS w9 hx9)
        | fail))
    all_goals
      go_wp2
      go_meet
      exact ⟨rb, rcb, rfl, rfl, HEV, ⟨hx9⟩⟩
  case rest =>
  obtain ⟨va, vc, rfl, rfl, HV8, HB78⟩ := hcut
  obtain ⟨w8, rfl⟩ : ∃ w8 : World, w8 = wc := ⟨_, rfl⟩
  have HU8 := Kp.mk (HU7.out.below HB78.out)
  have HP8 := Kp.mk (SlF.below HP7.out HB78.out)
  have HQ8 := Kp.mk (SlF.below HQ7.out HB78.out)
  have HB8 := Kp.mk (below_step HB7.out HB78.out)
  clear hSS hS0 hD HQD HP7 HQ7 HB7 HCX CE HBX HIX HT6 HB67 HB78 HU7 CS
  -- the nearest ones
  go_wp2_with fail
  refine (CP.out _ _ _ HP8.out).mono ?_
  rintro e w9 ⟨pa, pc, rfl, HX9, hb9⟩
  go_wp2_with (first
    | (go_at_call 15; with_reducible refine (K2.out _).mono ?_; rintro e w' ⟨rfl, rfl⟩)
    | (go_at_call 15; with_reducible refine (K3.out _).mono ?_; rintro e w' ⟨rfl, rfl⟩)
    | (go_at_call 15; with_reducible refine (K4.out _).mono ?_; rintro e w' ⟨rfl, rfl⟩)
    | fail)
  refine (CN.out _ _ _ HX9.out).mono ?_
  rintro e w10 ⟨na, nc, NL, rfl, HN1, HON, hb10⟩
  have hb810 := below_step hb9 hb10.out
  obtain ⟨h1, hnl⟩ := own_sl (by have := HON.out; rw [natV_ints] at this; exact this)
  have HN10 := Kp.mk h1
  have HNL := Kp.mk hnl
  have HU10 := Kp.mk (HU8.out.below hb810)
  have HV10 := Kp.mk (HV8.out.below hb810)
  have HP10 := Kp.mk (SlF.below HP8.out hb810)
  have HQ10 := Kp.mk (SlF.below HQ8.out hb810)
  have HB10 := Kp.mk (below_step HB8.out hb810)
  clear hb9 hb10 hb810 h1 hnl HON HX9 HU8 HV8 HP8 HQ8 HB8
  go_wp2_with fail
  refine (CP.out _ _ _ HQ10.out).mono ?_
  rintro e w11 ⟨pa, pc, rfl, HX11, hb11⟩
  go_wp2_with (first
    | (go_at_call 15; with_reducible refine (K2.out _).mono ?_; rintro e w' ⟨rfl, rfl⟩)
    | (go_at_call 15; with_reducible refine (K3.out _).mono ?_; rintro e w' ⟨rfl, rfl⟩)
    | (go_at_call 15; with_reducible refine (K4.out _).mono ?_; rintro e w' ⟨rfl, rfl⟩)
    | fail)
  refine (CN.out _ _ _ HX11.out).mono ?_
  rintro e w12 ⟨ma, mc, ML, rfl, HN2, HOM, hb12⟩
  obtain rfl := NearAns.unique HN1.out HN2.out
  have hb1012 := below_step hb11 hb12.out
  obtain ⟨h1, _⟩ := own_sl (by have := HOM.out; rw [natV_ints] at this; exact this)
  have HM12 := Kp.mk h1
  have HN12 := Kp.mk (HN10.out.below hb1012)
  have HU12 := Kp.mk (HU10.out.below hb1012)
  have HV12 := Kp.mk (HV10.out.below hb1012)
  have HP12 := Kp.mk (SlF.below HP10.out hb1012)
  have HQ12 := Kp.mk (SlF.below HQ10.out hb1012)
  have HB12 := Kp.mk (below_step HB10.out hb1012)
  have hmn : min q4 n ≤ 60 := by omega
  generalize min q4 n = nm at *
  clear hb11 hb12 hb1012 h1 HOM HX11 HU10 HV10 HN10 HP10 HQ10 HB10 HN1 HN2 K2 K3 K4 CN
  -- the skies
  go_wp2_with fail
  refine (CP.out _ _ _ HP12.out).mono ?_
  rintro e w13 ⟨pa, pc, rfl, HX13, hb13⟩
  go_wp2_with fail
  refine (CK.out _ _ _ HX13.out).mono ?_
  rintro e w14 ⟨ka, ks, kc, S1, rfl, HOR, HS1, HSL, HK, hb14⟩
  have hb1214 := below_step hb13 hb14
  have HA1 := Kp.mk (show SkyAns L n S1 from ⟨HOR.out, HS1.out⟩)
  have HM14 := Kp.mk (HM12.out.below hb1214)
  have HN14 := Kp.mk (HN12.out.below hb1214)
  have HU14 := Kp.mk (HU12.out.below hb1214)
  have HV14 := Kp.mk (HV12.out.below hb1214)
  have HQ14 := Kp.mk (SlF.below HQ12.out hb1214)
  have HB14 := Kp.mk (below_step HB12.out hb1214)
  clear hb13 hb14 hb1214 HOR HS1 HX13 HU12 HV12 HN12 HM12 HP12 HQ12 HB12
  go_wp2_with fail
  refine (CP.out _ _ _ HQ14.out).mono ?_
  rintro e w15 ⟨pa, pc, rfl, HX15, hb15⟩
  go_wp2_with fail
  refine (CK.out _ _ _ HX15.out).mono ?_
  rintro e w16 ⟨ja, js, jc, S2, rfl, HOR, HS2, HSL2, HJ, hb16⟩
  obtain rfl := HA1.out.unique ⟨HOR.out, HS2.out⟩
  have hjs : js = ks := HSL2.out.symm.trans HSL.out
  subst hjs
  have hb1416 := below_step hb15 hb16
  have HSI := Kp.mk (show (S1.reverse.map Int.ofNat).length = js from by rw [List.length_map, List.length_reverse]; exact HSL.out)
  have hjsn : js ≤ 60 := by have := HA1.out.le; have := HSL.out; omega
  have HK16 := Kp.mk (HK.out.below hb1416)
  have HM16 := Kp.mk (HM14.out.below hb1416)
  have HN16 := Kp.mk (HN14.out.below hb1416)
  have HU16 := Kp.mk (HU14.out.below hb1416)
  have HV16 := Kp.mk (HV14.out.below hb1416)
  have HB16 := Kp.mk (below_step HB14.out hb1416)
  clear hb15 hb16 hb1416 HOR HS2 HX15 HK HU14 HV14 HN14 HM14 HQ14 HB14 CK CP
  have D1 := Kp.mk (same_ints ua va uc vc el EI w16 HU16.out HV16.out HEL.out (by omega))
  go_wp2_with fail
  refine D1.out.mono ?_
  rintro e w17 ⟨rfl, hb17⟩
  have D2 := Kp.mk (same_ints na ma nc mc nm _ w17 (HN16.out.below hb17.out) (HM16.out.below hb17.out) HNL.out (by omega))
  go_wp2_with fail
  refine D2.out.mono ?_
  rintro e w18 ⟨rfl, hb18⟩
  have hb1618 := below_step hb17.out hb18.out
  have D3 := Kp.mk (same_ints ka ja kc jc js _ w18 (HK16.out.below hb1618) (HJ.out.below hb1618) HSI.out (by omega))
  go_wp2_with fail
  refine D3.out.mono ?_
  rintro e w19 ⟨rfl, hb19⟩
  have HBF := Kp.mk (below_step HB16.out (below_step hb1618 hb19.out))
  go_wp2
  go_ret
  exact ⟨rfl, HBF.out⟩

end Go.Proofs.YteeeikninigeoaaGreatDoor

