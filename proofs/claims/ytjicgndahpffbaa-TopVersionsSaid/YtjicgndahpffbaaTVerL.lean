/- TopVersions: the walk. -/
import Derived.Test.YtjicgndahpffbaaTVer
namespace Go.Proofs.Ytjicgndahpffbaa
set_option linter.unusedVariables false
open Go.RowKit

set_option maxRecDepth 100000 in
set_option maxHeartbeats 4000000 in
theorem walk_TopVersions (a0 : Option Addr) (len0 cap0 : Nat) (z0 : List Int) (a1 : Option Addr) (len1 cap1 : Nat) (z1 : List Int) (w : World) (w0 : IsRow .i64 w a0 len0 cap0 z0) (w1 : IsFlat 4 w a1 len1 cap1 z1) :
    Calls Try.prog 13 #[.slice a0 len0 cap0, .slice a1 len1 cap1] w fun e w' => e = .returned (.bool true) ∧ Below w.heap.size w w' := by
  obtain ⟨l, rfl, hl, wl, nl⟩ := row_sl w0
  obtain ⟨L, hL, wL, nL⟩ := works_in w1
  unfold maxLen at nl nL
  have hLL : L.length = len1 := hL.len wkL_len (by omega)
  have HLL := Kp.mk hLL
  have HL := Kp.mk hl
  have WL := Kp.mk wl
  have HWK := Kp.mk hL
  have WWK := Kp.mk wL
  have HBD := Kp.mk (sgn_bd l 40 500 (by omega))
  obtain ⟨n, hn⟩ : ∃ n, n = (sgn l 40 500).length := ⟨_, rfl⟩
  have hn40 : n ≤ 40 := by rw [hn, sgn_length]; omega
  have HM := Kp.mk hn
  clear w0 w1 hl wl hL wL hn hLL
  go_enter Try.func13, Try.ntmps13
  go_wp2_with fail
  refine (signed_any a0 cap0 40 500 l w HL.out (by omega) (by omega) (by omega) (by omega) WL.out).mono ?_
  rintro e w1 ⟨na, nc, rfl, hO, hb⟩
  unfold OwnI at hO
  rw [← HM.out] at hO ⊢
  have HO := Kp.mk hO
  have HB := Kp.mk hb
  have hsz := Kp.mk hb.size
  clear hO hb
  go_wp2_with (at_builtin; refine wpList_push tInts rfl _ _ rfl w.heap.size na n nc _ rfl HO.out 1 1 _ rfl rfl ?d1 (by decide) ?d2 (by decide) hsz.out ?d4)
  case d1 => simp [Value.oneCell']
  case d2 => omega
  case d4 =>
    intro sa sc w2 hown hbel
    have hb2 := HB.out.trans hbel
    have HNL := Kp.mk (show (sgn l 40 500 ++ [3]).length = n + 1 by rw [List.length_append, ← HM.out]; rfl)
    have HN := Kp.mk (show SlI w2 sa sc (sgn l 40 500 ++ [3]) from own_sl_len (by rw [ints_append]; exact hown) HNL.out)
    have HBN := Kp.mk (show ∀ x ∈ sgn l 40 500 ++ [3], x.natAbs ≤ 1048576 from fun x hx => by
      rcases List.mem_append.1 hx with hx | hx
      · have := HBD.out x hx; omega
      · rw [List.mem_singleton.1 hx]; omega)
    have HB2 := Kp.mk hb2
    have HWK2 := Kp.mk (HWK.out.below hb2)
    obtain ⟨B, hB⟩ : ∃ B, B = w2.heap.size := ⟨_, rfl⟩
    have HBE := Kp.mk hB
    clear hown hbel HO HM hsz HB HL HWK hb2 hB HBD
    generalize sgn l 40 500 ++ [3] = N at *
    go_wp2
    go_loopw [6, 7, 8] (fun v6 v7 v8 wr => ∃ (k : Nat) (ca : Option Addr) (cc : Nat) (oa : Option Addr) (oc : Nat), k ≤ len1 ∧ k ≤ 40 ∧ v8 = .int .i64 k ∧ v6 = .slice ca k cc ∧ v7 = .slice oa k oc ∧ Kp (wr.ownsRow B 84 5 (.slice ca k cc) k (flat chL (tcs L (n + 1) k))) ∧ Kp (wr.ownsRow B 86 4 (.slice oa k oc) k (flat opL (tops L (n + 1) k))) ∧ Kp (Below B w2 wr)) (fun _ _ v8 _ => len1 - (intOf v8).toNat)
    case atStart => exact ⟨0, none, 0, none, 0, Nat.zero_le _, Nat.zero_le _, rfl, rfl, rfl, ⟨by unfold tcs; simp [flat, World.ownsRow_nil]⟩, ⟨by unfold tops; simp [flat, World.ownsRow_nil]⟩, ⟨Below.refl _ _⟩⟩
    case round =>
      obtain ⟨k, ca, cc, oa, oc, hkm, hkn, rfl, rfl, rfl, HC, HP, HBL⟩ := hrel
      by_cases hgo : k < len1 ∧ k < 40
      · obtain ⟨hlt, hltn⟩ := hgo
        obtain ⟨b, off, rfl, hbw, co⟩ := HWK2.out.at wkL_len (by omega) k (by rw [HLL.out]; exact hlt)
        rw [← HBE.out] at hbw
        have hwf := WWK.out _ (List.getElem_mem (show k < L.length by rw [HLL.out]; exact hlt))
        have hg : L.getD k wk0 = L[k]'(by rw [HLL.out]; exact hlt) := getD_at _ _ _
        have HTS := Kp.mk (tcs_succ L (n + 1) k)
        have HPS := Kp.mk (tops_succ L (n + 1) k)
        rw [hg] at HTS HPS
        obtain ⟨x, hx⟩ : ∃ x, x = L[k]'(by rw [HLL.out]; exact hlt) := ⟨_, rfl⟩
        rw [← hx] at co hwf HTS HPS
        obtain ⟨xk, xa, xb, xy⟩ := x
        obtain ⟨i3, i4⟩ := wf_bd hwf.a
        obtain ⟨i7, i8⟩ := wf_bd hwf.y
        dsimp only at i3 i4 i7 i8
        have o1 : wr.cell? ⟨b, off + k * 4 + 1, none⟩ = some (.int .i64 xa) := (HBL.out.cell (p := ⟨b, off + k * 4 + 1, none⟩) hbw).trans (co 1 (by omega))
        have o3 : wr.cell? ⟨b, off + k * 4 + 3, none⟩ = some (.int .i64 xy) := (HBL.out.cell (p := ⟨b, off + k * 4 + 3, none⟩) hbw).trans (co 3 (by omega))
        obtain ⟨q2, h2, l2⟩ := pick_nat xa ((n : Int) + 1) (by omega)
        obtain ⟨q4, h4, l4⟩ := pick_nat xy 1000 (by omega)
        have hatw : atW (n + 1) ⟨xk, xa, xb, xy⟩ = q2 := by
          unfold atW
          show (pick xa ((n + 1 : Nat) : Int)).toNat = q2
          rw [show ((n + 1 : Nat) : Int) = (n : Int) + 1 by omega, h2]; rfl
        have hbyw : byW ⟨xk, xa, xb, xy⟩ = q4 := by unfold byW; exact h4
        rw [hatw, hbyw] at HTS HPS
        have C2 := Kp.mk (fun W => h2 ▸ picked_any xa ((n : Int) + 1) W (by omega) (by omega) i3 i4)
        have C4 := Kp.mk (fun W => h4 ▸ picked_any xy 1000 W (by omega) (by omega) i7 i8)
        have hBw : B ≤ wr.heap.size := by rw [HBE.out]; exact HBL.out.size
        clear co hwf hx h2 h4 hg hatw hbyw
        go_wp2_with fail
        refine (C2.out _).mono ?_
        rintro e w' ⟨rfl, rfl⟩
        go_wp2_with fail
        refine (C4.out _).mono ?_
        rintro e w' ⟨rfl, rfl⟩
        clear C2 C4
        go_wp2_with (at_builtin; refine wpList_pushS tChs rfl _ _ rfl B ca k cc _ rfl HC.out 1 _ rfl rfl ?y1 ?y2 (by decide) hBw ?y4)
        case y1 => simp [Value.oneCell']
        case y2 => omega
        case y4 =>
          intro ya yc w3 ho3 hgr3 hno3
          have HC3 := Kp.mk (show w3.ownsRow B 84 5 (.slice ya (k + 1) yc) (k + 1) (flat chL (tcs L (n + 1) (k + 1))) from by
            rw [HTS.out, flat_append]
            have e : flat chL [(⟨1, k, q2, q4, 0⟩ : Chg)] = [.int .i64 1, .int .i64 k, .int .i64 q2, .int .i64 q4, .int .i64 0] := by simp [flat, chL]
            rw [e]; exact ho3)
          have HP3 := Kp.mk (own_keep HP.out hgr3 (fun q hq => own_two' HC.out HP.out (by decide) q hq))
          have hb3 := below_of_grown hgr3 hBw (fun q hq => (own_lt HC.out q hq).1)
          have HBL3 := Kp.mk (HBL.out.trans hb3)
          have hBw3 : B ≤ w3.heap.size := Nat.le_trans hBw hb3.size
          clear ho3 hgr3 hno3 hb3 HC HP o1 o3
          go_wp2_with (at_builtin; refine wpList_pushS tOps rfl _ _ rfl B oa k oc _ rfl HP3.out 1 _ rfl rfl ?z1 ?z2 (by decide) hBw3 ?z4)
          case z1 => simp [Value.oneCell']
          case z2 => omega
          case z4 =>
            intro za zc w4 ho4 hgr4 hno4
            have HP4 := Kp.mk (show w4.ownsRow B 86 4 (.slice za (k + 1) zc) (k + 1) (flat opL (tops L (n + 1) (k + 1))) from by
              rw [HPS.out, flat_append]
              have e : flat opL [(⟨2, q2, q2, q4⟩ : SOp)] = [.int .i64 2, .int .i64 q2, .int .i64 q2, .int .i64 q4] := by simp [flat, opL]
              rw [e]; exact ho4)
            have HC4 := Kp.mk (own_keep HC3.out hgr4 (fun q hq => own_two' HP3.out HC3.out (by decide) q hq))
            have HBL4 := Kp.mk (HBL3.out.trans (below_of_grown hgr4 hBw3 (fun q hq => (own_lt HP3.out q hq).1)))
            clear ho4 hgr4 hno4
            go_wp2
            go_roundw
            case rel => exact ⟨k + 1, ya, yc, za, zc, by omega, by omega, by go_num, rfl, rfl, HC4, HP4, HBL4⟩
            case measure => simp [intOf]; omega
      · have hor : (k < len1 ∧ ¬ k < 40) ∨ ¬ k < len1 := by
          by_cases h1 : k < len1
          · exact .inl ⟨h1, fun h2 => hgo ⟨h1, h2⟩⟩
          · exact .inr h1
        clear hgo
        have HB3 := Kp.mk (show Below w.heap.size w wr from HB2.out.trans ((show Below w2.heap.size w2 wr from by rw [← HBE.out]; exact HBL.out).mono HB2.out.size))
        have HN3 := Kp.mk (HN.out.below (show Below w2.heap.size w2 wr from by rw [← HBE.out]; exact HBL.out))
        have HCS := Kp.mk (show SlF chL 5 wr ca k cc (tcs L (n + 1) k) from own_slc HC.out)
        have HOS := Kp.mk (show SlF opL 4 wr oa k oc (tops L (n + 1) k) from own_slc HP.out)
        clear HB2 HN HC HP HBL HWK2 HBE
        rcases hor with ⟨hlt, hm60⟩ | hlt
        all_goals
          go_wp2_with fail
          refine (copiedT_n _ _ _ _ _ HN3.out HNL.out (by omega)).mono ?_
          rintro e w4 ⟨c1, d1, rfl, h1, hb1⟩
          have HC4 := Kp.mk h1
          have HN4 := Kp.mk (HN3.out.below hb1)
          have HCS4 := Kp.mk (HCS.out.below hb1)
          have HOS4 := Kp.mk (HOS.out.below hb1)
          have HB4 := Kp.mk (below_step HB3.out hb1)
          have HOKC := Kp.mk (tcs_ok L (n + 1) k (by omega))
          have HOKO := Kp.mk (tops_ok L (n + 1) k (by omega))
          have HTL := Kp.mk (tops_length L (n + 1) k)
          have HTC := Kp.mk (tcs_length L (n + 1) k)
          have HVR := Kp.mk (fun j (hj : j ≤ k) => ver_run N L (n + 1) k j hj)
          clear h1 hb1 HN3 HCS HOS HB3
          generalize tcs L (n + 1) k = cs at *
          generalize tops L (n + 1) k = os at *
          go_wp2_with fail
          refine (pPlay_any c1 ca d1 cc (n + 1) k N cs w4 (by have := HC4.out; unfold SlI at this; rw [HNL.out] at this; exact this) HNL.out HCS4.out (by omega) (by omega) (by omega) HOKC.out).mono ?_
          rintro e w5 ⟨xa, xc, va, vc, rfl, HR, HB5⟩
          have HN5 := Kp.mk (HN4.out.below HB5.out)
          have HO5 := Kp.mk (HOS4.out.below HB5.out)
          have HBW := Kp.mk (below_step HB4.out HB5.out)
          have HVN := Kp.mk (fun j (hj : j ≤ k) => vAt_length N cs (n + 1) HNL.out HOKC.out j j (Nat.le_refl _) (by rw [HTC.out]; exact hj))
          have HRA := Kp.mk (fun (W : World) (hW : Below w5.heap.size w5 W) (j : Nat) (hj : j ≤ k) => show ∃ b off ra rc, va = some ⟨b, off, none⟩ ∧ W.cell? ⟨b, off + j, none⟩ = some (.slice ra (n + 1) rc) ∧ SlI W ra rc (vAt N cs j) from by
            obtain ⟨b, off, ra, rc, e1, e2, e3⟩ := (HR.out.below hW).at j (by rw [valK_length]; omega)
            have e : (valK N cs k)[j]'(by rw [valK_length]; omega) = vAt N cs j := by
              rw [← valK_getD N cs k j hj, getD_at _ _ (by rw [valK_length]; omega)]
            rw [e] at e2 e3
            rw [HVN.out j hj] at e2
            exact ⟨b, off, ra, rc, e1, e2, e3⟩)
          have e1 : IntKind.i64.wrap ((k : Int) + 1) = (k : Int) + 1 := IntWalk.i64_in _ (by omega)
          clear HC4 HN4 HCS4 HOS4 HB4 HB5 HR
          go_wp2
          go_loopw [14] (fun i wr => ∃ q : Nat, q ≤ k + 1 ∧ i = .int .i64 q ∧ Kp (Below w5.heap.size w5 wr)) (fun i _ => k + 1 - (intOf i).toNat)
          case atStart => exact ⟨0, Nat.zero_le _, rfl, ⟨Below.refl _ _⟩⟩
          case round =>
            obtain ⟨q, hq, rfl, HBR⟩ := hrel
            by_cases hlq : q ≤ k
            rotate_left
            · have hqz : ¬ (q : Int) ≤ k := by omega
              have HBF := Kp.mk (below_step HBW.out HBR.out)
              go_wp2
              go_ret
              exact ⟨rfl, HBF.out⟩
            · have hqz : (q : Int) ≤ k := by omega
              have hqoc : q ≤ oc := Nat.le_trans hlq HO5.out.le
              have hcap := HO5.out.le
              have hdr : Below wr.heap.size wr wr.drew := (Below.refl _ _).drew
              have HDR := Kp.mk hdr
              have HNR := Kp.mk ((HN5.out.below HBR.out).below hdr)
              have HOR := Kp.mk (show SlF opL 4 wr oa q oc (os.take q) from by
                have := SlC.front (HO5.out.below HBR.out) hlq
                unfold SlF
                rw [← flat_take opL_len]; exact this)
              have HKT := Kp.mk (show ∀ o ∈ os.take q, o.Ok (n + 1) from fun o ho => HOKO.out o (List.mem_of_mem_take ho))
              have HRT := Kp.mk (show runD N (os.take q) q = vAt N cs q from by rw [runD_take N os q q (Nat.le_refl _) (by rw [HTL.out]; exact hlq), HVR.out q hlq])
              have hqk : (q : Int) < (k : Int) + 1 := by omega
              clear hdr
              go_wp2
              go_region_held3 (fun w' => True)
                (first | trivial)
                ((first
                  | (go_at_call 45; refine (play_any c1 sa1 d1 sc1 (n + 1) q N (os.take q) w7 (hc1.below hb67) HNL.out (own_slc hown1) (by omega) (by omega) (by omega) HBN.out HKT.out).mono ?_; rintro e w8 ⟨ra, rc, ea, ec, rfl, HRp, HE, hb8⟩)
                  | (go_at_call 44; refine (copiedT_n _ _ _ _ _ HNR.out HNL.out (by omega)).mono ?_; rintro e w6 ⟨c1, d1, rfl, hc1, hb6⟩; have hb06 := HDR.out.trans hb6)
                  | (refine step_cat0 tOps (by rfl) _ _ (by rfl) w6.heap.size (by rfl) oa q oc _ (by rfl) (SlC.below HOR.out hb06) (flat_one opL_one _) (by omega) (by decide) (Nat.le_refl _) ?_; intro sa1 sc1 w7 hown1 hgr1; have hb67 : Below w6.heap.size w6 w7 := below_of_grown hgr1 (Nat.le_refl _) (fun k hk => by cases hk))))
              all_goals
                have hb78 := below_step (below_step hb06 hb67) hb8
                have HEB := Kp.mk (show SlI w8 ea ec (vAt N cs q) from by
                  have := own_sl_len HE.out (by rw [runD_length]; exact HNL.out)
                  rw [HRT.out] at this; exact this)
                have HB8 := Kp.mk (below_step HBR.out hb78)
                obtain ⟨vb, vo, ga, gc, rfl, y0, hs0⟩ := HRA.out w8 HB8.out q hlq
                have HG := Kp.mk hs0
                clear hs0 hb78 hb8 HE HRp hb67 hgr1 hown1 hc1 hb6 hb06 HNR HOR HKT HRT HDR
                go_wp2_with fail
                refine (sameIntsT_same ea ga ec gc (n + 1) _ _ w8 HEB.out HG.out (HVN.out q hlq) (HVN.out q hlq) rfl (by omega)).mono ?_
                rintro e w9 ⟨rfl, hb9⟩
                have HB9 := Kp.mk (HB8.out.trans (hb9.mono HB8.out.size))
                clear hb9
                go_wp2
                go_roundw
                case rel => exact ⟨q + 1, by omega, by go_num, HB9⟩
                case measure => simp [intOf]; omega

end Go.Proofs.Ytjicgndahpffbaa
