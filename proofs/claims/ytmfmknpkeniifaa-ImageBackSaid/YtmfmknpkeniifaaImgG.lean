/- ImageBack: the walk. -/
import Derived.Test.YtmfmknpkeniifaaImgF
import Derived.Test.YtmfmknpkeniifaaFlatIn
namespace Go.Proofs.Ytmfmknpkeniifaa
set_option linter.unusedVariables false
open Go.RowKit

/-- A point moved to the left. -/
def shP (p : Pt) : Pt := ⟨p.x - 1500, p.y, p.w⟩
def shK (L : List Pt) (k : Nat) : List Pt := (L.take k).map shP ++ L.drop k
theorem shK_zero (L : List Pt) : shK L 0 = L := by simp [shK]
theorem shK_all (L : List Pt) (n : Nat) (h : L.length = n) : shK L n = L.map shP := by simp [shK, ← h]
theorem shK_length (L : List Pt) (k : Nat) (h : k ≤ L.length) : (shK L k).length = L.length := by simp [shK]; omega
theorem shK_at (L : List Pt) (k : Nat) (h : k < L.length) : (shK L k).getD k pt0 = L.getD k pt0 := by
  rw [getD_at _ _ (by rw [shK_length _ _ (by omega)]; exact h), getD_at _ _ h]
  unfold shK
  rw [List.getElem_append_right (by simp; omega)]
  simp [Nat.min_eq_left (Nat.le_of_lt h)]
theorem shK_set (L : List Pt) (k : Nat) (h : k < L.length) : (shK L k).set k (shP (L.getD k pt0)) = shK L (k + 1) := by
  unfold shK
  rw [List.set_append_right _ _ (by simp; omega), List.take_succ_eq_append_getElem h, List.map_append, getD_at _ _ h]
  have e : L.drop k = L[k] :: L.drop (k + 1) := (List.getElem_cons_drop ..).symm
  have e2 : k - (List.map shP (L.take k)).length = 0 := by simp; omega
  rw [e2, e, List.set_cons_zero, List.append_assoc]
  rfl
theorem flat_setx : ∀ (L : List Pt) (k : Nat) (x : Int), k < L.length → (flat ptL L).set (k * 3) (.int .i64 x) = flat ptL (L.set k ⟨x, (L.getD k pt0).y, (L.getD k pt0).w⟩) := by
  intro L
  induction L with
  | nil => intro k x h; simp at h
  | cons p L ih =>
    intro k x h
    have e : ∀ M q, flat ptL (q :: M) = [.int .i64 q.x, .int .i64 q.y, .int .i64 q.w] ++ flat ptL M := fun M q => by simp [flat, ptL]
    cases k with
    | zero => rw [e]; simp [flat, ptL]
    | succ k =>
      rw [e, List.set_append_right _ _ (by simp; omega)]
      have h2 := ih k x (by simp at h; omega)
      rw [show (k + 1) * 3 - [Value.int .i64 p.x, .int .i64 p.y, .int .i64 p.w].length = k * 3 by simp; omega, h2]
      simp [flat, ptL]
attribute [irreducible] shK

set_option maxRecDepth 100000 in
set_option maxHeartbeats 16000000 in
theorem walk_ImageBack (a0 : Option Addr) (len0 cap0 : Nat) (z0 : List Int) (a1 : Int) (a2 : Int) (w : World) (w0 : IsFlat 3 w a0 len0 cap0 z0) (w1 : (Lit.int .i64 a1).wf = true) (w2 : (Lit.int .u8 a2).wf = true) :
    Calls Try.prog 3 #[.slice a0 len0 cap0, .int .i64 a1, .int .u8 a2] w fun e w' => e = .returned (.bool true) ∧ Below w.heap.size w w' := by
  obtain ⟨S, hS, wS, nS⟩ := spots_in w0
  obtain ⟨i1, i2⟩ := wf_bd w1
  obtain ⟨by', rfl, hby⟩ : ∃ y : Nat, a2 = y ∧ y < 256 := by
    have : 0 ≤ a2 ∧ a2 ≤ 255 := by simpa [Lit.wf, IntKind.min, IntKind.max, IntKind.signed, IntKind.bits] using w2
    exact ⟨a2.toNat, by omega, by omega⟩
  have CP := Kp.mk (points_any a0 cap0 len0 40 3000 S w hS (by unfold maxLen at nS; omega) (by omega) (by omega) (by omega) wS)
  clear w0 w1 w2 hS wS
  go_enter Try.func3, Try.ntmps3
  go_wp2_with fail
  refine CP.out.mono ?_
  rintro e w1 ⟨sa, sc, n, rfl, HR, HO, hb1⟩
  have HB1 := Kp.mk hb1
  have hn40 : n ≤ 40 := by have := HR.out; rw [ptsOf_length] at this; omega
  have HBD := Kp.mk (ptsOf_bd S 40 3000 (by omega))
  generalize ptsOf S 40 3000 = P at *
  clear hb1 CP
  obtain ⟨B, hB⟩ : ∃ B, B = w.heap.size := ⟨_, rfl⟩
  have HBE := Kp.mk hB
  rw [← hB] at HO HB1
  clear hB
  obtain ⟨wo, rfl⟩ : ∃ wo : World, wo = w1 := ⟨_, rfl⟩
  go_wp2
  go_loopw [8] (fun i wr => ∃ (k : Nat), k ≤ n ∧ i = .int .i64 k ∧ Kp (wr.ownsRow B 26 3 (.slice sa n sc) n (flat ptL (shK P k))) ∧ Kp (Below B w wr)) (fun i _ => n - (intOf i).toNat)
  case atStart => exact ⟨0, Nat.zero_le _, rfl, ⟨by rw [shK_zero]; exact HO.out⟩, HB1⟩
  case round =>
    clear HO HB1
    obtain ⟨k, hk, rfl, HO, HBW⟩ := hrel
    by_cases hlt : k < n
    · obtain ⟨g, rfl, hg1, hg2⟩ := own_some HO.out (by omega)
      have HSL := Kp.mk (show SlF ptL 3 wr (some ⟨g, 0, none⟩) n sc (shK P k) from own_slc HO.out)
      obtain ⟨_, _, e1, x0, x1, x2⟩ := pt_cells HSL.out k hlt
      simp only [Option.some.injEq, Addr.mk.injEq, and_true] at e1
      obtain ⟨rfl, rfl⟩ := e1
      have hkP : k < P.length := by rw [HR.out]; exact hlt
      have hbd := HBD.out (P.getD k pt0) (by rw [getD_at _ _ hkP]; exact List.getElem_mem _)
      have hsx := flat_setx (shK P k) k ((P.getD k pt0).x - 1500) (by rw [shK_length _ _ (by omega)]; exact hkP)
      rw [shK_at P k hkP] at hsx x0 x1 x2
      have hss := shK_set P k hkP
      have f0 := HO.out.frozenAt (k * 3)
      have HO2 := Kp.mk (show (wr.setCell ⟨g, k * 3, none⟩ (.int .i64 ((P.getD k pt0).x - 1500))).ownsRow B 26 3 (.slice (some ⟨g, 0, none⟩) n sc) n (flat ptL (shK P (k + 1))) from by
        rw [← hss]
        unfold shP
        rw [← hsx]
        exact (HO.out.stored (k * 3) (.int .i64 ((P.getD k pt0).x - 1500))).1)
      have hg := grown_set wr g (k * 3) (.int .i64 ((P.getD k pt0).x - 1500))
      have HB2 := Kp.mk (HBW.out.trans (below_of_grown hg (by have := HBW.out.size; have := HBE.out; omega) (fun q hq => by cases hq; exact hg1)))
      have ew : IntKind.i64.wrap ((P.getD k pt0).x - 1500) = (P.getD k pt0).x - 1500 := IntWalk.i64_in _ (by omega)
      clear hsx hss hg HSL
      generalize P.getD k pt0 = p at *
      simp only [Nat.zero_add] at x0
      go_wp2
      go_roundw
      case rel => exact ⟨k + 1, by omega, by go_num, HO2, HB2⟩
      case measure => simp [intOf]; omega
    · obtain rfl : k = n := by omega
      rw [shK_all P k HR.out] at HO
      have HNR := Kp.mk (show ∀ p ∈ P.map shP, p.Near from fun p hp => by
        obtain ⟨q, hq, rfl⟩ := List.mem_map.1 hp
        have := HBD.out q hq
        unfold Pt.Near shP; simp only; omega)
      have HLN := Kp.mk (show (P.map shP).length = k from by rw [List.length_map]; exact HR.out)
      generalize P.map shP = L at *
      have HP := Kp.mk (show SlF ptL 3 wr sa k sc L from own_slc HO.out)
      have hBW := HBW.out
      rw [HBE.out] at hBW
      have HBW2 := Kp.mk hBW
      clear HO HBD HR hBW HBW
      go_wp2_with (at_builtin; refine wpList_cat tPts rfl _ _ rfl wr.heap.size none 0 0 [] rfl (World.ownsRow_nil _ _ _ _) _ _ _ _ rfl HP.out (flat_one ptL_one L) ?c1 (by decide) (Nat.le_refl _) ?c2)
      case c1 => omega
      case c2 =>
        intro qa qc w3 hown3 hbel3
        have HQ3 := Kp.mk (show SlF ptL 3 w3 qa k qc L from own_slc (by simpa using hown3))
        have HP3 := Kp.mk (SlF.below HP.out hbel3)
        have HB3 := Kp.mk (below_step HBW2.out hbel3)
        have C1 := Kp.mk (save_any qa k qc L w3 HQ3.out (by omega) HLN.out HNR.out)
        clear hown3 hbel3 HP HBW2
        go_wp2_with fail
        refine C1.out.mono ?_
        rintro e w4 ⟨ra, r, rc, rfl, hr, HOS, HB4⟩
        have HP4 := Kp.mk (SlF.below HP3.out HB4.out)
        have HB4' := Kp.mk (below_step HB3.out HB4.out)
        have HSV := Kp.mk (show SlB w4 ra r rc (saveL L) from own_slb HOS.out)
        have hrl : r = (encI (numsP L)).length + 4 := by rw [← HSV.out.len, saveL_len]
        have hm5 := encI_len (numsP L)
        obtain ⟨m, hm⟩ : ∃ m, m = (encI (numsP L)).length := ⟨_, rfl⟩
        rw [← hm] at hrl hm5
        have HM := Kp.mk hm
        clear hm C1 HQ3 HP3 HB3 HB4 HOS
        subst hrl
        have hsv := HSV.out
        obtain ⟨gb, go, rfl, _⟩ := byte_cell hsv 0 (by omega)
        clear hsv
        have hrc : m + 4 ≤ rc := SlC.le HSV.out
        go_wp2_with (at_builtin; refine wpList_cat tBytes rfl _ _ rfl w4.heap.size none 0 0 [] rfl (World.ownsRow_nil _ _ _ _) _ _ _ _ rfl HSV.out (byts_one _) ?b1 (by decide) (Nat.le_refl _) ?b2)
        case b1 => omega
        case b2 =>
          intro ua uc w5 hown5 hbel5
          have HU5 := Kp.mk (show SlB w5 ua (m + 4) uc (saveL L) from own_slb (by simpa using hown5))
          have HSV5 := Kp.mk (SlB.below HSV.out hbel5)
          have HP5 := Kp.mk (SlF.below HP4.out hbel5)
          have HB5 := Kp.mk (below_step HB4'.out hbel5)
          have CL := Kp.mk (load_any ua m uc (saveL L) w5 HU5.out (saveL_lt L) hm5 (by omega))
          clear hown5 hbel5 HSV HP4 HB4'
          go_wp2_with fail
          refine CL.out.mono ?_
          rintro e w6 ⟨ta, c, tc, code, rfl, HLS, HB6⟩
          have hls := HLS.out
          rw [HM.out] at hls
          obtain ⟨rfl, rfl, ho⟩ := load_back HNR.out HLN.out (by omega) hls
          have HT6 := Kp.mk (show SlF ptL 3 w6 ta c tc L from own_slc ho)
          have HSV6 := Kp.mk (SlB.below HSV5.out HB6.out)
          have HP6 := Kp.mk (SlF.below HP5.out HB6.out)
          have HB6' := Kp.mk (below_step HB5.out HB6.out)
          have CQ := Kp.mk (samePts_any sa ta c sc tc L w6 HP6.out HT6.out (by omega))
          have t9 : decide ((m : Int) + 4 < 9) = false := decide_eq_false (by omega)
          clear CL hls ho HLS HU5 HSV5 HP5 HB5 HB6
          go_wp2_with fail
          refine CQ.out.mono ?_
          rintro e w7 ⟨rfl, hb7⟩
          have HSV7 := Kp.mk (SlB.below HSV6.out hb7)
          have HB7 := Kp.mk (below_step HB6'.out hb7)
          clear CQ hb7 HT6 HSV6 HP6 HB6'
          obtain ⟨q, hq, hql⟩ := pick_nat a1 (m + 4) (by omega)
          have CK := Kp.mk (fun W => hq ▸ picked_any a1 ((m + 4 : Nat) : Int) W (by omega) (by omega) i1 i2)
          have hqm : q < m + 4 := by omega
          clear hq
          go_wp2_with fail
          refine (CK.out _).mono ?_
          rintro e w' ⟨rfl, rfl⟩
          have hqc : q ≤ rc := by omega
          have CU := Kp.mk (show Calls Try.prog 17 #[.slice (some ⟨gb, go, none⟩) q rc] w7 (fun e w' => ∃ (ra : Option Addr) (c' rc' : Nat) (code : Int), e = .returned (.tuple #[.slice ra c' rc', .int .i64 code]) ∧ (code = 6 ∨ code = 4 ∨ code = 5) ∧ Kp (Below w7.heap.size w7 w')) from by
            by_cases h9 : q < 9
            · refine (loadShort_any _ q rc w7 h9).mono ?_
              rintro e w' ⟨rfl, rfl⟩
              exact ⟨none, 0, 0, 5, rfl, .inr (.inr rfl), ⟨Below.refl _ _⟩⟩
            · obtain ⟨m', rfl⟩ : ∃ m', q = m' + 4 := ⟨q - 4, by omega⟩
              have hs : SlB w7 (some ⟨gb, go, none⟩) (m' + 4) rc ((saveL L).take (m' + 4)) := by
                have := SlC.front HSV7.out (show m' + 4 ≤ m + 4 by omega)
                rw [Nat.mul_one, byts_take] at this; exact this
              refine (load_any _ m' rc _ w7 hs (fun x hx => saveL_lt L x (List.mem_of_mem_take hx)) (by omega) (by omega)).mono ?_
              rintro e w' ⟨ta, c', tc, code, rfl, HLS, HB⟩
              have h2 := load_cut HNR.out HLN.out (by omega) (by rw [← HM.out]; omega) HLS.out
              exact ⟨ta, c', tc, code, rfl, by rcases h2 with h | h; exact .inl h; exact .inr (.inl h), HB⟩)
          clear CK
          go_wp2_with fail
          refine CU.out.mono ?_
          rintro e w8 ⟨xa, c', xc, code, rfl, hcode, HB8⟩
          have hc0 : (code == 0) = false := by rw [beq_eq_false_iff_ne]; omega
          have HSV8 := Kp.mk (SlB.below HSV7.out HB8.out)
          have HB8' := Kp.mk (below_step HB7.out HB8.out)
          clear CU HSV7 HB7 HB8 hcode
          by_cases hz : by' = 0
          · subst hz
            go_wp2
            go_ret
            exact ⟨rfl, HB8'.out⟩
          · have hz2 : ((by' : Int) == 0) = false := by rw [beq_eq_false_iff_ne]; omega
            go_wp2_with (at_builtin; refine wpList_cat tBytes rfl _ _ rfl w8.heap.size none 0 0 [] rfl (World.ownsRow_nil _ _ _ _) _ _ _ _ rfl HSV8.out (byts_one _) ?g1 (by decide) (Nat.le_refl _) ?g2)
            case g1 => omega
            case g2 =>
              intro ua uc w9 hown9 hbel9
              have hown9' : w9.ownsRow w8.heap.size 5 1 (.slice ua (m + 4) uc) (m + 4) (byts (saveL L)) := by simpa using hown9
              have HB9 := Kp.mk (below_step HB8'.out hbel9)
              obtain ⟨g, rfl, hg1, hg2⟩ := own_some hown9' (by omega)
              have HO9 := Kp.mk hown9'
              have HS9 := Kp.mk (own_slb hown9')
              clear hown9 hbel9 hown9' HSV8
              obtain ⟨_, _, ee, cx⟩ := byte_cell HS9.out q hqm
              simp only [Option.some.injEq, Addr.mk.injEq, and_true] at ee
              obtain ⟨rfl, rfl⟩ := ee
              simp only [Nat.zero_add] at cx
              have hql2 : q < (saveL L).length := by rw [HS9.out.len]; exact hqm
              have hx := saveL_lt L _ (List.getElem_mem hql2)
              have HGE := Kp.mk (getD_at (saveL L) 0 hql2)
              have e1 := u8_xor_nat ((saveL L)[q]) by' hx hby
              have hyl : (saveL L)[q] ^^^ by' < 256 := Nat.xor_lt_two_pow (n := 8) hx hby
              have hne : (saveL L)[q] ^^^ by' ≠ (saveL L)[q] := fun e => hz (by
                have := congrArg ((saveL L)[q] ^^^ ·) e
                simpa [← Nat.xor_assoc] using this)
              rw [HGE.out] at cx
              have HLD := Kp.mk (fun (B : Nat) (w' : World) (ra : Option Addr) (c rc : Nat) (code : Int) => load_set (B := B) (w' := w') (ra := ra) (c := c) (rc := rc) (code := code) hql2 hyl hne)
              rw [← HM.out] at HLD
              generalize (saveL L)[q] ^^^ by' = y at *
              generalize (saveL L)[q] = x at *
              have f0 := HO9.out.frozenAt q
              have HO10 := Kp.mk (show (w9.setCell ⟨g, q, none⟩ (.int .u8 (y : Int))).ownsRow w8.heap.size 5 1 (.slice (some ⟨g, 0, none⟩) (m + 4) uc) (m + 4) (byts ((saveL L).set q y)) from by
                rw [← byts_set]
                exact (HO9.out.stored q (.int .u8 (y : Int))).1)
              have hgs := grown_set w9 g q (.int .u8 (y : Int))
              have HB10 := Kp.mk (HB9.out.trans (below_of_grown hgs HB9.out.size (fun k hk => by cases hk; have := HB8'.out.size; omega)))
              have CL := Kp.mk (load_any (some ⟨g, 0, none⟩) m uc ((saveL L).set q y) _ (own_slb HO10.out) (fun z hz => by
                rcases List.mem_or_eq_of_mem_set hz with h | h
                · exact saveL_lt L z h
                · omega) hm5 (by omega))
              clear hgs hne HGE HO9 HS9 HB9 hz hx hyl hql2
              go_wp2_with fail
              refine CL.out.mono ?_
              rintro e w11 ⟨ta, c2, tc2, code2, rfl, HLS, HB11⟩
              obtain ⟨rfl, rfl⟩ := HLD.out _ _ _ _ _ _ HLS.out
              have HBF := Kp.mk (below_step HB10.out HB11.out)
              clear HLD CL HLS
              go_wp2
              go_ret
              exact ⟨rfl, HBF.out⟩

end Go.Proofs.Ytmfmknpkeniifaa
