/- The walk of SegTurned. -/
import Derived.Test.YtnieacfleabikaaSegZ
import Derived.Test.YtnieacfleabikaaNum
namespace Go.Proofs.Ytnieacfleabikaa
set_option linter.unusedVariables false
open Go.RowKit

/-- The list behind operations, one by one. -/
def runL (D : List Int) (ops : List SOp) : List Int := ops.foldl (fun D o => upd o 0 D) D
theorem runD_runL (D : List Int) (ops : List SOp) (k : Nat) (h : k ≤ ops.length) : runD D ops k = runL D (ops.take k) := by
  induction k with
  | zero => unfold runD; rfl
  | succ k ih =>
    unfold runD
    rw [ih (by omega), List.take_succ_eq_append_getElem (by omega), getD_at _ _ (by omega)]
    unfold runL
    rw [List.foldl_append]; rfl
theorem runL_append (D : List Int) (O P : List SOp) : runL D (O ++ P) = runL (runL D O) P := by unfold runL; rw [List.foldl_append]
theorem runL_length (D : List Int) (O : List SOp) : (runL D O).length = D.length := by
  induction O generalizing D with
  | nil => rfl
  | cons o O ih => unfold runL at *; rw [List.foldl_cons, ih, upd_length]
theorem upd_get (o : SOp) (D : List Int) (j i : Nat) (h : i < D.length) : (upd o j D)[i]'(by rw [upd_length]; exact h) = if o.inn (j + i) = true then o.act D[i] else D[i] := by
  induction D generalizing j i with
  | nil => simp at h
  | cons x D ih =>
    cases i with
    | zero => simp [upd]
    | succ i =>
      simp only [upd, List.getElem_cons_succ]
      rw [ih (j + 1) i (by simpa using h), show j + 1 + i = j + (i + 1) by omega]
/-- What an addition adds at a place. -/
def more (i : Nat) (o : SOp) : Int := if o.inn i = true then o.amt else 0
theorem adds_get (D : List Int) (O : List SOp) (hk : ∀ o ∈ O, o.kind = 1) (i : Nat) (h : i < D.length) : (runL D O)[i]'(by rw [runL_length]; exact h) = D[i] + (O.map (more i)).sum := by
  induction O generalizing D with
  | nil => simp [runL]
  | cons o O ih =>
    have h1 : runL D (o :: O) = runL (upd o 0 D) O := rfl
    have h2 := ih (upd o 0 D) (fun p hp => hk p (List.mem_cons_of_mem _ hp)) (by rw [upd_length]; exact h)
    rw [upd_get o D 0 i h, Nat.zero_add] at h2
    simp only [h1, h2, List.map_cons, List.sum_cons]
    have h3 : o.act D[i] = D[i] + o.amt := by unfold SOp.act; rw [if_pos (hk o (List.mem_cons_self ..))]
    rw [h3]
    unfold more
    split <;> omega
theorem adds_turn (D : List Int) (O : List SOp) (hk : ∀ o ∈ O, o.kind = 1) : runL D O.reverse = runL D O := by
  apply List.ext_getElem
  · rw [runL_length, runL_length]
  · intro i h1 h2
    have h3 : i < D.length := by rw [runL_length] at h1; exact h1
    rw [adds_get D O hk i h3, adds_get D O.reverse (fun o ho => hk o (List.mem_reverse.1 ho)) i h3, List.map_reverse, List.sum_reverse]
/-- What is set. -/
theorem set_get (D : List Int) (lo hi : Nat) (y : Int) (i : Nat) (h : i < D.length) (h1 : lo ≤ i) (h2 : i ≤ hi) : (upd ⟨2, lo, hi, y⟩ 0 D).getD i 0 = y := by
  rw [getD_at _ _ (by rw [upd_length]; exact h), upd_get _ _ _ _ h, Nat.zero_add, inn_yes (o := ⟨2, lo, hi, y⟩) ⟨h1, h2⟩, if_pos rfl]
  rfl
/-- The first k made additions. -/
def addK (O : List SOp) (k : Nat) : List SOp := (O.take k).map fun o => ⟨1, o.lo, o.hi, o.amt⟩

theorem addK_length (O : List SOp) (k : Nat) (h : k ≤ O.length) : (addK O k).length = k := by simp [addK]; omega
theorem addK_succ (O : List SOp) (k : Nat) (h : k < O.length) : addK O (k + 1) = addK O k ++ [⟨1, O[k].lo, O[k].hi, O[k].amt⟩] := by
  unfold addK
  rw [List.take_succ_eq_append_getElem h, List.map_append]; rfl
theorem addK_ok {O : List SOp} {n : Nat} (hk : ∀ o ∈ O, o.Ok n) (k : Nat) : ∀ o ∈ addK O k, o.Ok n := by
  intro o ho
  obtain ⟨p, hp, rfl⟩ := List.mem_map.1 ho
  have := hk p (List.mem_of_mem_take hp)
  exact ⟨by dsimp only; omega, by dsimp only; omega, this.lh, this.hn, this.a1, this.a2⟩
theorem addK_kind (O : List SOp) (k : Nat) : ∀ o ∈ addK O k, o.kind = 1 := by
  intro o ho
  obtain ⟨p, _, rfl⟩ := List.mem_map.1 ho
  rfl
/-- The operations, the first k made additions. -/
def adK (O : List SOp) (k : Nat) : List SOp := addK O k ++ O.drop k
theorem adK_length (O : List SOp) (k : Nat) (h : k ≤ O.length) : (adK O k).length = O.length := by
  rw [adK, List.length_append, addK_length O k h, List.length_drop]; omega
theorem adK_at (O : List SOp) (k : Nat) (h : k < O.length) (h2 : k < (adK O k).length) : (adK O k)[k] = O[k] := by
  have key : ∀ (M : List SOp) (hM : M = addK O k ++ O.drop k) (h2 : k < M.length), M[k] = O[k] := by
    intro M hM h2
    subst hM
    rw [List.getElem_append_right (by rw [addK_length O k (by omega)]; exact Nat.le_refl _)]
    simp only [List.getElem_drop, addK_length O k (by omega), Nat.sub_self, Nat.add_zero]
  exact key _ rfl h2
theorem adK_at1 (O : List SOp) (k : Nat) (h : k < O.length) (h2 : k < (adK O (k + 1)).length) : (adK O (k + 1))[k] = ⟨1, O[k].lo, O[k].hi, O[k].amt⟩ := by
  have key : ∀ (M : List SOp) (hM : M = (addK O k ++ [⟨1, O[k].lo, O[k].hi, O[k].amt⟩]) ++ O.drop (k + 1)) (h2 : k < M.length), M[k] = ⟨1, O[k].lo, O[k].hi, O[k].amt⟩ := by
    intro M hM h2
    subst hM
    rw [List.getElem_append_left (by rw [List.length_append, addK_length O k (by omega)]; simp), List.getElem_append_right (by rw [addK_length O k (by omega)]; exact Nat.le_refl _)]
    simp [addK_length O k (by omega)]
  exact key _ (by rw [← addK_succ O k h]; rfl) h2
theorem adK_set (O : List SOp) (k : Nat) (h : k < O.length) : (flat opL (adK O k)).set (k * 4) (.int .i64 1) = flat opL (adK O (k + 1)) := by
  have e1 : flat opL (adK O k) = flat opL (addK O k) ++ (opL O[k] ++ flat opL (O.drop (k + 1))) := by
    rw [adK, flat_append, List.drop_eq_getElem_cons h]
    unfold flat
    rw [List.flatMap_cons]
  have e2 : flat opL (adK O (k + 1)) = flat opL (addK O k) ++ (opL ⟨1, O[k].lo, O[k].hi, O[k].amt⟩ ++ flat opL (O.drop (k + 1))) := by
    rw [adK, addK_succ O k h, flat_append, flat_append, List.append_assoc]
    simp [flat]
  have hl : (flat opL (addK O k)).length = k * 4 := by rw [flat_length opL_len, addK_length O k (by omega)]
  rw [e1, e2, List.set_append_right (h := by omega), hl, Nat.sub_self]
  rfl
theorem adK_all (O : List SOp) : adK O O.length = addK O O.length := by simp [adK]
theorem adK_zero (O : List SOp) : adK O 0 = O := by simp [adK, addK]
attribute [irreducible] adK addK

set_option maxRecDepth 100000 in
set_option maxHeartbeats 2000000 in
theorem walk_SegTurned (a0 : Option Addr) (len0 cap0 : Nat) (z0 : List Int) (a1 : Option Addr) (len1 cap1 : Nat) (z1 : List Int) (x2_0 x2_1 x2_2 x2_3 : Int) (w : World) (w0 : IsRow .i64 w a0 len0 cap0 z0) (w1 : IsFlat 4 w a1 len1 cap1 z1) (w2 : ∀ n ∈ [x2_0, x2_1, x2_2, x2_3], (Lit.int .i64 n).wf = true) :
    Calls Try.prog 13 #[.slice a0 len0 cap0, .slice a1 len1 cap1, .agg #[.int .i64 x2_0, .int .i64 x2_1, .int .i64 x2_2, .int .i64 x2_3]] w fun e w' => e = .returned (.bool true) ∧ Below w.heap.size w w' := by
  obtain ⟨l, rfl, hl, wl, nl⟩ := row_sl w0
  obtain ⟨L, hL, wL, nL⟩ := works_in w1
  have WX := Kp.mk (show (⟨x2_0, x2_1, x2_2, x2_3⟩ : Wk).Wf from ⟨w2 x2_0 (by simp), w2 x2_1 (by simp), w2 x2_2 (by simp), w2 x2_3 (by simp)⟩)
  unfold maxLen at nl nL
  have HBX := Kp.mk (below_alloc (Nat.le_refl w.heap.size) (.cells #[.int .i64 x2_0, .int .i64 x2_1, .int .i64 x2_2, .int .i64 x2_3] 66))
  have HL := Kp.mk (hl.below HBX.out)
  have HWK := Kp.mk (hL.below HBX.out)
  have HX := Kp.mk (Box.new w #[.int .i64 x2_0, .int .i64 x2_1, .int .i64 x2_2, .int .i64 x2_3] 66)
  have WL := Kp.mk wl
  have WWK := Kp.mk wL
  obtain ⟨m, hm⟩ : ∃ m, m = (sgn l 60 500).length := ⟨_, rfl⟩
  have hm60 : m ≤ 60 := by rw [hm, sgn_length]; omega
  have hok := opOf_ok (m + 1) ⟨x2_0, x2_1, x2_2, x2_3⟩ (by omega)
  obtain ⟨O1, hO1⟩ : ∃ O1, opOf (m + 1) ⟨x2_0, x2_1, x2_2, x2_3⟩ = O1 := ⟨_, rfl⟩
  rw [hO1] at hok
  obtain ⟨k1, lo, hi, am⟩ := O1
  obtain ⟨_, k4, hlh, hin, y1, y2⟩ := hok
  dsimp only at hlh hin y1 y2 k4
  have HO1 := Kp.mk hO1
  have HM := Kp.mk hm
  have HBD := Kp.mk (sgn_bd l 60 500 (by omega))
  clear w0 w1 w2 hl wl hL wL hm hO1
  go_enter Try.func13, Try.ntmps13
  go_wp2_with fail
  obtain ⟨bx, hbx⟩ : ∃ bx, bx = w.heap.size := ⟨_, rfl⟩
  rw [← hbx] at HX ⊢
  have HBE := Kp.mk hbx
  clear hbx
  generalize w.alloc (.cells #[.int .i64 x2_0, .int .i64 x2_1, .int .i64 x2_2, .int .i64 x2_3] 66) = wx at *
  refine (signed_any a0 cap0 60 500 l wx HL.out (by omega) (by omega) (by omega) (by omega) WL.out).mono ?_
  rintro e w1 ⟨na, nc, rfl, hO, hb⟩
  unfold OwnI at hO
  rw [← HM.out] at hO ⊢
  have HO := Kp.mk hO
  have HB := Kp.mk hb
  have hsz := Kp.mk hb.size
  clear hO hb
  go_wp2_with (at_builtin; refine wpList_push tInts rfl _ _ rfl wx.heap.size na m nc _ rfl HO.out 1 1 _ rfl rfl ?d1 (by decide) ?d2 (by decide) hsz.out ?d4)
  case d1 => simp [Value.oneCell']
  case d2 => omega
  case d4 =>
    intro sa sc w2 hown hbel
    have hb2 := HB.out.trans hbel
    have HNL := Kp.mk (show (sgn l 60 500 ++ [3]).length = m + 1 by rw [List.length_append, ← HM.out]; rfl)
    have HN := Kp.mk (show SlI w2 sa sc (sgn l 60 500 ++ [3]) from own_sl_len (by rw [ints_append]; exact hown) HNL.out)
    have HBN := Kp.mk (show ∀ x ∈ sgn l 60 500 ++ [3], x.natAbs ≤ 1048576 from fun x hx => by
      rcases List.mem_append.1 hx with hx | hx
      · have := HBD.out x hx; omega
      · rw [List.mem_singleton.1 hx]; omega)
    have HX2 := Kp.mk (HX.out.below hb2)
    have HB2 := Kp.mk (HBX.out.trans (hb2.mono (by have := HBX.out.size; omega)))
    have HWK2 := Kp.mk (HWK.out.below hb2)
    clear hown hbel HO HM HBD hsz HB HBX HL HWK HX hb2
    generalize sgn l 60 500 ++ [3] = N at *
    go_wp2_with fail
    refine (ops_any a1 cap1 len1 30 (m + 1) L w2 HWK2.out (by omega) (by omega) (by omega) (by omega) WWK.out).mono ?_
    rintro e w3 ⟨oa, oc, r, rfl, HRL, HRO, hb3⟩
    have HOK := Kp.mk (opsOf_ok L 30 (m + 1) (by omega))
    have hr60 : r ≤ 30 := by rw [← HRL.out, opsOf_length]; omega
    have HB3 := Kp.mk hb3
    have HGB := Kp.mk (own_lt HRO.out)
    have HGL := Kp.mk (show ∀ g, oa = some ⟨g, 0, none⟩ → w2.heap.size ≤ g ∧ g < w3.heap.size from fun g hg => HGB.out g (by rw [hg]; rfl))
    have HS23 := Kp.mk hb3.size
    clear hb3 HWK2
    generalize opsOf L 30 (m + 1) = O at *
    go_wp2
    go_loopw [9, 10] (fun v i wr => ∃ (k : Nat) (ba : Option Addr) (bc : Nat), k ≤ r ∧ i = .int .i64 k ∧ v = .slice ba k bc ∧ Kp (wr.ownsRow w2.heap.size 61 4 (.slice oa r oc) r (flat opL (adK O k))) ∧ Kp (wr.ownsRow w3.heap.size 61 4 (.slice ba k bc) k (flat opL (addK O k).reverse)) ∧ Kp (Below w2.heap.size w2 wr) ∧ Kp (w3.heap.size ≤ wr.heap.size)) (fun _ i _ => r - (intOf i).toNat)
    case atStart => exact ⟨0, none, 0, Nat.zero_le _, rfl, rfl, ⟨by rw [adK_zero]; exact HRO.out⟩, ⟨by unfold addK; exact World.ownsRow_nil _ _ _ _⟩, HB3, ⟨Nat.le_refl _⟩⟩
    case round =>
      obtain ⟨k, ba, bc, hk, rfl, rfl, HA, HK, HBL, HSZ⟩ := hrel
      by_cases hlt : k < r
      · have hkO : k < O.length := by rw [HRL.out]; exact hlt
        obtain ⟨g, rfl, _, _⟩ := own_some HA.out (by omega)
        obtain ⟨hg1, hg2⟩ := HGL.out g rfl
        have hsz3 := HSZ.out
        have hl1 : (adK O k).length = r := by rw [adK_length O k (by omega), HRL.out]
        have hl2 : (adK O (k + 1)).length = r := by rw [adK_length O (k + 1) (by omega), HRL.out]
        have c0 := own_at opL_len HA.out hl1 k (by omega) 0 (by omega)
        have f0 := HA.out.frozenAt (k * 4)
        rw [adK_at O k hkO] at c0
        have c0' : wr.cell? ⟨g, k * 4, none⟩ = some (.int .i64 O[k].kind) := c0
        have hst := (HA.out.stored (k * 4) (.int .i64 1)).1
        rw [adK_set O k hkO] at hst
        have HA2 := Kp.mk hst
        have hgs : Turned [g] wr (wr.setCell ⟨g, k * 4, none⟩ (.int .i64 1)) := (Turned.refl _ _).set g _ _ (by simp)
        have HK2 := Kp.mk (hgs.own HK.out (fun q hq hm => by have := (own_lt HK.out q hq).1; rw [List.mem_singleton.1 hm] at this; omega))
        have HBL2 := Kp.mk (HBL.out.trans (hgs.below HBL.out.size (fun q hq => by rw [List.mem_singleton.1 hq]; exact hg1)))
        have HSZ2 := Kp.mk (show w3.heap.size ≤ (wr.setCell ⟨g, k * 4, none⟩ (.int .i64 1)).heap.size from by rw [size_setCell]; exact hsz3)
        clear c0 hst hgs
        go_upto_region 8 with (fail)
        generalize wr.setCell ⟨g, k * 4, none⟩ (.int .i64 1) = wr1 at *
        clear c0' f0
        have hkl : k < (adK O (k + 1)).length := by omega
        have e1 := adK_at1 O k hkO hkl
        have co := fun j hj => own_at opL_len HA2.out hl2 k hkl j hj
        rw [e1] at co
        have d0 : wr1.cell? ⟨g, k * 4, none⟩ = some (.int .i64 1) := co 0 (by omega)
        have d1 : wr1.cell? ⟨g, k * 4 + 1, none⟩ = some (.int .i64 O[k].lo) := co 1 (by omega)
        have d2 : wr1.cell? ⟨g, k * 4 + 2, none⟩ = some (.int .i64 O[k].hi) := co 2 (by omega)
        have d3 : wr1.cell? ⟨g, k * 4 + 3, none⟩ = some (.int .i64 O[k].amt) := co 3 (by omega)
        have HSU := Kp.mk (addK_succ O k hkO)
        have hszw := HSZ2.out
        clear co e1 hl1 hl2 hkl
        generalize O[k] = o at *
        obtain ⟨ok, olo, ohi, oam⟩ := o
        dsimp only at d0 d1 d2 d3 HSU
        have hlit := Kp.mk (World.ownsRow_lit (base := w3.heap.size) (size := 4) (e := 61) wr1 #[.int .i64 1, .int .i64 olo, .int .i64 ohi, .int .i64 oam] 1 hszw (by decide) rfl)
        have hbal := below_alloc (Nat.le_refl wr1.heap.size) (.cells #[.int .i64 1, .int .i64 olo, .int .i64 ohi, .int .i64 oam] 61)
        have HSL := Kp.mk ((own_slc HK2.out).below hbal)
        have HA3 := Kp.mk (own_below HA2.out hbal)
        have HBL3 := Kp.mk (HBL2.out.trans (hbal.mono (by have := HBL2.out.size; omega)))
        have hsa : w3.heap.size ≤ (wr1.alloc (.cells #[.int .i64 1, .int .i64 olo, .int .i64 ohi, .int .i64 oam] 61)).heap.size := by rw [alloc_size]; omega
        clear hbal
        go_wp2_with (at_builtin; refine wpList_catS tOps rfl _ _ rfl w3.heap.size _ 1 1 _ rfl hlit.out ba k bc _ rfl HSL.out (flat_one opL_one _) ?g1 (by decide) hsa ?g2)
        case g1 => omega
        case g2 =>
          intro sa' sc' w' hown' hgr hno
          have HA4 := Kp.mk (own_keep HA3.out hgr (fun q hq hm => by simp [blk] at hq hm; omega))
          have HBL4 := Kp.mk (HBL3.out.trans (below_of_grown hgr (by have := HBL3.out.size; omega) (fun q hq => by simp [blk] at hq; omega)))
          have HSZ4 := Kp.mk (Nat.le_trans hsa hgr.size)
          have HK4 := Kp.mk (show w'.ownsRow w3.heap.size 61 4 (.slice sa' (k + 1) sc') (k + 1) (flat opL (addK O (k + 1)).reverse) from by
            rw [HSU.out, List.reverse_append, Nat.add_comm k 1]
            rw [show ([⟨1, olo, ohi, oam⟩] : List SOp).reverse ++ (addK O k).reverse = [⟨1, olo, ohi, oam⟩] ++ (addK O k).reverse from rfl, flat_append]
            exact hown')
          have hk1 : 1 + k = k + 1 := by omega
          rw [hk1]
          clear hown' hgr hno
          go_wp2
          go_roundw
          case rel => exact ⟨k + 1, sa', sc', by omega, by go_num, rfl, HA4, HK4, HBL4, HSZ4⟩
          case measure => simp [intOf]; omega
      · obtain rfl : k = r := by omega
        have hA0 : adK O k = addK O k := by rw [← HRL.out, adK_all]
        rw [hA0] at HA
        have HAL := Kp.mk (addK_length O k (by rw [HRL.out]; exact Nat.le_refl _))
        have HAK := Kp.mk (addK_kind O k)
        have HAO := Kp.mk (addK_ok HOK.out k)
        have HBB := Kp.mk (own_lt HK.out)
        have hszr := HSZ.out
        have HX3 := Kp.mk (HX2.out.below HBL.out)
        have HBW := Kp.mk (HB2.out.trans (HBL.out.mono HB2.out.size))
        have hb23 := HBL.out.size
        clear hA0 HRL HRO HOK HX2 HB3 HGL
        generalize addK O k = A at *
        have k0 : wr.cell? ⟨bx, 0, none⟩ = some (.int .i64 x2_0) := HX3.out.cell 0 rfl
        have k1' : wr.cell? ⟨bx, 1, none⟩ = some (.int .i64 x2_1) := HX3.out.cell 1 rfl
        have k2 : wr.cell? ⟨bx, 2, none⟩ = some (.int .i64 x2_2) := HX3.out.cell 2 rfl
        have k3 : wr.cell? ⟨bx, 3, none⟩ = some (.int .i64 x2_3) := HX3.out.cell 3 rfl
        have hlit := World.ownsRow_lit (base := wr.heap.size) (size := 4) (e := 66) wr #[.int .i64 x2_0, .int .i64 x2_1, .int .i64 x2_2, .int .i64 x2_3] 1 (Nat.le_refl _) (by decide) rfl
        have HLT := Kp.mk (show SlF wkL 4 _ _ 1 1 [⟨x2_0, x2_1, x2_2, x2_3⟩] from own_slc hlit)
        have HBA := Kp.mk (below_alloc (Nat.le_refl wr.heap.size) (.cells #[.int .i64 x2_0, .int .i64 x2_1, .int .i64 x2_2, .int .i64 x2_3] 66))
        clear hlit
        go_wp2_with fail
        refine (ops_any _ 1 1 1 (m + 1) _ _ HLT.out (by omega) (by omega) (by omega) (by omega) (fun x hx => by rw [List.mem_singleton.1 hx]; exact WX.out)).mono ?_
        rintro e w4 ⟨ta, tc, t, rfl, HTL, HTO, hb4⟩
        obtain rfl : t = 1 := by rw [← HTL.out, opsOf_length]; rfl
        obtain ⟨gt, rfl, _, _⟩ := own_some HTO.out (by omega)
        have HB34 := Kp.mk (below_step HBA.out hb4)
        have e1 : opsOf [⟨x2_0, x2_1, x2_2, x2_3⟩] 1 (m + 1) = [⟨k1, lo, hi, am⟩] := by unfold opsOf; simp [HO1.out]
        have j0 : w4.cell? ⟨gt, 0, none⟩ = some (.int .i64 k1) := by rw [HTO.out.cellAt 0 (by omega), e1]; rfl
        have j1 : w4.cell? ⟨gt, 1, none⟩ = some (.int .i64 lo) := by rw [HTO.out.cellAt 1 (by omega), e1]; rfl
        have j2 : w4.cell? ⟨gt, 2, none⟩ = some (.int .i64 hi) := by rw [HTO.out.cellAt 2 (by omega), e1]; rfl
        have j3 : w4.cell? ⟨gt, 3, none⟩ = some (.int .i64 am) := by rw [HTO.out.cellAt 3 (by omega), e1]; rfl
        have HBL4 := Kp.mk (HBL.out.trans (HB34.out.mono HBL.out.size))
        have hwr4 := HB34.out.size
        have HA4 := Kp.mk (own_below HA.out HB34.out)
        have HK4 := Kp.mk (own_below HK.out HB34.out)
        have hs4 : w3.heap.size ≤ w4.heap.size := Nat.le_trans HSZ.out HB34.out.size
        clear e1 k0 k1' k2 k3 hb4 HTO HTL HLT HBA HB34 HX3 HBW HA HK HSZ hb23 HBL
        have v1 := Box.new w4 #[.int .i64 k1, .int .i64 lo, .int .i64 hi, .int .i64 am] 61
        have u0 : (w4.alloc (.cells #[.int .i64 k1, .int .i64 lo, .int .i64 hi, .int .i64 am] 61)).cell? ⟨w4.heap.size, 0, none⟩ = some (.int .i64 k1) := v1.cell 0 rfl
        have uf := v1.free 0
        go_upto_region 11 with (fail)
        have v2 : Box (w4.alloc (.cells #[.int .i64 2, .int .i64 lo, .int .i64 hi, .int .i64 am] 61)) w4.heap.size #[.int .i64 2, .int .i64 lo, .int .i64 hi, .int .i64 am] 61 := Box.new _ _ _
        have hb5 : Below w4.heap.size w4 (w4.alloc (.cells #[.int .i64 2, .int .i64 lo, .int .i64 hi, .int .i64 am] 61)) := (Below.refl _ _).alloc (Nat.le_refl _) _
        have hs5 : w4.heap.size < (w4.alloc (.cells #[.int .i64 2, .int .i64 lo, .int .i64 hi, .int .i64 am] 61)).heap.size := by rw [alloc_size]; omega
        obtain ⟨bo, hbo⟩ : ∃ bo, bo = w4.heap.size := ⟨_, rfl⟩
        have HBL5 := Kp.mk (HBL4.out.trans (hb5.mono HBL4.out.size))
        have HA5 := Kp.mk (own_below HA4.out hb5)
        have HK5 := Kp.mk (own_below HK4.out hb5)
        rw [← hbo] at v2 hs5 ⊢
        have hbo3 : w3.heap.size ≤ bo := by omega
        have hbor : wr.heap.size ≤ bo := by omega
        clear u0 uf v1 j0 j1 j2 j3 HA4 HK4 HBL4 hb5
        generalize w4.alloc (.cells #[.int .i64 2, .int .i64 lo, .int .i64 hi, .int .i64 am] 61) = w5 at *
        clear hbo
        have V2 := Kp.mk v2
        have u0 : w5.cell? ⟨bo, 0, none⟩ = some (.int .i64 2) := v2.cell 0 rfl
        have u1 : w5.cell? ⟨bo, 1, none⟩ = some (.int .i64 lo) := v2.cell 1 rfl
        have u2 : w5.cell? ⟨bo, 2, none⟩ = some (.int .i64 hi) := v2.cell 2 rfl
        have u3 : w5.cell? ⟨bo, 3, none⟩ = some (.int .i64 am) := v2.cell 3 rfl
        have hs25 : w2.heap.size ≤ w5.heap.size := by have := HS23.out; omega
        clear v2
        go_wp2_with (at_builtin; refine wpList_pushS tOps rfl _ _ rfl w2.heap.size oa k oc _ rfl HA5.out 1 _ rfl rfl ?e1 ?e2 (by decide) hs25 ?e4)
        case e1 => simp [Value.oneCell']
        case e2 => omega
        case e4 =>
        intro pa pc w6 hown6 hg6 hno6
        have HP := Kp.mk (show SlF opL 4 w6 pa (k + 1) pc (A ++ [⟨2, lo, hi, am⟩]) from by
          unfold SlF
          rw [flat_append]
          exact own_slc hown6)
        have HS6 := hg6.size
        have HBL6 := Kp.mk (HBL5.out.trans (below_of_grown hg6 hs25 (fun q hq => (HGB.out q hq).1)))
        have HK6 := Kp.mk (own_keep HK5.out hg6 (fun q hq hm => by have := (HGB.out q hq).2; have := (HBB.out q hm).1; omega))
        have V6 := Kp.mk (show Box w6 bo #[.int .i64 2, .int .i64 lo, .int .i64 hi, .int .i64 am] 61 from (hg6.block bo V2.out.lt (fun e => by have := (HGB.out bo e.symm).2; omega)).trans V2.out)
        have HSOK := Kp.mk (show (⟨2, lo, hi, am⟩ : SOp).Ok (m + 1) from ⟨by dsimp only; omega, by dsimp only; omega, hlh, hin, y1, y2⟩)
        have HP2 := Kp.mk (show ∀ o ∈ A ++ [⟨2, lo, hi, am⟩], o.Ok (m + 1) from fun o ho => by
          rcases List.mem_append.1 ho with ho | ho
          · exact HAO.out o ho
          · rw [List.mem_singleton.1 ho]; exact HSOK.out)
        have HR2 := Kp.mk (show ∀ o ∈ A.reverse ++ [⟨2, lo, hi, am⟩], o.Ok (m + 1) from fun o ho => by
          rcases List.mem_append.1 ho with ho | ho
          · exact HAO.out o (List.mem_reverse.1 ho)
          · rw [List.mem_singleton.1 ho]; exact HSOK.out)
        have HN6 := Kp.mk (HN.out.below HBL6.out)
        clear u0 u1 u2 u3 hown6 hg6 hno6 HA5 HK5 V2 HBL5
        go_wp2_with fail
        refine (behind_any sa pa sc pc (m + 1) (k + 1) N _ w6 HN6.out HNL.out HP.out (by omega) (by omega) (by omega) HBN.out HP2.out).mono ?_
        rintro e w7 ⟨ea, ec, xa, xc, rfl, HE, _, hb7⟩
        have HN7 := Kp.mk (HN6.out.below hb7)
        have HK7 := Kp.mk (own_below HK6.out hb7)
        have V7 := Kp.mk (V6.out.below hb7)
        have HBL7 := Kp.mk (HBL6.out.trans (hb7.mono HBL6.out.size))
        have hs7 : w3.heap.size ≤ w7.heap.size := by have := HBL6.out.size; have := hb7.size; omega
        have hk6 := Kp.mk (own_lt HK6.out)
        have u0 : w7.cell? ⟨bo, 0, none⟩ = some (.int .i64 2) := V7.out.cell 0 rfl
        have u1 : w7.cell? ⟨bo, 1, none⟩ = some (.int .i64 lo) := V7.out.cell 1 rfl
        have u2 : w7.cell? ⟨bo, 2, none⟩ = some (.int .i64 hi) := V7.out.cell 2 rfl
        have u3 : w7.cell? ⟨bo, 3, none⟩ = some (.int .i64 am) := V7.out.cell 3 rfl
        clear hb7 HN6 HK6 V6 HP HBL6
        go_wp2_with (at_builtin; refine wpList_pushS tOps rfl _ _ rfl w3.heap.size ba k bc _ rfl HK7.out 1 _ rfl rfl ?h1 ?h2 (by decide) hs7 ?h4)
        case h1 => simp [Value.oneCell']
        case h2 => omega
        case h4 =>
        intro qa qc w8 hown8 hg8 hno8
        have HQ := Kp.mk (show SlF opL 4 w8 qa (k + 1) qc (A.reverse ++ [⟨2, lo, hi, am⟩]) from by
          unfold SlF
          rw [flat_append]
          exact own_slc hown8)
        have hs27 : w2.heap.size ≤ w7.heap.size := by have := HS23.out; omega
        have hg8b := below_of_grown hg8 hs7 (fun q hq => (HBB.out q hq).1)
        have HBL8 := Kp.mk (HBL7.out.trans (below_of_grown hg8 hs27 (fun q hq => by have := (HBB.out q hq).1; have := HS23.out; omega)))
        have HN8 := Kp.mk (HN.out.below HBL8.out)
        have HE8 := Kp.mk (own_keep HE.out hg8 (fun q hq hm => by have := (hk6.out q hq).2; have := (own_lt HE.out q hm).1; omega))
        have V8 := Kp.mk (show Box w8 bo #[.int .i64 2, .int .i64 lo, .int .i64 hi, .int .i64 am] 61 from (hg8.block bo V7.out.lt (fun e => by have := (HBB.out bo e.symm).2; omega)).trans V7.out)
        clear u0 u1 u2 u3 hown8 hg8 hno8 HK7 V7 HBL7 HE hg8b hk6
        go_wp2_with fail
        refine (behind_any sa qa sc qc (m + 1) (k + 1) N _ w8 HN8.out HNL.out HQ.out (by omega) (by omega) (by omega) HBN.out HR2.out).mono ?_
        rintro e w9 ⟨fa, fc, ya, yc, rfl, HF, _, hb9⟩
        have HE9 := Kp.mk (own_below HE8.out hb9)
        have V9 := Kp.mk (V8.out.below hb9)
        have HBL9 := Kp.mk (HBL8.out.trans (hb9.mono HBL8.out.size))
        have HX1 := Kp.mk (show runD N (A ++ [⟨2, lo, hi, am⟩]) (k + 1) = upd ⟨2, lo, hi, am⟩ 0 (runL N A) from by
          rw [runD_runL _ _ _ (by simp [HAL.out]), List.take_of_length_le (by simp [HAL.out]), runL_append]; rfl)
        have HX2 := Kp.mk (show runD N (A.reverse ++ [⟨2, lo, hi, am⟩]) (k + 1) = upd ⟨2, lo, hi, am⟩ 0 (runL N A) from by
          rw [runD_runL _ _ _ (by simp [HAL.out]), List.take_of_length_le (by simp [HAL.out]), runL_append, adds_turn N A HAK.out]; rfl)
        rw [HX1.out] at HE9
        rw [HX2.out] at HF
        have HDL := Kp.mk (show (upd ⟨2, lo, hi, am⟩ 0 (runL N A)).length = m + 1 from by rw [upd_length, runL_length, HNL.out])
        have HSG := Kp.mk (fun i (h1 : lo ≤ i) (h2 : i ≤ hi) => set_get (runL N A) lo hi am i (by rw [runL_length, HNL.out]; omega) h1 h2)
        clear hb9 HE8 V8 HX1 HX2 HP2 HR2 HSOK HQ HN8 HN7 HBL8
        generalize upd ⟨2, lo, hi, am⟩ 0 (runL N A) = D at *
        have HED := Kp.mk (own_sl_len HE9.out HDL.out)
        have HFD := Kp.mk (own_sl_len HF.out HDL.out)
        go_wp2_with fail
        refine (sameInts_same ea fa ec fc (m + 1) D D w9 HED.out HFD.out HDL.out HDL.out rfl (by omega)).mono ?_
        rintro e w10 ⟨rfl, hb10⟩
        have HD := Kp.mk (HED.out.below hb10)
        have V10 := V9.out.below hb10
        have HBA := Kp.mk (HB2.out.trans ((HBL9.out.trans (hb10.mono HBL9.out.size)).mono HB2.out.size))
        have u1 : w10.cell? ⟨bo, 1, none⟩ = some (.int .i64 lo) := V10.cell 1 rfl
        have u2 : w10.cell? ⟨bo, 2, none⟩ = some (.int .i64 hi) := V10.cell 2 rfl
        have u3 : w10.cell? ⟨bo, 3, none⟩ = some (.int .i64 am) := V10.cell 3 rfl
        clear hb10 HED HFD HE9 HF V9 V10 HBL9
        go_wp2
        go_loopw [18] (fun i wr => ∃ (j n : Nat), lo ≤ j ∧ j ≤ hi + 1 ∧ i = .int .i64 j ∧ wr = w10.drewN n) (fun i _ => hi + 1 - (intOf i).toNat)
        case atStart => exact ⟨lo, 0, Nat.le_refl _, by omega, rfl, rfl⟩
        case round =>
          obtain ⟨j, n, hj1, hj2, rfl, rfl⟩ := hrel
          by_cases hlt : j ≤ hi
          · obtain ⟨eb, eo, rfl, cj⟩ := HD.out.at j (by rw [HDL.out]; omega)
            have hv := HSG.out j hj1 hlt
            rw [getD_at _ _ (by rw [HDL.out]; omega)] at hv
            rw [hv] at cj
            have hji : (j : Int) < (m : Int) + 1 := by omega
            have hjh : (j : Int) ≤ hi := by omega
            clear hv
            go_wp2
            go_quiet (fail)
            go_wp2
            go_roundw
            case rel => exact ⟨j + 1, _, by omega, by omega, by go_num, rfl⟩
            case measure => simp [intOf]; omega
          · obtain rfl : j = hi + 1 := by omega
            have hgt : ¬ (((hi + 1 : Nat) : Int) ≤ hi) := by omega
            go_wp2
            go_ret
            exact ⟨rfl, HBA.out.trans (drewN_below n)⟩

end Go.Proofs.Ytnieacfleabikaa
