import Derived.Test.YtladgklnacihkaaGreatMg29
import Derived.Test.YtladgklnacihkaaGreatMg30
/- DynUndone: the walk. -/
namespace Go.Proofs.YtladgklnacihkaaGreat
set_option linter.unusedVariables false
open Go.RowKit Dy

set_option maxRecDepth 100000 in
set_option maxHeartbeats 64000000 in
theorem walk_DynUndone (a0 : Option Addr) (len0 cap0 : Nat) (z0 : List Int) (x1_0 x1_1 x1_2 : Int) (a2 : Int) (a3 : Int) (a4 : Int) (a5 : Int) (w : World) (w0 : IsFlat 8 w a0 len0 cap0 z0) (w1 : ∀ n ∈ [x1_0, x1_1, x1_2], (Lit.int .i64 n).wf = true) (w2 : (Lit.int .i64 a2).wf = true) (w3 : (Lit.int .i64 a3).wf = true) (w4 : (Lit.int .i64 a4).wf = true) (w5 : (Lit.int .i64 a5).wf = true) :
    Calls Tryz.prog 3 #[.slice a0 len0 cap0, .agg #[.int .i64 x1_0, .int .i64 x1_1, .int .i64 x1_2], .int .i64 a2, .int .i64 a3, .int .i64 a4, .int .i64 a5] w fun e w' => e = .returned (.bool true) ∧ Below w.heap.size w w' := by
  obtain ⟨C, hC, wC, nC⟩ := chores_in w0
  obtain ⟨ix1, ix2⟩ := wf_bd (w1 x1_0 (by simp))
  obtain ⟨iy1, iy2⟩ := wf_bd (w1 x1_1 (by simp))
  obtain ⟨iv1, iv2⟩ := wf_bd (w1 x1_2 (by simp))
  obtain ⟨vx, ex, gx⟩ := pick_nat x1_0 20 (by omega)
  obtain ⟨vy, ey, gy⟩ := pick_nat x1_1 20 (by omega)
  obtain ⟨vv, ev, gv⟩ := pick_nat x1_2 9 (by omega)
  have CX := Kp.mk (fun W => picked_any x1_0 20 W (by omega) (by omega) ix1 ix2)
  have CY := Kp.mk (fun W => picked_any x1_1 20 W (by omega) (by omega) iy1 iy2)
  have CV := Kp.mk (fun W => picked_any x1_2 9 W (by omega) (by omega) iv1 iv2)
  have CR := Kp.mk (fun W => rectOf_any a2 a3 a4 a5 20 W (by omega) (by omega) w2 w3 w4 w5)
  unfold RectPost at CR
  rw [ex] at CX
  rw [ey] at CY
  rw [ev] at CV
  have ha := below_alloc (Nat.le_refl w.heap.size) (.cells #[.int .i64 x1_0, .int .i64 x1_1, .int .i64 x1_2] 24)
  have HA := Kp.mk ha
  have HBS := Kp.mk (Box.new w #[.int .i64 x1_0, .int .i64 x1_1, .int .i64 x1_2] 24)
  have CA := Kp.mk (acts_any a0 cap0 len0 C (w.alloc (.cells #[.int .i64 x1_0, .int .i64 x1_1, .int .i64 x1_2] 24)) (SlF.below hC ha) (hC.len chL_len (by unfold maxLen at nC; omega)) nC wC)
  clear w0 w1 w2 w3 w4 w5 hC wC nC ha ex ey ev ix1 ix2 iy1 iy2 iv1 iv2
  go_enter Tryz.func3, Tryz.ntmps3
  go_wp2_with fail
  refine CA.out.mono ?_
  rintro e w1 ⟨sa, n, sc, L, rfl, HLF, HO, HB1⟩
  obtain ⟨hln, hn100, hok⟩ := HLF.out
  have HLN := Kp.mk hln
  have HOK := Kp.mk hok
  have HB01 := Kp.mk (below_step HA.out HB1.out)
  have HBX1 := Kp.mk (HBS.out.below HB1.out)
  have HAS1 := Kp.mk (show SlF acL 10 w1 sa n sc L from own_slc HO.out)
  obtain ⟨tb, htb⟩ : ∃ tb, w.heap.size = tb := ⟨_, rfl⟩
  rw [htb] at HBX1
  have HTB := Kp.mk htb
  have hsz1 : tb < w1.heap.size := by have := HB01.out.size; have := HB1.out.size; rw [alloc_size] at this; omega
  clear CA HLF HO HA HBS HB1 hln hok htb
  go_upto_region 2 with (fail)
  simp only [HTB.out]
  have hS0 : w1.cell? ⟨tb, 0, none⟩ = some (.int .i64 x1_0) ∧ w1.cell? ⟨tb, 1, none⟩ = some (.int .i64 x1_1) ∧ w1.cell? ⟨tb, 2, none⟩ = some (.int .i64 x1_2) := ⟨HBX1.out.cell 0 rfl, HBX1.out.cell 1 rfl, HBX1.out.cell 2 rfl⟩
  have hSA : ∀ o, (w1.alloc o).cell? ⟨tb, 0, none⟩ = some (.int .i64 x1_0) ∧ (w1.alloc o).cell? ⟨tb, 1, none⟩ = some (.int .i64 x1_1) ∧ (w1.alloc o).cell? ⟨tb, 2, none⟩ = some (.int .i64 x1_2) := fun o => ⟨(HBX1.out.alloc o).cell 0 rfl, (HBX1.out.alloc o).cell 1 rfl, (HBX1.out.alloc o).cell 2 rfl⟩
  go_cut [14] (fun v8 wx => ∃ t8, v8 = .pointer (some ⟨t8, 0, none⟩) ∧ Kp (Box wx t8 #[.int .i64 1, .int .i64 vx, .int .i64 vy, .int .i64 vv, .int .i64 0, .int .i64 0, .int .i64 0, .int .i64 0, .int .i64 0, .int .i64 0] 32) ∧ Kp (Below w1.heap.size w1 wx))
  case first =>
    go_region_held3 (fun W => W.cell? ⟨tb, 0, none⟩ = some (.int .i64 x1_0) ∧ W.cell? ⟨tb, 1, none⟩ = some (.int .i64 x1_1) ∧ W.cell? ⟨tb, 2, none⟩ = some (.int .i64 x1_2))
      (first | exact hS0 | exact hSA _ | go_keep)
      ((first
        | (go_at_call 6; with_reducible refine (CX.out _).mono ?_; rintro e w' ⟨rfl, rfl⟩)
        | (go_at_call 6; with_reducible refine (CY.out _).mono ?_; rintro e w' ⟨rfl, rfl⟩)
        | (go_at_call 6; with_reducible refine (CV.out _).mono ?_; rintro e w' ⟨rfl, rfl⟩)
        | fail))
    all_goals
      go_wp2
      go_meet
      first
        | exact ⟨_, rfl, ⟨Box.new w1 _ _⟩, ⟨(below_alloc (Nat.le_refl _) _).drew⟩⟩
        | exact ⟨_, rfl, ⟨Box.new w1 _ _⟩, ⟨below_alloc (Nat.le_refl _) _⟩⟩
  case rest =>
  obtain ⟨t14, rfl, HP2, HB12⟩ := hcut
  obtain ⟨w2, rfl⟩ : ∃ w2 : World, w2 = wc := ⟨_, rfl⟩
  have HAS2 := Kp.mk (SlF.below HAS1.out HB12.out)
  have HB02 := Kp.mk (below_step HB01.out HB12.out)
  clear hS0 hSA HAS1 HB01 HB12 HBX1 CX CY CV
  go_upto_region 3 with (fail)
  have HKS := Kp.mk (fun (W : World) (hW : Below w2.heap.size w2 W) => show W.cell? ⟨t14, 0, none⟩ = some (.int .i64 1) ∧ W.cell? ⟨t14, 1, none⟩ = some (.int .i64 vx) ∧ W.cell? ⟨t14, 2, none⟩ = some (.int .i64 vy) ∧ W.cell? ⟨t14, 3, none⟩ = some (.int .i64 vv) ∧ W.cell? ⟨t14, 4, none⟩ = some (.int .i64 0) ∧ W.cell? ⟨t14, 5, none⟩ = some (.int .i64 0) ∧ W.cell? ⟨t14, 6, none⟩ = some (.int .i64 0) ∧ W.cell? ⟨t14, 7, none⟩ = some (.int .i64 0) ∧ W.cell? ⟨t14, 8, none⟩ = some (.int .i64 0) ∧ W.cell? ⟨t14, 9, none⟩ = some (.int .i64 0) from
    have hb := HP2.out.below hW
    ⟨hb.cell 0 rfl, hb.cell 1 rfl, hb.cell 2 rfl, hb.cell 3 rfl, hb.cell 4 rfl, hb.cell 5 rfl, hb.cell 6 rfl, hb.cell 7 rfl, hb.cell 8 rfl, hb.cell 9 rfl⟩)
  have hS0 := HKS.out w2 (Below.refl _ _)
  have hD : Below w2.heap.size w2 w2.drew := (Below.refl _ _).drew
  have hDl : Below w2.heap.size w2 (w2.alloc (.cells #[.int .i64 1, .int .i64 vx, .int .i64 vy, .int .i64 vv, .int .i64 0, .int .i64 0, .int .i64 0, .int .i64 0, .int .i64 0, .int .i64 0] 32)).drew := (below_alloc (Nat.le_refl _) _).drew
  have hSl := HKS.out _ hDl
  have hzl : w2.heap.size ≤ (w2.alloc (.cells #[.int .i64 1, .int .i64 vx, .int .i64 vy, .int .i64 vv, .int .i64 0, .int .i64 0, .int .i64 0, .int .i64 0, .int .i64 0, .int .i64 0] 32)).drew.heap.size := hDl.size
  have CA1 := Kp.mk (fun (W : World) (a : Option Addr) (c : Nat) (h : W.ownsRow w2.heap.size 32 10 (.slice a (n + 1) c) (n + 1) (flat acL L ++ #[.int .i64 1, .int .i64 vx, .int .i64 vy, .int .i64 vv, .int .i64 0, .int .i64 0, .int .i64 0, .int .i64 0, .int .i64 0, .int .i64 0].toList)) => answered_any a c (n + 1) (L ++ [acP vx vy vv]) W (by
      have h2 := own_slc h
      have e : flat acL L ++ #[.int .i64 1, .int .i64 vx, .int .i64 vy, .int .i64 vv, .int .i64 0, .int .i64 0, .int .i64 0, .int .i64 0, .int .i64 0, .int .i64 0].toList = flat acL (L ++ [acP vx vy vv]) := by rw [flat_append]; simp [flat, acL, acP]
      rw [e] at h2
      exact h2) (by rw [List.length_append, HLN.out]; rfl) (by omega) (fun x hx => by
      rcases List.mem_append.1 hx with h1 | h1
      · exact HOK.out x h1
      · rw [List.mem_singleton.1 h1]; exact acP_ok (by omega) (by omega) (by omega)))
  go_cut [15, 16] (fun v15 v16 wx => ∃ oa oc R, v15 = .slice oa (n + 1) oc ∧ v16 = .bool true ∧ Kp (Played wx w2.heap.size (L ++ [acP vx vy vv]) oa (n + 1) oc R) ∧ Kp (Below w2.heap.size w2 wx))
  case first =>
    go_region_held3 (fun W => W.cell? ⟨t14, 0, none⟩ = some (.int .i64 1) ∧ W.cell? ⟨t14, 1, none⟩ = some (.int .i64 vx) ∧ W.cell? ⟨t14, 2, none⟩ = some (.int .i64 vy) ∧ W.cell? ⟨t14, 3, none⟩ = some (.int .i64 vv) ∧ W.cell? ⟨t14, 4, none⟩ = some (.int .i64 0) ∧ W.cell? ⟨t14, 5, none⟩ = some (.int .i64 0) ∧ W.cell? ⟨t14, 6, none⟩ = some (.int .i64 0) ∧ W.cell? ⟨t14, 7, none⟩ = some (.int .i64 0) ∧ W.cell? ⟨t14, 8, none⟩ = some (.int .i64 0) ∧ W.cell? ⟨t14, 9, none⟩ = some (.int .i64 0))
      (first | exact hS0 | with_reducible exact hSl | with_reducible exact hSa | with_reducible exact hSb | with_reducible exact hSc | with_reducible exact hSd | go_keep)
      ((first
        | (refine step_cat0 tActs (by rfl) _ _ (by rfl) w2.heap.size (by rfl) sa n sc _ (by rfl) (SlF.below HAS2.out hD) (flat_one acL_one L) (by omega) (by decide) (Nat.le_refl _) ?_; intro xa xc wa howna hgra; have hba : Below w2.heap.size w2 wa := hD.trans (below_of_grown hgra (Nat.le_refl _) (fun q hq => by cases hq)); have hSa := HKS.out wa hba; have hbl : Below w2.heap.size w2 (wa.alloc (.cells #[.int .i64 1, .int .i64 vx, .int .i64 vy, .int .i64 vv, .int .i64 0, .int .i64 0, .int .i64 0, .int .i64 0, .int .i64 0, .int .i64 0] 32)) := hba.trans (below_alloc hba.size _); have hSb := HKS.out _ hbl; have hown' := howna.alloc (.cells #[.int .i64 1, .int .i64 vx, .int .i64 vy, .int .i64 vv, .int .i64 0, .int .i64 0, .int .i64 0, .int .i64 0, .int .i64 0, .int .i64 0] 32); have hat := heap_alloc_new wa (.cells #[.int .i64 1, .int .i64 vx, .int .i64 vy, .int .i64 vv, .int .i64 0, .int .i64 0, .int .i64 0, .int .i64 0, .int .i64 0, .int .i64 0] 32); have hzz : w2.heap.size ≤ (wa.alloc (.cells #[.int .i64 1, .int .i64 vx, .int .i64 vy, .int .i64 vv, .int .i64 0, .int .i64 0, .int .i64 0, .int .i64 0, .int .i64 0, .int .i64 0] 32)).heap.size := hbl.size)
        | (refine step_cat0 tActs (by rfl) _ _ (by rfl) w2.heap.size (by rfl) sa n sc _ (by rfl) (SlF.below HAS2.out hDl) (flat_one acL_one L) (by omega) (by decide) hzl ?_; intro xa xc wa howna hgra; have hba : Below w2.heap.size w2 wa := hDl.trans (below_of_grown hgra hzl (fun q hq => by cases hq)); have hSa := HKS.out wa hba; have hat : wa.heap[w2.heap.size]? = some (.cells #[.int .i64 1, .int .i64 vx, .int .i64 vy, .int .i64 vv, .int .i64 0, .int .i64 0, .int .i64 0, .int .i64 0, .int .i64 0, .int .i64 0] 32) := (hgra.block _ (by show w2.heap.size < (w2.alloc _).heap.size; rw [alloc_size]; omega) (by simp)).trans (heap_alloc_new w2 _); have hzz := hba.size)
        | (refine step_push tActs (by rfl) _ _ (by rfl) w2.heap.size xa n xc _ (by rfl) hown' 1 wa.heap.size _ hat (by rfl) (by rfl) (by simp [Value.oneCell']) (by omega) (by omega) (by omega) hzz ?_; intro ya yc wb hownb hgrb hnob; have hbb : Below w2.heap.size w2 wb := hbl.trans (below_of_grown hgrb hzz (fun q hq => (ty_own hown' hq).2)); have hSc := HKS.out wb hbb)
        | (refine step_push tActs (by rfl) _ _ (by rfl) w2.heap.size xa n xc _ (by rfl) howna 1 w2.heap.size _ hat (by rfl) (by rfl) (by simp [Value.oneCell']) (by omega) (by omega) (by omega) hzz ?_; intro ya yc wb hownb hgrb hnob; have hbb : Below w2.heap.size w2 wb := hba.trans (below_of_grown hgrb hzz (fun q hq => (ty_own howna hq).2)); have hSc := HKS.out wb hbb)
        | (go_at_call 7; refine (CA1.out wb ya yc hownb).mono ?_; rintro e w3 ⟨oa, oc, R, rfl, HPL, HB3⟩; have hb3 : Below w2.heap.size w2 w3 := hbb.trans (HB3.out.mono hbb.size); have hSd := HKS.out w3 hb3)
        | fail))
    all_goals
      have HPL2 := Kp.mk (show Played w3 w2.heap.size (L ++ [acP vx vy vv]) oa (n + 1) oc R from ⟨HPL.out.len, HPL.out.ans, own_base HPL.out.row hbb.size, fun a ha => own_base (HPL.out.ids a ha) hbb.size⟩)
      go_wp2
      go_meet
      exact ⟨oa, oc, R, rfl, rfl, HPL2, ⟨hb3⟩⟩
  case rest =>
  obtain ⟨oa, oc, R1, rfl, rfl, HX3, HB23⟩ := hcut
  obtain ⟨w3, rfl⟩ : ∃ w3 : World, w3 = wc := ⟨_, rfl⟩
  clear HKS hS0 hD hDl hSl hzl CA1
  have hpn : (L ++ [acP vx vy vv]).length = n + 1 := by rw [List.length_append, HLN.out]; rfl
  have hRn : n < R1.length := by rw [HX3.out.len]; omega
  have han := HX3.out.ans n hRn (by rw [hpn]; omega)
  have egl : (L ++ [acP vx vy vv])[n]'(by rw [hpn]; omega) = acP vx vy vv := by
    rw [List.getElem_append_right (by rw [HLN.out]; exact Nat.le_refl _)]; simp
  rw [egl, show stAt (L ++ [acP vx vy vv]) n = stAt L n from stAt_append _ _ _ (by rw [HLN.out]; exact Nat.le_refl _)] at han
  obtain ⟨hc0, hn0, _⟩ := kind_next rfl han
  obtain ⟨gx1, rfl, _, _⟩ := own_some HX3.out.row (by omega)
  obtain ⟨nx, hnx⟩ : ∃ nx : Nat, (stAt L n).next = nx := ⟨_, rfl⟩
  rw [hnx] at hn0
  have HNX := Kp.mk hnx
  have q0 : w3.cell? ⟨gx1, n * 3, none⟩ = some (.int .i64 0) := by
    have := own_atK HX3.out.row (n * 3 + 0) (.int .i64 (R1[n]).r.code) (by
      have := flat_get anL_len R1 n 0 hRn (by omega)
      simpa [anL] using this)
    rw [hc0] at this; exact this
  have q1 : w3.cell? ⟨gx1, n * 3 + 1, none⟩ = some (.int .i64 (nx : Int)) := by
    have := own_atK HX3.out.row (n * 3 + 1) (.int .i64 (R1[n]).r.n) (by
      have := flat_get anL_len R1 n 1 hRn (by omega)
      simpa [anL] using this)
    rw [hn0] at this; exact this
  have q2 : w3.cell? ⟨gx1, n * 3 + 2, none⟩ = some (.slice (R1[n]).ra (R1[n]).m (R1[n]).rc) := by
    exact own_atK HX3.out.row (n * 3 + 2) _ (by
      have := flat_get anL_len R1 n 2 hRn (by omega)
      simpa [anL] using this)
  generalize (R1[n]).ra = pra at *
  generalize (R1[n]).m = pm at *
  generalize (R1[n]).rc = prc at *
  have ewn : IntKind.i64.wrap ((n : Int) + 1 - 1) = n := by rw [show (n : Int) + 1 - 1 = n by omega]; exact IntWalk.i64_in _ (by omega)
  have HB03 := Kp.mk (below_step HB02.out HB23.out)
  have HAS3 := Kp.mk (SlF.below HAS2.out HB23.out)
  have HP3 := Kp.mk (HP2.out.below HB23.out)
  have hal := below_alloc (Nat.le_refl w3.heap.size) (.cells #[.int .i64 0, .int .i64 (nx : Int), .slice pra pm prc] 39)
  have HT17 := Kp.mk (Box.new w3 #[.int .i64 0, .int .i64 (nx : Int), .slice pra pm prc] 39)
  have HB04 := Kp.mk (below_step HB03.out hal)
  have HAS4 := Kp.mk (SlF.below HAS3.out hal)
  have HP4 := Kp.mk (HP3.out.below hal)
  have hle2 : w.heap.size ≤ w2.heap.size := HB02.out.size
  have HX4 := Kp.mk (HX3.out.below hal)
  clear hRn han egl hc0 hn0 hnx hpn HB02 HAS2 HP2 HB23 HB03 HAS3 HP3 HX3
  go_upto_region 7 with (fail)
  obtain ⟨w4, hw4⟩ : ∃ w4, w3.alloc (.cells #[.int .i64 0, .int .i64 (nx : Int), .slice pra pm prc] 39) = w4 := ⟨_, rfl⟩
  rw [hw4] at HT17 HB04 HAS4 HP4 HX4
  rw [hw4]
  obtain ⟨t17, h17⟩ : ∃ t17, w3.heap.size = t17 := ⟨_, rfl⟩
  rw [h17] at HT17
  simp only [h17]
  have u0 : w4.cell? ⟨t17, 0, none⟩ = some (.int .i64 0) := HT17.out.cell 0 rfl
  clear q0 q1 q2 hal hw4 h17
  go_wp2_with fail
  refine (CR.out _).mono ?_
  rintro e w5 ⟨X0, Y0, X1, Y1, _, _, _, _, rfl, hb5⟩
  have hal5 := below_alloc (Nat.le_refl w5.heap.size) (.cells #[.int .i64 (X0 : Int), .int .i64 (Y0 : Int), .int .i64 (X1 : Int), .int .i64 (Y1 : Int)] 30)
  have hb46 := below_step hb5 hal5
  have HT18 := Kp.mk (Box.new w5 #[.int .i64 (X0 : Int), .int .i64 (Y0 : Int), .int .i64 (X1 : Int), .int .i64 (Y1 : Int)] 30)
  have HT176 := Kp.mk (HT17.out.below hb46)
  have HB06 := Kp.mk (below_step HB04.out hb46)
  have HAS6 := Kp.mk (SlF.below HAS4.out hb46)
  have HP6 := Kp.mk (HP4.out.below hb46)
  have HX6 := Kp.mk (HX4.out.below hb46)
  clear HT17 HB04 HAS4 HP4 HX4 hb46 hb5 hal5 u0 CR
  go_upto_region 10 with (fail)
  obtain ⟨w6, hw6⟩ : ∃ w6, w5.alloc (.cells #[.int .i64 (X0 : Int), .int .i64 (Y0 : Int), .int .i64 (X1 : Int), .int .i64 (Y1 : Int)] 30) = w6 := ⟨_, rfl⟩
  rw [hw6] at HT18 HT176 HB06 HAS6 HP6 HX6
  rw [hw6]
  obtain ⟨t18, h18⟩ : ∃ t18, w5.heap.size = t18 := ⟨_, rfl⟩
  rw [h18] at HT18
  simp only [h18]
  have v0 : w6.cell? ⟨t18, 0, none⟩ = some (.int .i64 (X0 : Int)) := HT18.out.cell 0 rfl
  have v1 : w6.cell? ⟨t18, 1, none⟩ = some (.int .i64 (Y0 : Int)) := HT18.out.cell 1 rfl
  have v2 : w6.cell? ⟨t18, 2, none⟩ = some (.int .i64 (X1 : Int)) := HT18.out.cell 2 rfl
  have v3 : w6.cell? ⟨t18, 3, none⟩ = some (.int .i64 (Y1 : Int)) := HT18.out.cell 3 rfl
  have v4 : w6.cell? ⟨t14, 1, none⟩ = some (.int .i64 (vx : Int)) := HP6.out.cell 1 rfl
  have v5 : w6.cell? ⟨t14, 2, none⟩ = some (.int .i64 (vy : Int)) := HP6.out.cell 2 rfl
  have v6 : w6.cell? ⟨t14, 3, none⟩ = some (.int .i64 (vv : Int)) := HP6.out.cell 3 rfl
  have hal7 := below_alloc (Nat.le_refl w6.heap.size) (.cells #[.int .i64 3, .int .i64 0, .int .i64 0, .int .i64 0, .int .i64 X0, .int .i64 Y0, .int .i64 X1, .int .i64 Y1, .int .i64 0, .int .i64 0, .int .i64 4, .int .i64 0, .int .i64 0, .int .i64 0, .int .i64 X0, .int .i64 Y0, .int .i64 X1, .int .i64 Y1, .int .i64 0, .int .i64 9, .int .i64 5, .int .i64 vx, .int .i64 vy, .int .i64 vv, .int .i64 0, .int .i64 0, .int .i64 0, .int .i64 0, .int .i64 0, .int .i64 5] 32)
  have HLK := Kp.mk (Box.new w6 #[.int .i64 3, .int .i64 0, .int .i64 0, .int .i64 0, .int .i64 X0, .int .i64 Y0, .int .i64 X1, .int .i64 Y1, .int .i64 0, .int .i64 0, .int .i64 4, .int .i64 0, .int .i64 0, .int .i64 0, .int .i64 X0, .int .i64 Y0, .int .i64 X1, .int .i64 Y1, .int .i64 0, .int .i64 9, .int .i64 5, .int .i64 vx, .int .i64 vy, .int .i64 vv, .int .i64 0, .int .i64 0, .int .i64 0, .int .i64 0, .int .i64 0, .int .i64 5] 32)
  have HT177 := Kp.mk (HT176.out.below hal7)
  have HB07 := Kp.mk (below_step HB06.out hal7)
  have HAS7 := Kp.mk (SlF.below HAS6.out hal7)
  have HP7 := Kp.mk (HP6.out.below hal7)
  have HX7 := Kp.mk (HX6.out.below hal7)
  clear HT176 HB06 HAS6 HP6 HX6 hw6 h18 HT18
  go_upto_region 11 with (fail)
  obtain ⟨w7, hw7⟩ : ∃ w7, w6.alloc (.cells #[.int .i64 3, .int .i64 0, .int .i64 0, .int .i64 0, .int .i64 X0, .int .i64 Y0, .int .i64 X1, .int .i64 Y1, .int .i64 0, .int .i64 0, .int .i64 4, .int .i64 0, .int .i64 0, .int .i64 0, .int .i64 X0, .int .i64 Y0, .int .i64 X1, .int .i64 Y1, .int .i64 0, .int .i64 9, .int .i64 5, .int .i64 vx, .int .i64 vy, .int .i64 vv, .int .i64 0, .int .i64 0, .int .i64 0, .int .i64 0, .int .i64 0, .int .i64 5] 32) = w7 := ⟨_, rfl⟩
  rw [hw7] at HLK HT177 HB07 HAS7 HP7 HX7
  rw [hw7]
  obtain ⟨t19, h19⟩ : ∃ t19, w6.heap.size = t19 := ⟨_, rfl⟩
  rw [h19] at HLK
  simp only [h19]
  clear v0 v1 v2 v3 v4 v5 v6 hal7 hw7 h19
  have hhx := HX7.out
  have HKS := Kp.mk (fun (W : World) (hW : Below w7.heap.size w7 W) => show W.cell? ⟨t14, 0, none⟩ = some (.int .i64 1) ∧ W.cell? ⟨t14, 1, none⟩ = some (.int .i64 vx) ∧ W.cell? ⟨t14, 2, none⟩ = some (.int .i64 vy) ∧ W.cell? ⟨t14, 3, none⟩ = some (.int .i64 vv) ∧ W.cell? ⟨t14, 4, none⟩ = some (.int .i64 0) ∧ W.cell? ⟨t14, 5, none⟩ = some (.int .i64 0) ∧ W.cell? ⟨t14, 6, none⟩ = some (.int .i64 0) ∧ W.cell? ⟨t14, 7, none⟩ = some (.int .i64 0) ∧ W.cell? ⟨t14, 8, none⟩ = some (.int .i64 0) ∧ W.cell? ⟨t14, 9, none⟩ = some (.int .i64 0) ∧ W.cell? ⟨t17, 1, none⟩ = some (.int .i64 (nx : Int)) from
    have hb := HP7.out.below hW
    ⟨hb.cell 0 rfl, hb.cell 1 rfl, hb.cell 2 rfl, hb.cell 3 rfl, hb.cell 4 rfl, hb.cell 5 rfl, hb.cell 6 rfl, hb.cell 7 rfl, hb.cell 8 rfl, hb.cell 9 rfl, (HT177.out.below hW).cell 1 rfl⟩)
  have hS0 := HKS.out w7 (Below.refl _ _)
  have hD : Below w7.heap.size w7 w7.drew := (Below.refl _ _).drew
  have hDl : Below w7.heap.size w7 (w7.alloc (.cells #[.int .i64 1, .int .i64 vx, .int .i64 vy, .int .i64 vv, .int .i64 0, .int .i64 0, .int .i64 0, .int .i64 0, .int .i64 0, .int .i64 0, .int .i64 2, .int .i64 0, .int .i64 0, .int .i64 0, .int .i64 0, .int .i64 0, .int .i64 0, .int .i64 0, .int .i64 (nx : Int), .int .i64 0] 32)).drew := (below_alloc (Nat.le_refl _) _).drew
  have hSl := HKS.out _ hDl
  have hzl : w7.heap.size ≤ (w7.alloc (.cells #[.int .i64 1, .int .i64 vx, .int .i64 vy, .int .i64 vv, .int .i64 0, .int .i64 0, .int .i64 0, .int .i64 0, .int .i64 0, .int .i64 0, .int .i64 2, .int .i64 0, .int .i64 0, .int .i64 0, .int .i64 0, .int .i64 0, .int .i64 0, .int .i64 0, .int .i64 (nx : Int), .int .i64 0] 32)).drew.heap.size := hDl.size
  have HLS := Kp.mk (fun (W : World) (hW : Below w7.heap.size w7 W) => show SlF acL 10 W (some ⟨t19, 0, none⟩) 3 3 (looksL vx vy vv X0 Y0 X1 Y1) from
    own_slc (B := 0) ⟨rfl, .inr ⟨t19, 3, _, rfl, Nat.zero_le _, HLK.out.below hW, Nat.le_refl _, by decide, rfl, rfl⟩⟩)
  have CA2 := Kp.mk (fun (W : World) (a : Option Addr) (c : Nat) (h : W.ownsRow w7.heap.size 32 10 (.slice a (n + 2 + 3) c) (n + 2 + 3) (flat acL L ++ #[.int .i64 1, .int .i64 vx, .int .i64 vy, .int .i64 vv, .int .i64 0, .int .i64 0, .int .i64 0, .int .i64 0, .int .i64 0, .int .i64 0, .int .i64 2, .int .i64 0, .int .i64 0, .int .i64 0, .int .i64 0, .int .i64 0, .int .i64 0, .int .i64 0, .int .i64 (nx : Int), .int .i64 0].toList ++ flat acL (looksL vx vy vv X0 Y0 X1 Y1))) => answered_any a c (n + 2 + 3) ((L ++ [acP vx vy vv, acX nx]) ++ looksL vx vy vv X0 Y0 X1 Y1) W (by
      have h2 := own_slc h
      have e : flat acL L ++ #[.int .i64 1, .int .i64 vx, .int .i64 vy, .int .i64 vv, .int .i64 0, .int .i64 0, .int .i64 0, .int .i64 0, .int .i64 0, .int .i64 0, .int .i64 2, .int .i64 0, .int .i64 0, .int .i64 0, .int .i64 0, .int .i64 0, .int .i64 0, .int .i64 0, .int .i64 (nx : Int), .int .i64 0].toList ++ flat acL (looksL vx vy vv X0 Y0 X1 Y1) = flat acL ((L ++ [acP vx vy vv, acX nx]) ++ looksL vx vy vv X0 Y0 X1 Y1) := by rw [flat_append, flat_append]; simp [flat, acL, acP, acX]
      rw [e] at h2
      exact h2) (by simp [looksL, HLN.out]) (by omega) (fun x hx => by
      rcases List.mem_append.1 hx with h1 | h1
      · rcases List.mem_append.1 h1 with h2 | h2
        · exact HOK.out x h2
        · simp only [List.mem_cons, List.not_mem_nil, or_false] at h2
          rcases h2 with rfl | rfl
          · exact acP_ok (by omega) (by omega) (by omega)
          · exact acX_ok _
      · exact looks_ok (by omega) (by omega) (by omega) _ _ _ _ x h1))
  go_cut [20, 21] (fun v15 v16 wx => ∃ oa oc R, v15 = .slice oa (n + 2 + 3) oc ∧ v16 = .bool true ∧ Kp (Played wx w7.heap.size ((L ++ [acP vx vy vv, acX nx]) ++ looksL vx vy vv X0 Y0 X1 Y1) oa (n + 2 + 3) oc R) ∧ Kp (Below w7.heap.size w7 wx))
  case first =>
    go_region_held3 (fun W => W.cell? ⟨t14, 0, none⟩ = some (.int .i64 1) ∧ W.cell? ⟨t14, 1, none⟩ = some (.int .i64 vx) ∧ W.cell? ⟨t14, 2, none⟩ = some (.int .i64 vy) ∧ W.cell? ⟨t14, 3, none⟩ = some (.int .i64 vv) ∧ W.cell? ⟨t14, 4, none⟩ = some (.int .i64 0) ∧ W.cell? ⟨t14, 5, none⟩ = some (.int .i64 0) ∧ W.cell? ⟨t14, 6, none⟩ = some (.int .i64 0) ∧ W.cell? ⟨t14, 7, none⟩ = some (.int .i64 0) ∧ W.cell? ⟨t14, 8, none⟩ = some (.int .i64 0) ∧ W.cell? ⟨t14, 9, none⟩ = some (.int .i64 0) ∧ W.cell? ⟨t17, 1, none⟩ = some (.int .i64 (nx : Int)))
      (first | exact hS0 | with_reducible exact hSl | with_reducible exact hSa | with_reducible exact hSb | with_reducible exact hSc | with_reducible exact hSe | with_reducible exact hSd | go_keep)
      ((first
        | (refine step_cat0 tActs (by rfl) _ _ (by rfl) w7.heap.size (by rfl) sa n sc _ (by rfl) (SlF.below HAS7.out hD) (flat_one acL_one L) (by omega) (by decide) (Nat.le_refl _) ?_; intro xa xc wa howna hgra; have hba : Below w7.heap.size w7 wa := hD.trans (below_of_grown hgra (Nat.le_refl _) (fun q hq => by cases hq)); have hSa := HKS.out wa hba; have hbl : Below w7.heap.size w7 (wa.alloc (.cells #[.int .i64 1, .int .i64 vx, .int .i64 vy, .int .i64 vv, .int .i64 0, .int .i64 0, .int .i64 0, .int .i64 0, .int .i64 0, .int .i64 0, .int .i64 2, .int .i64 0, .int .i64 0, .int .i64 0, .int .i64 0, .int .i64 0, .int .i64 0, .int .i64 0, .int .i64 (nx : Int), .int .i64 0] 32)) := hba.trans (below_alloc hba.size _); have hSb := HKS.out _ hbl; have hown' := howna.alloc (.cells #[.int .i64 1, .int .i64 vx, .int .i64 vy, .int .i64 vv, .int .i64 0, .int .i64 0, .int .i64 0, .int .i64 0, .int .i64 0, .int .i64 0, .int .i64 2, .int .i64 0, .int .i64 0, .int .i64 0, .int .i64 0, .int .i64 0, .int .i64 0, .int .i64 0, .int .i64 (nx : Int), .int .i64 0] 32); have hat := heap_alloc_new wa (.cells #[.int .i64 1, .int .i64 vx, .int .i64 vy, .int .i64 vv, .int .i64 0, .int .i64 0, .int .i64 0, .int .i64 0, .int .i64 0, .int .i64 0, .int .i64 2, .int .i64 0, .int .i64 0, .int .i64 0, .int .i64 0, .int .i64 0, .int .i64 0, .int .i64 0, .int .i64 (nx : Int), .int .i64 0] 32); have hzz : w7.heap.size ≤ (wa.alloc (.cells #[.int .i64 1, .int .i64 vx, .int .i64 vy, .int .i64 vv, .int .i64 0, .int .i64 0, .int .i64 0, .int .i64 0, .int .i64 0, .int .i64 0, .int .i64 2, .int .i64 0, .int .i64 0, .int .i64 0, .int .i64 0, .int .i64 0, .int .i64 0, .int .i64 0, .int .i64 (nx : Int), .int .i64 0] 32)).heap.size := hbl.size)
        | (refine step_cat0 tActs (by rfl) _ _ (by rfl) w7.heap.size (by rfl) sa n sc _ (by rfl) (SlF.below HAS7.out hDl) (flat_one acL_one L) (by omega) (by decide) hzl ?_; intro xa xc wa howna hgra; have hba : Below w7.heap.size w7 wa := hDl.trans (below_of_grown hgra hzl (fun q hq => by cases hq)); have hSa := HKS.out wa hba; have hat : wa.heap[w7.heap.size]? = some (.cells #[.int .i64 1, .int .i64 vx, .int .i64 vy, .int .i64 vv, .int .i64 0, .int .i64 0, .int .i64 0, .int .i64 0, .int .i64 0, .int .i64 0, .int .i64 2, .int .i64 0, .int .i64 0, .int .i64 0, .int .i64 0, .int .i64 0, .int .i64 0, .int .i64 0, .int .i64 (nx : Int), .int .i64 0] 32) := (hgra.block _ (by show w7.heap.size < (w7.alloc _).heap.size; rw [alloc_size]; omega) (by simp)).trans (heap_alloc_new w7 _); have hzz := hba.size)
        | (refine step_push tActs (by rfl) _ _ (by rfl) w7.heap.size xa n xc _ (by rfl) hown' 2 wa.heap.size _ hat (by rfl) (by rfl) (by simp [Value.oneCell']) (by omega) (by omega) (by omega) hzz ?_; intro ya yc wb hownb hgrb hnob; have hbb : Below w7.heap.size w7 wb := hbl.trans (below_of_grown hgrb hzz (fun q hq => (ty_own hown' hq).2)); have hSc := HKS.out wb hbb)
        | (refine step_push tActs (by rfl) _ _ (by rfl) w7.heap.size xa n xc _ (by rfl) howna 2 w7.heap.size _ hat (by rfl) (by rfl) (by simp [Value.oneCell']) (by omega) (by omega) (by omega) hzz ?_; intro ya yc wb hownb hgrb hnob; have hbb : Below w7.heap.size w7 wb := hba.trans (below_of_grown hgrb hzz (fun q hq => (ty_own howna hq).2)); have hSc := HKS.out wb hbb)
        | (refine step_cat tActs (by rfl) _ _ (by rfl) w7.heap.size ya (n + 2) yc _ (by rfl) hownb (some ⟨t19, 0, none⟩) 3 3 _ (by rfl) (HLS.out wb hbb) (flat_one acL_one _) (by omega) (by decide) hbb.size ?_; intro za zc wd hownd hgrd hnod; have hbd : Below w7.heap.size w7 wd := hbb.trans (below_of_grown hgrd hbb.size (fun q hq => (ty_own hownb hq).2)); have hSe := HKS.out wd hbd)
        | (go_at_call 7; refine (CA2.out wd za zc hownd).mono ?_; rintro e w8 ⟨oa, oc, R, rfl, HPL, HB8⟩; have hb8 : Below w7.heap.size w7 w8 := hbd.trans (HB8.out.mono hbd.size); have hSd := HKS.out w8 hb8)
        | fail))
    all_goals
      have HPL2 := Kp.mk (show Played w8 w7.heap.size ((L ++ [acP vx vy vv, acX nx]) ++ looksL vx vy vv X0 Y0 X1 Y1) oa (n + 2 + 3) oc R from ⟨HPL.out.len, HPL.out.ans, own_base HPL.out.row hbd.size, fun a ha => own_base (HPL.out.ids a ha) hbd.size⟩)
      go_wp2
      go_meet
      exact ⟨oa, oc, R, rfl, rfl, HPL2, ⟨hb8⟩⟩
  case rest =>
  obtain ⟨ya, yc, R2, rfl, rfl, HY8, HB78⟩ := hcut
  obtain ⟨w8, rfl⟩ : ∃ w8 : World, w8 = wc := ⟨_, rfl⟩
  clear HKS hS0 hD hDl hSl hzl CA2
  have HB08 := Kp.mk (below_step HB07.out HB78.out)
  have HAS8 := Kp.mk (SlF.below HAS7.out HB78.out)
  have HLS8 := Kp.mk (HLS.out w8 HB78.out)
  have HX8 := Kp.mk (HX7.out.below HB78.out)
  have HT178 := Kp.mk (HT177.out.below HB78.out)
  clear HB07 HAS7 HLS HX7 HT177 HB78 HP7 HLK
  go_wp2_with (at_builtin; refine wpList_cat tActs rfl _ _ rfl w8.heap.size none 0 0 [] rfl (World.ownsRow_nil _ _ _ _) _ _ _ _ rfl HAS8.out (flat_one acL_one L) ?c1 (by decide) (Nat.le_refl _) ?c2)
  case c1 => omega
  case c2 =>
    intro xa xc w9 hown9 hbel9
    have HO9 := Kp.mk (show w9.ownsRow w8.heap.size 32 10 (.slice xa n xc) n (flat acL L) from by simpa using hown9)
    have HB9 := Kp.mk hbel9
    have HLS9 := Kp.mk (SlF.below HLS8.out hbel9)
    have hz9 := hbel9.size
    clear hown9 hbel9
    go_wp2_with (at_builtin; refine wpList_catS tActs rfl _ _ rfl w8.heap.size xa n xc _ rfl HO9.out (some ⟨t19, 0, none⟩) 3 3 _ rfl HLS9.out (flat_one acL_one _) ?e1 (by decide) hz9 ?e2)
    case e1 => omega
    case e2 =>
      intro za zc w10 ho10 hg10 hn10
      have HB10 := Kp.mk (HB9.out.trans (below_of_grown hg10 hz9 (fun q hq => (ty_own HO9.out hq).2)))
      have CZ := Kp.mk (answered_any za zc (n + 3) (L ++ looksL vx vy vv X0 Y0 X1 Y1) w10 (by
        have h2 := own_slc ho10
        rw [← flat_append] at h2
        exact h2) (by simp [looksL, HLN.out]) (by omega) (fun x hx => by
        rcases List.mem_append.1 hx with h1 | h1
        · exact HOK.out x h1
        · exact looks_ok (by omega) (by omega) (by omega) _ _ _ _ x h1))
      clear ho10 hg10 hn10 HO9 HB9 HLS9 hz9
      go_wp2_with fail
      refine CZ.out.mono ?_
      rintro e w11 ⟨zb, zd, R3, rfl, HZ11, HB11⟩
      have hb811 := HB10.out.trans (HB11.out.mono HB10.out.size)
      have HB011 := Kp.mk (below_step HB08.out hb811)
      have HY11 := Kp.mk (HY8.out.below hb811)
      have HX11 := Kp.mk (HX8.out.below hb811)
      have HT11 := Kp.mk (HT178.out.below hb811)
      have HAS11 := Kp.mk (SlF.below HAS8.out hb811)
      clear hb811 HB10 HB11 HB08 HY8 HX8 HT178 HAS8 HLS8 CZ
      have HEQ := Kp.mk (show ∀ j, ∀ h1 : j < 3, ∀ (h2 : n + 2 + j < R2.length) (h3 : n + j < R3.length), (R2[n + 2 + j]).r = (R3[n + j]).r from fun j h1 h2 h3 => by
        have hlk : (looksL vx vy vv X0 Y0 X1 Y1).length = 3 := rfl
        have l1 : (L ++ [acP vx vy vv, acX nx]).length = n + 2 := by simp [HLN.out]
        have g1 := HY11.out.ans (n + 2 + j) h2 (by rw [List.length_append, l1, hlk]; omega)
        have g2 := HZ11.out.ans (n + j) h3 (by rw [List.length_append, HLN.out, hlk]; omega)
        rw [List.getElem_append_right (by omega)] at g1
        rw [List.getElem_append_right (by rw [HLN.out]; omega)] at g2
        simp only [l1, HLN.out, Nat.add_sub_cancel_left] at g1 g2
        refine undone_looks HOK.out (acP vx vy vv) rfl (acP_ok (by omega) (by omega) (by omega)) nx (by rw [HLN.out, HNX.out]) _ (looks_kind vx vy vv X0 Y0 X1 Y1) j (by rw [hlk]; exact h1) (r := (R2[n + 2 + j]).r) (q := (R3[n + j]).r) ?_ ?_
        · rw [l1]; exact g1
        · rw [HLN.out]; exact g2)
      have HYL := Kp.mk HY11.out.len
      have HZL := Kp.mk HZ11.out.len
      obtain ⟨gy1, rfl, _, _⟩ := own_some HY11.out.row (by omega)
      obtain ⟨gz1, rfl, _, _⟩ := own_some HZ11.out.row (by omega)
      have HN100 := Kp.mk hn100
      go_wp2
      go_loopw [24] (fun i wr => ∃ k : Nat, k ≤ 3 ∧ i = .int .i64 k ∧ Kp (Below w11.heap.size w11 wr)) (fun i _ => 3 - (intOf i).toNat)
      case atStart => exact ⟨0, by omega, rfl, ⟨Below.refl _ _⟩⟩
      case round =>
        obtain ⟨k, hk, rfl, HBr⟩ := hrel
        by_cases hlt : k < 3
        · have hy : n + 2 + k < R2.length := by rw [HYL.out]; omega
          have hz : n + k < R3.length := by rw [HZL.out]; omega
          have HE := Kp.mk (HEQ.out k hlt hy hz)
          have hsh := an_short (HZ11.out.ans (n + k) hz (by rw [List.length_append, HLN.out, show (looksL vx vy vv X0 Y0 X1 Y1).length = 3 from rfl]; omega)) (by
            rcases List.mem_append.1 (List.getElem_mem (l := L ++ looksL vx vy vv X0 Y0 X1 Y1) (n := n + k) (by rw [List.length_append, HLN.out, show (looksL vx vy vv X0 Y0 X1 Y1).length = 3 from rfl]; omega)) with h1 | h1
            · exact HOK.out _ h1
            · exact looks_ok (by omega) (by omega) (by omega) _ _ _ _ _ h1)
          have HYr := HY11.out.below HBr.out
          have HZr := HZ11.out.below HBr.out
          obtain ⟨y0, y1, y2⟩ := HYr.cells (n + 2 + k) hy
          obtain ⟨z0, z1, z2⟩ := HZr.cells (n + k) hz
          obtain ⟨sy, ly⟩ := HYr.idsl (n + 2 + k) hy
          obtain ⟨sz, lz⟩ := HZr.idsl (n + k) hz
          clear HYr HZr
          generalize R2[n + 2 + k] = A2 at *
          generalize R3[n + k] = A3 at *
          obtain ⟨ar, aa, am, ac⟩ := A2
          obtain ⟨br, ba, bm, bc⟩ := A3
          simp only at y0 y1 y2 z0 z1 z2 sy ly sz lz hsh
          obtain rfl : ar = br := HE.out
          obtain ⟨cd, nn, ids⟩ := ar
          simp only at y0 y1 y2 z0 z1 z2 sy ly sz lz hsh
          obtain rfl : am = bm := ly.symm.trans lz
          have HSY := Kp.mk sy
          have HSZ := Kp.mk sz
          have HLY := Kp.mk ly
          clear sy sz ly lz HE
          have e1 : IntKind.i64.wrap ((n : Int) + 2 + 3 - 3) = (n : Int) + 2 := by rw [show (n : Int) + 2 + 3 - 3 = (n : Int) + 2 by omega]; exact IntWalk.i64_in _ (by omega)
          have e2 : IntKind.i64.wrap ((n : Int) + 2 + k) = (n : Int) + 2 + k := IntWalk.i64_in _ (by omega)
          have e3 : IntKind.i64.wrap ((n : Int) + 3 - 3) = (n : Int) := by rw [show (n : Int) + 3 - 3 = (n : Int) by omega]; exact IntWalk.i64_in _ (by omega)
          have e4 : IntKind.i64.wrap ((n : Int) + k) = (n : Int) + k := IntWalk.i64_in _ (by omega)
          have hlw : w11.heap.size ≤ wr.heap.size := HBr.out.size
          have halr := below_alloc (Nat.le_refl wr.heap.size) (.cells #[.int .i64 cd, .int .i64 nn, .slice aa am ac] 39)
          have HT25 := Kp.mk (Box.new wr #[.int .i64 cd, .int .i64 nn, .slice aa am ac] 39)
          have z0' := halr.cell (p := ⟨gz1, (n + k) * 3, none⟩) (World.block_lt_of_cell? wr _ z0)
          have z1' := halr.cell (p := ⟨gz1, (n + k) * 3 + 1, none⟩) (World.block_lt_of_cell? wr _ z1)
          have z2' := halr.cell (p := ⟨gz1, (n + k) * 3 + 2, none⟩) (World.block_lt_of_cell? wr _ z2)
          rw [z0] at z0'
          rw [z1] at z1'
          rw [z2] at z2'
          have HSY1 := Kp.mk (HSY.out.below halr)
          have HSZ1 := Kp.mk (HSZ.out.below halr)
          have HBr1 := Kp.mk (HBr.out.trans (halr.mono hlw))
          obtain ⟨t25, h25⟩ : ∃ t25, wr.heap.size = t25 := ⟨_, rfl⟩
          go_upto_region 19 with (fail)
          obtain ⟨wr1, hwr1⟩ : ∃ wr1, wr.alloc (.cells #[.int .i64 cd, .int .i64 nn, .slice aa am ac] 39) = wr1 := ⟨_, rfl⟩
          rw [hwr1] at z0' z1' z2' HSY1 HSZ1 HBr1 HT25 ⊢
          rw [h25] at HT25
          try simp only [h25]
          have hlw1 : w11.heap.size ≤ wr1.heap.size := HBr1.out.size
          clear y0 y1 y2 z0 z1 z2 halr hwr1 h25 HSY HSZ HBr hlw
          have halr := below_alloc (Nat.le_refl wr1.heap.size) (.cells #[.int .i64 cd, .int .i64 nn, .slice ba am bc] 39)
          have HT26 := Kp.mk (Box.new wr1 #[.int .i64 cd, .int .i64 nn, .slice ba am bc] 39)
          have HT252 := Kp.mk (HT25.out.below halr)
          have HSY2 := Kp.mk (HSY1.out.below halr)
          have HSZ2 := Kp.mk (HSZ1.out.below halr)
          have HBr2 := Kp.mk (HBr1.out.trans (halr.mono hlw1))
          obtain ⟨t26, h26⟩ : ∃ t26, wr1.heap.size = t26 := ⟨_, rfl⟩
          clear HT25 HSY1 HSZ1 HBr1
          go_upto_region 20 with (fail)
          obtain ⟨wr2, hwr2⟩ : ∃ wr2, wr1.alloc (.cells #[.int .i64 cd, .int .i64 nn, .slice ba am bc] 39) = wr2 := ⟨_, rfl⟩
          rw [hwr2] at HSY2 HSZ2 HBr2 HT26 HT252 ⊢
          rw [h26] at HT26
          try simp only [h26]
          clear z0' z1' z2' halr hwr2 h26 hlw1
          have p0 : wr2.cell? ⟨t25, 0, none⟩ = some (.int .i64 cd) := HT252.out.cell 0 rfl
          have p1 : wr2.cell? ⟨t25, 1, none⟩ = some (.int .i64 nn) := HT252.out.cell 1 rfl
          have p2 : wr2.cell? ⟨t25, 2, none⟩ = some (.slice aa am ac) := HT252.out.cell 2 rfl
          have q0 : wr2.cell? ⟨t26, 0, none⟩ = some (.int .i64 cd) := HT26.out.cell 0 rfl
          have q1 : wr2.cell? ⟨t26, 1, none⟩ = some (.int .i64 nn) := HT26.out.cell 1 rfl
          have q2 : wr2.cell? ⟨t26, 2, none⟩ = some (.slice ba am bc) := HT26.out.cell 2 rfl
          have hamx : am ≤ 9223372036854775806 := by rw [HLY.out] at hsh; omega
          have CS := Kp.mk (sameInts_same aa ba ac bc am ids ids wr2 HSY2.out HSZ2.out HLY.out HLY.out rfl hamx)
          clear HSY2 HSZ2 HT252 HT26
          go_wp2_with (first
            | (go_at_call 9; refine CS.out.mono ?_; rintro e wr3 ⟨rfl, HB3⟩; have HBr3 := Kp.mk (HBr2.out.trans (HB3.mono HBr2.out.size)); clear HB3)
            | fail)
          go_roundw
          case rel => exact ⟨k + 1, by omega, by go_num, HBr3⟩
          case measure => simp [intOf]; omega
        · obtain rfl : k = 3 := by omega
          have HB0r := Kp.mk (below_step HB011.out HBr.out)
          have HXr := Kp.mk (HX11.out.below HBr.out)
          have HTr := Kp.mk (HT11.out.below HBr.out)
          have HASr := Kp.mk (SlF.below HAS11.out HBr.out)
          have HXL := Kp.mk HX11.out.len
          clear HY11 HZ11 HEQ HYL HZL HBr HB011 HX11 HT11 HAS11 hhx
          obtain ⟨wo, rfl⟩ : ∃ wo : World, wo = wr := ⟨_, rfl⟩
          go_wp2
          go_loopw [27, 28] (fun v i wr => ∃ k q : Nat, k ≤ n ∧ q ≤ k ∧ i = .int .i64 k ∧ v = .int .i64 ((q : Int) - 1) ∧ Kp ((stAt L k).next = q) ∧ Kp (Below wo.heap.size wo wr)) (fun _ i _ => n - (intOf i).toNat)
          case atStart => exact ⟨0, 0, Nat.zero_le _, Nat.le_refl _, rfl, rfl, ⟨rfl⟩, ⟨Below.refl _ _⟩⟩
          case round =>
            obtain ⟨k, q, hk, hqk, rfl, rfl, HQ, HBq⟩ := hrel
            have eq1 : IntKind.i64.wrap ((q : Int) - 1 + 1) = (q : Int) := by rw [show (q : Int) - 1 + 1 = (q : Int) by omega]; exact IntWalk.i64_in _ (by omega)
            have eq2 : IntKind.i64.wrap (q : Int) = (q : Int) := IntWalk.i64_in _ (by omega)
            by_cases hlt : k < n
            · have hkL : k < L.length := by rw [HLN.out]; exact hlt
              have hkR : k < R1.length := by rw [HXL.out]; omega
              have hXq := HXr.out.below HBq.out
              have han := hXq.ans k hkR (by rw [List.length_append, HLN.out]; omega)
              rw [List.getElem_append_left hkL, stAt_append _ _ _ (by omega)] at han
              obtain ⟨r0, r1, _⟩ := hXq.cells k hkR
              obtain ⟨lb, lo, e, _, co⟩ := (SlF.below HASr.out HBq.out).at acL_len (by omega) k hkL
              subst e
              have hst := stAt_succ L k hkL
              have x0 : wr.cell? ⟨lb, lo + k * 10, none⟩ = some (.int .i64 (L[k]).kind) := co 0 (by omega)
              clear co hXq
              by_cases h1 : (L[k]).kind = 1
              · obtain ⟨c0, n0, s0⟩ := kind_next h1 han
                rw [c0] at r0
                rw [n0, HQ.out] at r1
                rw [h1] at x0
                rw [HQ.out] at s0
                have HQ2 := Kp.mk (show (stAt L (k + 1)).next = q + 1 from by rw [hst]; exact s0)
                clear han hst h1 c0 n0 s0 HQ
                go_wp2
                go_roundw
                case rel => exact ⟨k + 1, q + 1, by omega, by omega, by go_num, by go_num, HQ2, HBq⟩
                case measure => simp [intOf]; omega
              · have HQ2 := Kp.mk (show (stAt L (k + 1)).next = q from by rw [hst, other_next h1]; exact HQ.out)
                have e1 : ((L[k]).kind == 1) = false := by simpa using h1
                generalize (L[k]).kind = kk at *
                generalize (R1[k]).r.code = rc at *
                generalize (R1[k]).r.n = rn at *
                clear han hst h1 HQ
                go_wp2
                go_roundw
                case rel => exact ⟨k + 1, q, by omega, by omega, by go_num, rfl, HQ2, HBq⟩
                case measure => simp [intOf]; omega
            · obtain rfl : k = n := by omega
              obtain rfl : q = nx := by rw [← HQ.out, HNX.out]
              have p1 : wr.cell? ⟨t17, 1, none⟩ = some (.int .i64 (q : Int)) := (HTr.out.below HBq.out).cell 1 rfl
              have HBF := Kp.mk (below_step HB0r.out HBq.out)
              clear HQ HNX HTr HASr HXr
              go_wp2
              go_ret
              exact ⟨rfl, HBF.out⟩

end Go.Proofs.YtladgklnacihkaaGreat

