import Derived.Test.YtedchegejalolaaGreatDoorMb22
import Derived.Test.YtedchegejalolaaGreatDoorMb12
import Derived.Test.YtedchegejalolaaGreatDoorMb4
/- Package grid: the function Report. -/
namespace Go.Proofs.YtedchegejalolaaGreatDoor
set_option linter.unusedVariables false
open Go.RowKit

set_option maxRecDepth 100000 in
set_option maxHeartbeats 4000000 in
theorem gReport_any (a : Option Addr) (cap n : Nat) (L : List Pt) (X0 Y0 X1 Y1 : Int) (w : World) (h : SlF ptL 3 w a n cap L) (hn : n ≤ 150) (hN : ∀ p ∈ L, p.Near) :
    Calls Tryz.prog 96 #[.slice a n cap, .agg #[.int .i64 X0, .int .i64 Y0, .int .i64 X1, .int .i64 Y1]] w fun e w' => ∃ ra m rc out, e = .returned (.tuple #[.slice ra m rc, .int .i64 0]) ∧ Kp (IsRep L X0 Y0 X1 Y1 out ∧ out.length = m ∧ m ≤ n) ∧ Kp (w'.ownsRow w.heap.size 3 1 (.slice ra m rc) m (ints (out.map Int.ofNat))) ∧ Kp (Below w.heap.size w w') := by
  have HA := Kp.mk (below_alloc (Nat.le_refl w.heap.size) (.cells #[.int .i64 X0, .int .i64 Y0, .int .i64 X1, .int .i64 Y1] 80))
  have HBX := Kp.mk (Box.new w #[.int .i64 X0, .int .i64 Y0, .int .i64 X1, .int .i64 Y1] 80)
  have H1 := Kp.mk (SlF.below h HA.out)
  have CC := Kp.mk (gcheck_any a cap n L _ H1.out hn hN)
  clear h hN
  go_enter Tryz.func96, Tryz.ntmps96
  go_wp2_with fail
  refine CC.out.mono ?_
  rintro e w1 ⟨rfl, HB1⟩
  have H2 := Kp.mk (SlF.below H1.out HB1.out)
  have HX1 := Kp.mk (HBX.out.below HB1.out)
  have HBB1 := Kp.mk (below_step HA.out HB1.out)
  clear CC H1 HBX HA HB1
  have HD := Kp.mk (show Below w1.heap.size w1 w1.drew from (Below.refl _ _).drew)
  have HP := Kp.mk (SlF.below H2.out HD.out)
  obtain ⟨bz, hbz⟩ : ∃ bz, w.heap.size = bz := ⟨_, rfl⟩
  have HBZE := Kp.mk hbz
  have HBZ := Kp.mk (show bz ≤ w1.heap.size from by rw [← hbz]; exact HBB1.out.size)
  rw [hbz] at HX1 HBB1 ⊢
  have x0 : w1.cell? ⟨bz, 0, none⟩ = some (.int .i64 X0) := HX1.out.cell 0 rfl
  have x1 : w1.cell? ⟨bz, 1, none⟩ = some (.int .i64 Y0) := HX1.out.cell 1 rfl
  have x2 : w1.cell? ⟨bz, 2, none⟩ = some (.int .i64 X1) := HX1.out.cell 2 rfl
  have x3 : w1.cell? ⟨bz, 3, none⟩ = some (.int .i64 Y1) := HX1.out.cell 3 rfl
  have HKS := Kp.mk (fun (w' : World) (hb : Below w1.drew.heap.size w1.drew w') => show w'.cell? ⟨bz, 0, none⟩ = some (.int .i64 X0) ∧ w'.cell? ⟨bz, 1, none⟩ = some (.int .i64 Y0) ∧ w'.cell? ⟨bz, 2, none⟩ = some (.int .i64 X1) ∧ w'.cell? ⟨bz, 3, none⟩ = some (.int .i64 Y1) from by
    have hbx := (HX1.out.below HD.out).below hb
    exact ⟨hbx.cell 0 rfl, hbx.cell 1 rfl, hbx.cell 2 rfl, hbx.cell 3 rfl⟩)
  clear hbz H2
  go_wp2
  go_region_held3 (fun w' => w'.cell? ⟨bz, 0, none⟩ = some (.int .i64 X0) ∧ w'.cell? ⟨bz, 1, none⟩ = some (.int .i64 Y0) ∧ w'.cell? ⟨bz, 2, none⟩ = some (.int .i64 X1) ∧ w'.cell? ⟨bz, 3, none⟩ = some (.int .i64 Y1))
    (first | exact ⟨x0, x1, x2, x3⟩ | exact hS1 | exact hS2 | go_keep)
    ((first
      | (go_at_call 124; refine (greport_any g a cap n L oa oc O V R _ _ X0 Y0 X1 Y1 _ HI.out.to0 HF.out hn).mono ?_; rintro e wc ⟨ra, m, rc, out, rfl, HIR, HOW, HB3⟩; have hS2 := HKS.out wc (HB2.out.trans (HB3.out.mono HB2.out.size)))
      | (go_at_call 67; refine (gbuild_any a cap n L _ HP.out hn).mono ?_; rintro e wq ⟨g, oa, oc, O, va, v, vc, V, wa, wc, R, rfl, HI, HF, HB2, _⟩; have hS1 := HKS.out wq HB2.out)
      | fail))
  all_goals
    have HBE := Kp.mk (HBB1.out.trans ((HD.out.trans ((HB2.out.trans (HB3.out.mono HB2.out.size)).mono HD.out.size)).mono HBZ.out))
    have HOE := Kp.mk (own_base HOW.out (show bz ≤ _ from Nat.le_trans HBZ.out (Nat.le_trans HD.out.size HB2.out.size)))
    clear hS1 hS2 HB2 HB3 HI HF
    go_wp2
    refine bodyPost_ret (v := .tuple #[.slice ra m rc, .int .i64 0]) (by simp [results, Tryz.results96, go_sem]) rfl ?_
    exact ⟨_, _, _, out, rfl, HIR, ⟨by rw [HBZE.out]; exact HOE.out⟩, ⟨by rw [HBZE.out]; exact HBE.out⟩⟩

end Go.Proofs.YtedchegejalolaaGreatDoor

/- Package query: meant: the walk. -/
namespace Go.Proofs.YtedchegejalolaaGreatDoor
set_option linter.unusedVariables false
open Go.RowKit

/-- What meant hands back. -/
def MeantRet (w : World) (f : Nat → Bool) (n : Nat) (e : Ending) (w' : World) : Prop := ∃ ra rc T, e = .returned (.slice ra n rc) ∧ Kp (Tells f n T) ∧ Kp (w'.ownsRow w.heap.size 4 1 (.slice ra n rc) n (bls T)) ∧ Kp (Below w.heap.size w w')

set_option maxRecDepth 100000 in
set_option maxHeartbeats 16000000 in
theorem meant_any (pa : Option Addr) (pc np : Nat) (L : List Pt) (hnp : np ≤ 150) (hN : ∀ p ∈ L, p.Near) : ∀ (x : Ex) (v : ExV) (w : World), IsEx w x v → SlF ptL 3 w pa np pc L →
    Calls Tryz.prog 66 #[.agg (exL v).toArray, .slice pa np pc] w (MeantRet w (x.sem L) np) := by
  refine Ex.ind ?_
  intro x ih v w h hp
  obtain ⟨vs, hv, hsl, hvl, hvs⟩ := h.view
  obtain ⟨S, hS, e1, e2, e5, e3, e4⟩ := x.sem_eq L
  have HIH := Kp.mk (fun (i : Nat) (hi : i < x.parts.length) (W : World) (hW : Below w.heap.size w W) => show Calls Tryz.prog 66 #[.agg (exL (vs.getD i ev0)).toArray, .slice pa np pc] W (MeantRet W (S i) np) from by
    rw [hS i hi]; exact ih _ (List.getElem_mem hi) (vs.getD i ev0) W ((hvs i hi).below hW) (SlF.below hp hW))
  have hsh := x.shape
  have HLL := Kp.mk (hp.len ptL_len (by omega))
  rw [hv]
  clear hv h ih hvs hS
  generalize x.sem L = F at *
  generalize v.sa = sa at *
  generalize v.cap = cap at *
  generalize x.kind = k at *
  generalize x.rx0 = a at *
  generalize x.ry0 = b at *
  generalize x.rx1 = c at *
  generalize x.ry1 = d at *
  generalize x.wt = y at *
  generalize x.parts.length = n at *
  show Calls Tryz.prog 66 #[.agg #[.int .i64 k, .int .i64 a, .int .i64 b, .int .i64 c, .int .i64 d, .int .i64 y, .slice sa n cap], .slice pa np pc] w _
  unfold MeantRet at *
  have hn3 : n ≤ 3 := by omega
  have HSH := Kp.mk hsh
  have HE1 := Kp.mk e1
  have HE2 := Kp.mk e2
  have HE3 := Kp.mk e3
  have HE4 := Kp.mk e4
  have HE5 := Kp.mk e5
  have HVL := Kp.mk hvl
  clear hsh e1 e2 e3 e4 e5 hvl
  have HA := Kp.mk (below_alloc (Nat.le_refl w.heap.size) (.cells #[.int .i64 k, .int .i64 a, .int .i64 b, .int .i64 c, .int .i64 d, .int .i64 y, .slice sa n cap] 83))
  have HBX := Kp.mk (Box.new w #[.int .i64 k, .int .i64 a, .int .i64 b, .int .i64 c, .int .i64 d, .int .i64 y, .slice sa n cap] 83)
  have HSL := Kp.mk (SlF.below hsl HA.out)
  have HP := Kp.mk (SlF.below hp HA.out)
  obtain ⟨bz, hbz⟩ : ∃ bz, w.heap.size = bz := ⟨_, rfl⟩
  obtain ⟨w1, hw1⟩ : ∃ w1, w.alloc (.cells #[.int .i64 k, .int .i64 a, .int .i64 b, .int .i64 c, .int .i64 d, .int .i64 y, .slice sa n cap] 83) = w1 := ⟨_, rfl⟩
  rw [hw1] at HA HBX HSL HP
  rw [hbz] at HBX
  have HBZ := Kp.mk hbz
  go_enter Tryz.func66, Tryz.ntmps66
  go_upto_region 1 with (fail)
  try rw [hw1]
  try simp only [hbz]
  clear hw1 hbz hsl hp
  go_wp2_with (first
    | (at_make; refine wpList_mk1 tBools (by rfl) rfl _ _ rfl w1.heap.size np rfl rfl ?m1 (by decide) (Nat.le_refl _) ?m2)
    | fail)
  case m1 => omega
  case m2 =>
    intro ta tc w2 hT hb2
    have HT := Kp.mk hT
    have HB2 := Kp.mk hb2
    have HZ1 := Kp.mk (show w.heap.size ≤ w1.heap.size from HA.out.size)
    have HT0 := Kp.mk (show Tells (fun _ => false) np (List.replicate np false) from tells_start np)
    have HTO := Kp.mk (show w2.ownsRow w1.heap.size 4 1 (.slice ta np tc) np (bls (List.replicate np false)) from by have h := HT.out; rwa [show List.replicate np (Value.bool false) = bls (List.replicate np false) by simp [bls]] at h)
    generalize List.replicate np false = T0 at *
    have x0 : w2.cell? ⟨bz, 0, none⟩ = some (.int .i64 k) := (HBX.out.below hb2).cell 0 rfl
    have HTL := Kp.mk (fun q hq => (own_lt HTO.out q hq).2)
    clear hT hb2 HT
    have htn : np ≤ tc := (own_slc HTO.out).le
    have hpn : np ≤ pc := HP.out.le
    rcases HSH.out with ⟨rfl, rfl, rfl⟩ | ⟨rfl, rfl, rfl, rfl, rfl, rfl⟩ | ⟨hk34, hn23, rfl, rfl, rfl, rfl, rfl⟩ | ⟨rfl, rfl, rfl, rfl, rfl, rfl, rfl⟩
    · have HEF := Kp.mk (HE1.out rfl)
      clear HE1 HE2 HE3 HE4 HE5 HIH
      have hbx2 := HBX.out.below HB2.out
      have x1 : w2.cell? ⟨bz, 1, none⟩ = some (.int .i64 a) := hbx2.cell 1 rfl
      have x2 : w2.cell? ⟨bz, 2, none⟩ = some (.int .i64 b) := hbx2.cell 2 rfl
      have x3 : w2.cell? ⟨bz, 3, none⟩ = some (.int .i64 c) := hbx2.cell 3 rfl
      have x4 : w2.cell? ⟨bz, 4, none⟩ = some (.int .i64 d) := hbx2.cell 4 rfl
      have CR := Kp.mk (gReport_any pa pc np L a b c d w2 (SlF.below HP.out HB2.out) hnp hN)
      go_wp2_with fail
      refine CR.out.mono ?_
      rintro e w3 ⟨ra, m, rc, rep, rfl, HIR, HRO, HB3⟩
      have HB13 := Kp.mk (HB2.out.trans (HB3.out.mono HB2.out.size))
      have HTO3 := Kp.mk (own_below HTO.out HB3.out)
      obtain ⟨hir, hrl, hmn⟩ := HIR.out
      have HIR2 := Kp.mk hir
      have HRL := Kp.mk hrl
      have HT1 := Kp.mk (show Tells (fun p => decide (p ∈ rep.take 0)) np T0 from HT0.out.congr fun p hp => by simp)
      have hmr : m ≤ rc := (own_slc HRO.out).le
      clear hbx2 x0 x1 x2 x3 x4 CR HIR hir hrl HTO HT0
      go_wp2
      go_loopw [82] (fun v82 wr => ∃ (i : Nat) (T : List Bool), i ≤ m ∧ v82 = .int .i64 i ∧ Kp (Tells (fun p => decide (p ∈ rep.take i)) np T) ∧ Kp (wr.ownsRow w1.heap.size 4 1 (.slice ta np tc) np (bls T)) ∧ Kp (wr.ownsRow w2.heap.size 3 1 (.slice ra m rc) m (ints (rep.map Int.ofNat))) ∧ Kp (Below w1.heap.size w1 wr)) (fun v82 _ => m - (intOf v82).toNat)
      case atStart => exact ⟨0, T0, Nat.zero_le _, rfl, HT1, HTO3, HRO, HB13⟩
      case round =>
        clear HT1 HTO3 HB13 HRO
        obtain ⟨i, T, hi, rfl, HTD, HTO, HRO, HB⟩ := hrel
        by_cases him : i < m
        · have hiz : (i : Int) < m := by omega
          have hpm : rep.getD i 0 ∈ rep := by rw [getD_at rep 0 (by rw [HRL.out]; exact him)]; exact List.getElem_mem _
          have hp : rep.getD i 0 < np := by have := ((HIR2.out.mem _).1 hpm).1; rw [HLL.out] at this; exact this
          have hsr := own_sl_len HRO.out (by rw [List.length_map]; exact HRL.out)
          obtain ⟨rb, ro, rfl, r0⟩ := hsr.at i (by rw [List.length_map, HRL.out]; exact him)
          rw [List.getElem_map, ← getD_at rep 0 (by rw [HRL.out]; exact him)] at r0
          obtain ⟨tb, rfl, htb, _⟩ := own_some HTO.out (by omega)
          have t0 := tells_cell HTD.out HTO.out hp
          have HTS := Kp.mk (tells_mark HTD.out (by rw [HRL.out]; exact him) hp)
          have r0' : wr.cell? ⟨rb, ro + i, none⟩ = some (.int .i64 ((rep.getD i 0 : Nat) : Int)) := r0
          generalize rep.getD i 0 = p at *
          have hpz : (p : Int) < np := by omega
          have f9 := HTO.out.frozenAt p
          have hg := grown_set wr tb p (.bool true)
          have HTO10 := Kp.mk (show (wr.setCell ⟨tb, p, none⟩ (.bool true)).ownsRow w1.heap.size 4 1 (.slice (some ⟨tb, 0, none⟩) np tc) np (bls (T.set p true)) from by
            rw [← bls_set]; exact (HTO.out.stored p (.bool true)).1)
          have HRO10 := Kp.mk (own_keep HRO.out hg (fun q hq e => by cases hq; have h1 := (own_lt HRO.out tb e).1; have h2 := HTL.out tb rfl; omega))
          have HB10 := Kp.mk (HB.out.trans (below_of_grown hg HB.out.size (fun q hq => by cases hq; exact htb)))
          clear hsr hg r0 HTO HRO HB HTD
          go_wp2
          go_roundw
          case rel => exact ⟨i + 1, T.set p true, by omega, by go_num, HTS, HTO10, HRO10, HB10⟩
          case measure => simp [intOf]; omega
        · obtain rfl : m = i := by omega
          have HTF := Kp.mk (show Tells F np T from by
            rw [HEF.out]
            have h := HTD.out
            rw [List.take_of_length_le (by rw [HRL.out]; exact Nat.le_refl _)] at h
            exact tells_rep HIR2.out HLL.out h)
          have HBE := Kp.mk (below_step HA.out HB.out)
          go_wp2
          go_ret
          exact ⟨ta, tc, T, rfl, HTF, ⟨own_base HTO.out HZ1.out⟩, HBE⟩
    · have HEF := Kp.mk (HE2.out rfl)
      clear HE1 HE2 HE3 HE4 HE5 HIH
      have HT1 := Kp.mk (show Tells (upto 0 F (fun _ => false)) np T0 from upto_zero HT0.out)
      go_wp2
      go_loopw [94] (fun v94 wr => ∃ (i : Nat) (T : List Bool), i ≤ np ∧ v94 = .int .i64 i ∧ Kp (Tells (upto i F (fun _ => false)) np T) ∧ Kp (wr.ownsRow w1.heap.size 4 1 (.slice ta np tc) np (bls T)) ∧ Kp (Below w1.heap.size w1 wr)) (fun v94 _ => np - (intOf v94).toNat)
      case atStart => exact ⟨0, T0, Nat.zero_le _, rfl, HT1, HTO, HB2⟩
      case round =>
        clear HT1 HTO HB2 x0 HT0
        obtain ⟨i, T, hi, rfl, HTD, HTO, HB⟩ := hrel
        by_cases hin : i < np
        · have hiz : (i : Int) < np := by omega
          obtain ⟨pb, po, rfl, _, cp⟩ := (SlF.below HP.out HB.out).at ptL_len (by omega) i (by rw [HLL.out]; exact hin)
          rw [← getD_at L pt0 (by rw [HLL.out]; exact hin)] at cp
          have HFI := Kp.mk (show F i = decide ((L.getD i pt0).w ≥ y) from by rw [HEF.out])
          generalize L.getD i pt0 = pt at *
          obtain ⟨px, py, pw⟩ := pt
          have p0 : wr.cell? ⟨pb, po + i * 3, none⟩ = some (.int .i64 px) := cp 0 (by omega)
          have p1 : wr.cell? ⟨pb, po + i * 3 + 1, none⟩ = some (.int .i64 py) := cp 1 (by omega)
          have p2 : wr.cell? ⟨pb, po + i * 3 + 2, none⟩ = some (.int .i64 pw) := cp 2 (by omega)
          have HFI2 := Kp.mk (show F i = decide (pw ≥ y) from HFI.out)
          have hal := below_alloc (Nat.le_refl wr.heap.size) (.cells #[.int .i64 px, .int .i64 py, .int .i64 pw] 78)
          have b4 := Box.new wr #[.int .i64 px, .int .i64 py, .int .i64 pw] 78
          have HTO4 := Kp.mk (own_below HTO.out hal)
          have HB4 := Kp.mk (HB.out.trans (hal.mono HB.out.size))
          obtain ⟨tb, rfl, htb, _⟩ := own_some HTO.out (by omega)
          have HTS := Kp.mk (upto_step HTD.out hin)
          clear cp
          go_upto_region 26 with (fail)
          obtain ⟨w4, hw4⟩ : ∃ w4, wr.alloc (.cells #[.int .i64 px, .int .i64 py, .int .i64 pw] 78) = w4 := ⟨_, rfl⟩
          obtain ⟨bq, hbq⟩ : ∃ bq, wr.heap.size = bq := ⟨_, rfl⟩
          rw [hw4] at b4 HTO4 HB4
          try rw [hw4]
          rw [hbq] at b4
          try simp only [hbq]
          have z2 : w4.cell? ⟨bq, 2, none⟩ = some (.int .i64 pw) := b4.cell 2 rfl
          have y5 : w4.cell? ⟨bz, 5, none⟩ = some (.int .i64 y) := (HBX.out.below HB4.out).cell 5 rfl
          have t0 := tells_cell HTD.out HTO4.out hin
          have f9 := HTO4.out.frozenAt i
          have hg := grown_set w4 tb i (.bool (decide (pw ≥ y)))
          have HTO10 := Kp.mk (show (w4.setCell ⟨tb, i, none⟩ (.bool (decide (pw ≥ y)))).ownsRow w1.heap.size 4 1 (.slice (some ⟨tb, 0, none⟩) np tc) np (bls (T.set i (F i))) from by
            rw [← bls_set, HFI2.out]; exact (HTO4.out.stored i (.bool (decide (pw ≥ y)))).1)
          have HB10 := Kp.mk (HB4.out.trans (below_of_grown hg HB4.out.size (fun q hq => by cases hq; exact htb)))
          generalize hdd : decide (pw ≥ y) = dd at *
          clear p0 p1 p2 hal b4 hw4 hbq hg HTO HTO4 HB HTD HFI
          go_wp2
          go_roundw
          case rel => exact ⟨i + 1, T.set i (F i), by omega, by go_num, HTS, HTO10, HB10⟩
          case measure => simp [intOf]; omega
        · obtain rfl : np = i := by omega
          have HTF := Kp.mk (upto_all HTD.out)
          have HBE := Kp.mk (below_step HA.out HB.out)
          go_wp2
          go_ret
          exact ⟨ta, tc, T, rfl, HTF, ⟨own_base HTO.out HZ1.out⟩, HBE⟩
    · have hcap : n ≤ cap := HSL.out.le
      have hn2 : 2 ≤ n := by omega
      have HEF := Kp.mk (show (k = 3 → F = accS false S (n - 1)) ∧ (k = 4 → F = accS true S (n - 1)) from ⟨HE3.out, HE4.out⟩)
      clear HE1 HE2 HE3 HE4 HE5 HT0 HTO HTL
      have hbx2 := HBX.out.below HB2.out
      have x6 : w2.cell? ⟨bz, 6, none⟩ = some (.slice sa n cap) := hbx2.cell 6 rfl
      have HPC := Kp.mk (fun (W : World) (hW : Below w1.heap.size w1 W) (j : Nat) (hj : j < n) => show ∃ sb so, sa = some ⟨sb, so, none⟩ ∧ W.cell? ⟨sb, so + j * 7, none⟩ = some (.int .i64 (vs.getD j ev0).k) ∧ W.cell? ⟨sb, so + j * 7 + 1, none⟩ = some (.int .i64 (vs.getD j ev0).a) ∧ W.cell? ⟨sb, so + j * 7 + 2, none⟩ = some (.int .i64 (vs.getD j ev0).b) ∧ W.cell? ⟨sb, so + j * 7 + 3, none⟩ = some (.int .i64 (vs.getD j ev0).c) ∧ W.cell? ⟨sb, so + j * 7 + 4, none⟩ = some (.int .i64 (vs.getD j ev0).d) ∧ W.cell? ⟨sb, so + j * 7 + 5, none⟩ = some (.int .i64 (vs.getD j ev0).x) ∧ W.cell? ⟨sb, so + j * 7 + 6, none⟩ = some (.slice (vs.getD j ev0).sa (vs.getD j ev0).n (vs.getD j ev0).cap) from by
        obtain ⟨sb, so, e, _, cs⟩ := (SlF.below HSL.out hW).at exL_len (by omega) j (by rw [HVL.out]; exact hj)
        rw [← getD_at vs ev0 (by rw [HVL.out]; exact hj)] at cs
        exact ⟨sb, so, e, cs 0 (by omega), cs 1 (by omega), cs 2 (by omega), cs 3 (by omega), cs 4 (by omega), cs 5 (by omega), cs 6 (by omega)⟩)
      obtain ⟨sb, so, rfl, c0, c1, c2, c3, c4, c5, c6⟩ := HPC.out w2 HB2.out 0 (by omega)
      simp only [Nat.zero_mul, Nat.add_zero] at c0 c1 c2 c3 c4 c5 c6
      have CM := Kp.mk (HIH.out 0 (by omega) w2 (below_step HA.out HB2.out))
      generalize vs.getD 0 ev0 = U at c0 c1 c2 c3 c4 c5 c6 CM
      obtain ⟨uk, ua, ub, uc, ud, ux, us, un, uq⟩ := U
      dsimp only at c0 c1 c2 c3 c4 c5 c6
      have hno : ¬ cap - 1 = 0 := by omega
      have hc1 : (1 : Int) ≤ n := by omega
      obtain ⟨o, ho⟩ : ∃ o : Bool, (k = 3 ∧ o = false) ∨ (k = 4 ∧ o = true) := by
        rcases hk34 with h | h
        · exact ⟨false, .inl ⟨h, rfl⟩⟩
        · exact ⟨true, .inr ⟨h, rfl⟩⟩
      have HFO := Kp.mk (show F = accS o S (n - 1) from by
        rcases ho with ⟨h1, rfl⟩ | ⟨h1, rfl⟩
        · exact HEF.out.1 h1
        · exact HEF.out.2 h1)
      clear HEF hbx2 hk34
      rcases ho with ⟨rfl, rfl⟩ | ⟨rfl, rfl⟩
      · go_wp2_with fail
        refine CM.out.mono ?_
        rintro e w3 ⟨ra, rc, T1, rfl, HTD, HTO, HB3⟩
        have HB13 := Kp.mk (HB2.out.trans (HB3.out.mono HB2.out.size))
        have y6 : w3.cell? ⟨bz, 6, none⟩ = some (.slice (some ⟨sb, so, none⟩) n cap) := (HBX.out.below HB13.out).cell 6 rfl
        have hrn : np ≤ rc := (own_slc HTO.out).le
        clear c0 c1 c2 c3 c4 c5 c6 x0 x6 CM
        obtain ⟨wo, rfl⟩ : ∃ wo : World, wo = w3 := ⟨_, rfl⟩
        go_wp2
        go_loopw [33] (fun v33 wr => ∃ (j : Nat) (T : List Bool), j ≤ n - 1 ∧ v33 = .int .i64 j ∧ Kp (Tells (accS false S j) np T) ∧ Kp (wr.ownsRow w2.heap.size 4 1 (.slice ra np rc) np (bls T)) ∧ Kp (Below w1.heap.size w1 wr)) (fun v33 _ => n - 1 - (intOf v33).toNat)
        case atStart => exact ⟨0, T1, Nat.zero_le _, rfl, ⟨HTD.out.congr fun p hp => rfl⟩, HTO, HB13⟩
        case round =>
          clear HTD HTO HB13 y6
          obtain ⟨j, T, hj, rfl, HTD, HTO, HB⟩ := hrel
          by_cases hjn : j < n - 1
          · have hjz : (j : Int) < ((n - 1 : Nat) : Int) := by omega
            obtain ⟨sb', so', eu, c0, c1, c2, c3, c4, c5, c6⟩ := HPC.out wr HB.out (j + 1) (by omega)
            simp only [Option.some.injEq, Addr.mk.injEq, and_true] at eu
            obtain ⟨rfl, rfl⟩ := eu
            have hoff : so + (j + 1) * 7 = so + 7 + j * 7 := by omega
            rw [hoff] at c0 c1 c2 c3 c4 c5 c6
            have HIJ := Kp.mk (fun W hW => HIH.out (j + 1) (by omega) W hW)
            generalize vs.getD (j + 1) ev0 = U at c0 c1 c2 c3 c4 c5 c6 HIJ
            obtain ⟨uk, ua, ub, uc, ud, ux, us, un, uq⟩ := U
            dsimp only at c0 c1 c2 c3 c4 c5 c6
            have hal := below_alloc (Nat.le_refl wr.heap.size) (.cells #[.int .i64 uk, .int .i64 ua, .int .i64 ub, .int .i64 uc, .int .i64 ud, .int .i64 ux, .slice us un uq] 83)
            have b4 := Box.new wr #[.int .i64 uk, .int .i64 ua, .int .i64 ub, .int .i64 uc, .int .i64 ud, .int .i64 ux, .slice us un uq] 83
            have HTO4 := Kp.mk (own_below HTO.out hal)
            have HB4 := Kp.mk (HB.out.trans (hal.mono HB.out.size))
            clear hoff
            go_upto_region 7 with (fail)
            obtain ⟨w4, hw4⟩ : ∃ w4, wr.alloc (.cells #[.int .i64 uk, .int .i64 ua, .int .i64 ub, .int .i64 uc, .int .i64 ud, .int .i64 ux, .slice us un uq] 83) = w4 := ⟨_, rfl⟩
            obtain ⟨bq, hbq⟩ : ∃ bq, wr.heap.size = bq := ⟨_, rfl⟩
            rw [hw4] at b4 HTO4 HB4
            try rw [hw4]
            rw [hbq] at b4
            try simp only [hbq]
            have z0 : w4.cell? ⟨bq, 0, none⟩ = some (.int .i64 uk) := b4.cell 0 rfl
            have z1 : w4.cell? ⟨bq, 1, none⟩ = some (.int .i64 ua) := b4.cell 1 rfl
            have z2 : w4.cell? ⟨bq, 2, none⟩ = some (.int .i64 ub) := b4.cell 2 rfl
            have z3 : w4.cell? ⟨bq, 3, none⟩ = some (.int .i64 uc) := b4.cell 3 rfl
            have z4 : w4.cell? ⟨bq, 4, none⟩ = some (.int .i64 ud) := b4.cell 4 rfl
            have z5 : w4.cell? ⟨bq, 5, none⟩ = some (.int .i64 ux) := b4.cell 5 rfl
            have z6 : w4.cell? ⟨bq, 6, none⟩ = some (.slice us un uq) := b4.cell 6 rfl
            have CM := Kp.mk (HIJ.out w4 (below_step HA.out HB4.out))
            have HTL := Kp.mk (fun q hq => (own_lt HTO4.out q hq).2)
            clear c0 c1 c2 c3 c4 c5 c6 hal b4 hw4 hbq HTO HB HIJ
            go_wp2_with fail
            refine CM.out.mono ?_
            rintro e w5 ⟨rb, rbc, R, rfl, HRD, HRO, HB5⟩
            have HB15 := Kp.mk (HB4.out.trans (HB5.out.mono HB4.out.size))
            have HTO5 := Kp.mk (own_below HTO4.out HB5.out)
            have hrbn : np ≤ rbc := (own_slc HRO.out).le
            have HTU := Kp.mk (show Tells (upto 0 (accS false S (j + 1)) (accS false S j)) np T from upto_zero HTD.out)
            have HACC := Kp.mk (show ∀ i, accS false S (j + 1) i = opB false (accS false S j i) (S (j + 1) i) from fun i => rfl)
            obtain ⟨G1, hG1⟩ : ∃ G1, accS false S (j + 1) = G1 := ⟨_, rfl⟩
            rw [hG1] at HTU HACC
            have HG1 := Kp.mk hG1
            clear hG1
            generalize accS false S j = G0 at HTU HACC HTD
            generalize S (j + 1) = G2 at HACC HRD
            clear z0 z1 z2 z3 z4 z5 z6 CM HTD HTO4 HB4
            obtain ⟨wn, rfl⟩ : ∃ wn : World, wn = w5 := ⟨_, rfl⟩
            go_wp2
            go_loopw [41] (fun v41 wr => ∃ (i : Nat) (T : List Bool), i ≤ np ∧ v41 = .int .i64 i ∧ Kp (Tells (upto i G1 G0) np T) ∧ Kp (wr.ownsRow w2.heap.size 4 1 (.slice ra np rc) np (bls T)) ∧ Kp (wr.ownsRow w4.heap.size 4 1 (.slice rb np rbc) np (bls R)) ∧ Kp (Below w1.heap.size w1 wr)) (fun v41 _ => np - (intOf v41).toNat)
            case atStart => exact ⟨0, T, Nat.zero_le _, rfl, HTU, HTO5, HRO, HB15⟩
            case round =>
              clear HTU HTO5 HRO HB15 HB5
              obtain ⟨i, T', hi, rfl, HTD, HTO, HRO, HB⟩ := hrel
              by_cases hin : i < np
              · have hiz : (i : Int) < np := by omega
                obtain ⟨tb, rfl, htb, _⟩ := own_some HTO.out (by omega)
                obtain ⟨rb', rfl, hrb, _⟩ := own_some HRO.out (by omega)
                have r0 := tells_cell HRD.out HRO.out hin
                have t0 := tells_cell HTD.out HTO.out hin
                rw [upto_at] at t0
                have hfi := Kp.mk (HACC.out i)
                have HTS := Kp.mk (upto_step HTD.out hin)
                have f9 := HTO.out.frozenAt i
                have HSTO := Kp.mk (fun (b : Bool) => show (wr.setCell ⟨tb, i, none⟩ (.bool b)).ownsRow w2.heap.size 4 1 (.slice (some ⟨tb, 0, none⟩) np rc) np (bls (T'.set i b)) from by
                  rw [← bls_set]; exact (HTO.out.stored i (.bool b)).1)
                have HRO10 := Kp.mk (fun (b : Bool) => own_keep HRO.out (grown_set wr tb i (.bool b)) (fun q hq e => by cases hq; have h1 := (own_lt HRO.out tb e).1; have h2 := HTL.out tb rfl; omega))
                have HB10 := Kp.mk (fun (b : Bool) => HB.out.trans (below_of_grown (grown_set wr tb i (.bool b)) HB.out.size (fun q hq => by cases hq; have := HB2.out.size; omega)))
                have y0 : wr.cell? ⟨bz, 0, none⟩ = some (.int .i64 3) := (HBX.out.below HB.out).cell 0 rfl
                clear HTO HRO HB HTD
                generalize G0 i = s0 at *
                generalize G2 i = s2 at *
                generalize G1 i = s1 at *
                cases s0 <;> cases s2
                all_goals
                  go_wp2
                  go_roundw
                  case rel => exact ⟨i + 1, T'.set i s1, by omega, by go_num, HTS, ⟨by rw [hfi.out]; exact HSTO.out _⟩, ⟨HRO10.out _⟩, ⟨HB10.out _⟩⟩
                  case measure => simp [intOf]; omega
              · obtain rfl : np = i := by omega
                have HTF := Kp.mk (upto_all HTD.out)
                go_wp2
                go_roundw
                case rel => exact ⟨j + 1, T', by omega, by go_num, ⟨by rw [HG1.out]; exact HTF.out⟩, HTO, HB⟩
                case measure => simp [intOf]; omega
          · obtain rfl : j = n - 1 := by omega
            have HTF := Kp.mk (show Tells F np T from by rw [HFO.out]; exact HTD.out)
            have HBE := Kp.mk (below_step HA.out HB.out)
            go_wp2
            go_ret
            exact ⟨ra, rc, T, rfl, HTF, ⟨own_base HTO.out (Nat.le_trans HZ1.out HB2.out.size)⟩, HBE⟩
      · go_wp2_with fail
        refine CM.out.mono ?_
        rintro e w3 ⟨ra, rc, T1, rfl, HTD, HTO, HB3⟩
        have HB13 := Kp.mk (HB2.out.trans (HB3.out.mono HB2.out.size))
        have y6 : w3.cell? ⟨bz, 6, none⟩ = some (.slice (some ⟨sb, so, none⟩) n cap) := (HBX.out.below HB13.out).cell 6 rfl
        have hrn : np ≤ rc := (own_slc HTO.out).le
        clear c0 c1 c2 c3 c4 c5 c6 x0 x6 CM
        obtain ⟨wo, rfl⟩ : ∃ wo : World, wo = w3 := ⟨_, rfl⟩
        go_wp2
        go_loopw [33] (fun v33 wr => ∃ (j : Nat) (T : List Bool), j ≤ n - 1 ∧ v33 = .int .i64 j ∧ Kp (Tells (accS true S j) np T) ∧ Kp (wr.ownsRow w2.heap.size 4 1 (.slice ra np rc) np (bls T)) ∧ Kp (Below w1.heap.size w1 wr)) (fun v33 _ => n - 1 - (intOf v33).toNat)
        case atStart => exact ⟨0, T1, Nat.zero_le _, rfl, ⟨HTD.out.congr fun p hp => rfl⟩, HTO, HB13⟩
        case round =>
          clear HTD HTO HB13 y6
          obtain ⟨j, T, hj, rfl, HTD, HTO, HB⟩ := hrel
          by_cases hjn : j < n - 1
          · have hjz : (j : Int) < ((n - 1 : Nat) : Int) := by omega
            obtain ⟨sb', so', eu, c0, c1, c2, c3, c4, c5, c6⟩ := HPC.out wr HB.out (j + 1) (by omega)
            simp only [Option.some.injEq, Addr.mk.injEq, and_true] at eu
            obtain ⟨rfl, rfl⟩ := eu
            have hoff : so + (j + 1) * 7 = so + 7 + j * 7 := by omega
            rw [hoff] at c0 c1 c2 c3 c4 c5 c6
            have HIJ := Kp.mk (fun W hW => HIH.out (j + 1) (by omega) W hW)
            generalize vs.getD (j + 1) ev0 = U at c0 c1 c2 c3 c4 c5 c6 HIJ
            obtain ⟨uk, ua, ub, uc, ud, ux, us, un, uq⟩ := U
            dsimp only at c0 c1 c2 c3 c4 c5 c6
            have hal := below_alloc (Nat.le_refl wr.heap.size) (.cells #[.int .i64 uk, .int .i64 ua, .int .i64 ub, .int .i64 uc, .int .i64 ud, .int .i64 ux, .slice us un uq] 83)
            have b4 := Box.new wr #[.int .i64 uk, .int .i64 ua, .int .i64 ub, .int .i64 uc, .int .i64 ud, .int .i64 ux, .slice us un uq] 83
            have HTO4 := Kp.mk (own_below HTO.out hal)
            have HB4 := Kp.mk (HB.out.trans (hal.mono HB.out.size))
            clear hoff
            go_upto_region 7 with (fail)
            obtain ⟨w4, hw4⟩ : ∃ w4, wr.alloc (.cells #[.int .i64 uk, .int .i64 ua, .int .i64 ub, .int .i64 uc, .int .i64 ud, .int .i64 ux, .slice us un uq] 83) = w4 := ⟨_, rfl⟩
            obtain ⟨bq, hbq⟩ : ∃ bq, wr.heap.size = bq := ⟨_, rfl⟩
            rw [hw4] at b4 HTO4 HB4
            try rw [hw4]
            rw [hbq] at b4
            try simp only [hbq]
            have z0 : w4.cell? ⟨bq, 0, none⟩ = some (.int .i64 uk) := b4.cell 0 rfl
            have z1 : w4.cell? ⟨bq, 1, none⟩ = some (.int .i64 ua) := b4.cell 1 rfl
            have z2 : w4.cell? ⟨bq, 2, none⟩ = some (.int .i64 ub) := b4.cell 2 rfl
            have z3 : w4.cell? ⟨bq, 3, none⟩ = some (.int .i64 uc) := b4.cell 3 rfl
            have z4 : w4.cell? ⟨bq, 4, none⟩ = some (.int .i64 ud) := b4.cell 4 rfl
            have z5 : w4.cell? ⟨bq, 5, none⟩ = some (.int .i64 ux) := b4.cell 5 rfl
            have z6 : w4.cell? ⟨bq, 6, none⟩ = some (.slice us un uq) := b4.cell 6 rfl
            have CM := Kp.mk (HIJ.out w4 (below_step HA.out HB4.out))
            have HTL := Kp.mk (fun q hq => (own_lt HTO4.out q hq).2)
            clear c0 c1 c2 c3 c4 c5 c6 hal b4 hw4 hbq HTO HB HIJ
            go_wp2_with fail
            refine CM.out.mono ?_
            rintro e w5 ⟨rb, rbc, R, rfl, HRD, HRO, HB5⟩
            have HB15 := Kp.mk (HB4.out.trans (HB5.out.mono HB4.out.size))
            have HTO5 := Kp.mk (own_below HTO4.out HB5.out)
            have hrbn : np ≤ rbc := (own_slc HRO.out).le
            have HTU := Kp.mk (show Tells (upto 0 (accS true S (j + 1)) (accS true S j)) np T from upto_zero HTD.out)
            have HACC := Kp.mk (show ∀ i, accS true S (j + 1) i = opB true (accS true S j i) (S (j + 1) i) from fun i => rfl)
            obtain ⟨G1, hG1⟩ : ∃ G1, accS true S (j + 1) = G1 := ⟨_, rfl⟩
            rw [hG1] at HTU HACC
            have HG1 := Kp.mk hG1
            clear hG1
            generalize accS true S j = G0 at HTU HACC HTD
            generalize S (j + 1) = G2 at HACC HRD
            clear z0 z1 z2 z3 z4 z5 z6 CM HTD HTO4 HB4
            obtain ⟨wn, rfl⟩ : ∃ wn : World, wn = w5 := ⟨_, rfl⟩
            go_wp2
            go_loopw [41] (fun v41 wr => ∃ (i : Nat) (T : List Bool), i ≤ np ∧ v41 = .int .i64 i ∧ Kp (Tells (upto i G1 G0) np T) ∧ Kp (wr.ownsRow w2.heap.size 4 1 (.slice ra np rc) np (bls T)) ∧ Kp (wr.ownsRow w4.heap.size 4 1 (.slice rb np rbc) np (bls R)) ∧ Kp (Below w1.heap.size w1 wr)) (fun v41 _ => np - (intOf v41).toNat)
            case atStart => exact ⟨0, T, Nat.zero_le _, rfl, HTU, HTO5, HRO, HB15⟩
            case round =>
              clear HTU HTO5 HRO HB15 HB5
              obtain ⟨i, T', hi, rfl, HTD, HTO, HRO, HB⟩ := hrel
              by_cases hin : i < np
              · have hiz : (i : Int) < np := by omega
                obtain ⟨tb, rfl, htb, _⟩ := own_some HTO.out (by omega)
                obtain ⟨rb', rfl, hrb, _⟩ := own_some HRO.out (by omega)
                have r0 := tells_cell HRD.out HRO.out hin
                have t0 := tells_cell HTD.out HTO.out hin
                rw [upto_at] at t0
                have hfi := Kp.mk (HACC.out i)
                have HTS := Kp.mk (upto_step HTD.out hin)
                have f9 := HTO.out.frozenAt i
                have HSTO := Kp.mk (fun (b : Bool) => show (wr.setCell ⟨tb, i, none⟩ (.bool b)).ownsRow w2.heap.size 4 1 (.slice (some ⟨tb, 0, none⟩) np rc) np (bls (T'.set i b)) from by
                  rw [← bls_set]; exact (HTO.out.stored i (.bool b)).1)
                have HRO10 := Kp.mk (fun (b : Bool) => own_keep HRO.out (grown_set wr tb i (.bool b)) (fun q hq e => by cases hq; have h1 := (own_lt HRO.out tb e).1; have h2 := HTL.out tb rfl; omega))
                have HB10 := Kp.mk (fun (b : Bool) => HB.out.trans (below_of_grown (grown_set wr tb i (.bool b)) HB.out.size (fun q hq => by cases hq; have := HB2.out.size; omega)))
                have y0 : wr.cell? ⟨bz, 0, none⟩ = some (.int .i64 4) := (HBX.out.below HB.out).cell 0 rfl
                clear HTO HRO HB HTD
                generalize G0 i = s0 at *
                generalize G2 i = s2 at *
                generalize G1 i = s1 at *
                cases s0 <;> cases s2
                all_goals
                  go_wp2
                  go_roundw
                  case rel => exact ⟨i + 1, T'.set i s1, by omega, by go_num, HTS, ⟨by rw [hfi.out]; exact HSTO.out _⟩, ⟨HRO10.out _⟩, ⟨HB10.out _⟩⟩
                  case measure => simp [intOf]; omega
              · obtain rfl : np = i := by omega
                have HTF := Kp.mk (upto_all HTD.out)
                go_wp2
                go_roundw
                case rel => exact ⟨j + 1, T', by omega, by go_num, ⟨by rw [HG1.out]; exact HTF.out⟩, HTO, HB⟩
                case measure => simp [intOf]; omega
          · obtain rfl : j = n - 1 := by omega
            have HTF := Kp.mk (show Tells F np T from by rw [HFO.out]; exact HTD.out)
            have HBE := Kp.mk (below_step HA.out HB.out)
            go_wp2
            go_ret
            exact ⟨ra, rc, T, rfl, HTF, ⟨own_base HTO.out (Nat.le_trans HZ1.out HB2.out.size)⟩, HBE⟩
    · have HEF := Kp.mk (HE5.out rfl)
      clear HE1 HE2 HE3 HE4 HE5
      have hbx2 := HBX.out.below HB2.out
      have x6 : w2.cell? ⟨bz, 6, none⟩ = some (.slice sa 1 cap) := hbx2.cell 6 rfl
      obtain ⟨sb, so, rfl, _, cs⟩ := (SlF.below HSL.out HB2.out).at exL_len (by omega) 0 (by rw [HVL.out]; omega)
      rw [← getD_at vs ev0 (by rw [HVL.out]; omega)] at cs
      have CM := Kp.mk (HIH.out 0 (by omega) w2 (below_step HA.out HB2.out))
      generalize vs.getD 0 ev0 = U at cs CM
      obtain ⟨uk, ua, ub, uc, ud, ux, us, un, uq⟩ := U
      have c0 : w2.cell? ⟨sb, so, none⟩ = some (.int .i64 uk) := by have h := cs 0 (by omega); rw [Nat.zero_mul, Nat.add_zero] at h; exact h
      have c1 : w2.cell? ⟨sb, so + 1, none⟩ = some (.int .i64 ua) := by have h := cs 1 (by omega); rw [Nat.zero_mul, Nat.add_zero] at h; exact h
      have c2 : w2.cell? ⟨sb, so + 2, none⟩ = some (.int .i64 ub) := by have h := cs 2 (by omega); rw [Nat.zero_mul, Nat.add_zero] at h; exact h
      have c3 : w2.cell? ⟨sb, so + 3, none⟩ = some (.int .i64 uc) := by have h := cs 3 (by omega); rw [Nat.zero_mul, Nat.add_zero] at h; exact h
      have c4 : w2.cell? ⟨sb, so + 4, none⟩ = some (.int .i64 ud) := by have h := cs 4 (by omega); rw [Nat.zero_mul, Nat.add_zero] at h; exact h
      have c5 : w2.cell? ⟨sb, so + 5, none⟩ = some (.int .i64 ux) := by have h := cs 5 (by omega); rw [Nat.zero_mul, Nat.add_zero] at h; exact h
      have c6 : w2.cell? ⟨sb, so + 6, none⟩ = some (.slice us un uq) := by have h := cs 6 (by omega); rw [Nat.zero_mul, Nat.add_zero] at h; exact h
      clear cs hbx2
      go_wp2_with fail
      refine CM.out.mono ?_
      rintro e w3 ⟨ra, rc, R, rfl, HRD, HRO, HB3⟩
      have HB13 := Kp.mk (HB2.out.trans (HB3.out.mono HB2.out.size))
      have HTO3 := Kp.mk (own_below HTO.out HB3.out)
      have HT1 := Kp.mk (show Tells (upto 0 F (fun _ => false)) np T0 from upto_zero HT0.out)
      have hrn : np ≤ rc := (own_slc HRO.out).le
      have HFI := Kp.mk (show ∀ i, F i = !S 0 i from fun i => by rw [HEF.out])
      clear c0 c1 c2 c3 c4 c5 c6 x0 x6 CM HTO HT0 HEF
      go_wp2
      go_loopw [117] (fun v117 wr => ∃ (i : Nat) (T : List Bool), i ≤ np ∧ v117 = .int .i64 i ∧ Kp (Tells (upto i F (fun _ => false)) np T) ∧ Kp (wr.ownsRow w1.heap.size 4 1 (.slice ta np tc) np (bls T)) ∧ Kp (wr.ownsRow w2.heap.size 4 1 (.slice ra np rc) np (bls R)) ∧ Kp (Below w1.heap.size w1 wr)) (fun v117 _ => np - (intOf v117).toNat)
      case atStart => exact ⟨0, T0, Nat.zero_le _, rfl, HT1, HTO3, HRO, HB13⟩
      case round =>
        clear HT1 HTO3 HB2 HRO HB13 HB3
        obtain ⟨i, T, hi, rfl, HTD, HTO, HRO, HB⟩ := hrel
        by_cases hin : i < np
        · have hiz : (i : Int) < np := by omega
          obtain ⟨tb, rfl, htb, _⟩ := own_some HTO.out (by omega)
          obtain ⟨rb, rfl, hrb, _⟩ := own_some HRO.out (by omega)
          have r0 := tells_cell HRD.out HRO.out hin
          have t0 := tells_cell HTD.out HTO.out hin
          have hfi := Kp.mk (HFI.out i)
          have HTS := Kp.mk (upto_step HTD.out hin)
          generalize S 0 i = s at *
          have f9 := HTO.out.frozenAt i
          have hg := grown_set wr tb i (.bool (!s))
          have HTO10 := Kp.mk (show (wr.setCell ⟨tb, i, none⟩ (.bool (!s))).ownsRow w1.heap.size 4 1 (.slice (some ⟨tb, 0, none⟩) np tc) np (bls (T.set i (F i))) from by
            rw [← bls_set, hfi.out]; exact (HTO.out.stored i (.bool (!s))).1)
          have HRO10 := Kp.mk (own_keep HRO.out hg (fun q hq e => by cases hq; have h1 := (own_lt HRO.out tb e).1; have h2 := HTL.out tb rfl; omega))
          have HB10 := Kp.mk (HB.out.trans (below_of_grown hg HB.out.size (fun q hq => by cases hq; exact htb)))
          clear hg HTO HRO HB HTD
          go_wp2
          go_roundw
          case rel => exact ⟨i + 1, T.set i (F i), by omega, by go_num, HTS, HTO10, HRO10, HB10⟩
          case measure => simp [intOf]; omega
        · obtain rfl : np = i := by omega
          have HTF := Kp.mk (upto_all HTD.out)
          have HBE := Kp.mk (below_step HA.out HB.out)
          go_wp2
          go_ret
          exact ⟨ta, tc, T, rfl, HTF, ⟨own_base HTO.out HZ1.out⟩, HBE⟩

end Go.Proofs.YtedchegejalolaaGreatDoor

/- Package query: Eval: the walk. -/
namespace Go.Proofs.YtedchegejalolaaGreatDoor
set_option linter.unusedVariables false
open Go.RowKit

/-- Which points are meant, by their places. -/
def evalL (f : Nat → Bool) (n : Nat) : List Nat := (List.range n).filter f
theorem evalL_succ (f : Nat → Bool) (n : Nat) : evalL f (n + 1) = evalL f n ++ (if f n = true then [n] else []) := by
  unfold evalL
  rw [List.range_succ, List.filter_append]
  congr 1
  cases h : f n <;> simp [h]
theorem evalL_len (f : Nat → Bool) (n : Nat) : (evalL f n).length ≤ n := by
  have := List.length_filter_le f (List.range n)
  rw [List.length_range] at this; exact this

set_option maxRecDepth 100000 in
set_option maxHeartbeats 8000000 in
theorem qeval_any (pa : Option Addr) (pc np : Nat) (L : List Pt) (hnp : np ≤ 150) (hN : ∀ p ∈ L, p.Near) (x : Ex) (v : ExV) (w : World) (h : IsEx w x v) (hp : SlF ptL 3 w pa np pc L) (hs : x.small) (hd : x.dep ≤ 8) (hl : x.txt.length ≤ 400) (hT : Tab w) :
    Calls Tryz.prog 43 #[.agg (exL v).toArray, .slice pa np pc] w fun e w' => ∃ ra m rc, e = .returned (.tuple #[.slice ra m rc, .int .i64 0]) ∧ Kp ((evalL (x.sem L) np).length = m) ∧ Kp (w'.ownsRow w.heap.size 3 1 (.slice ra m rc) m (ints ((evalL (x.sem L) np).map Int.ofNat))) ∧ Kp (Below w.heap.size w w') := by
  have HC := Kp.mk (fun (W : World) (hW : Below w.heap.size w W) => qcheck_any x v W (h.below hW) hs hd hl (hT.below hW))
  have HM := Kp.mk (fun (W : World) (hW : Below w.heap.size w W) => meant_any pa pc np L hnp hN x v W (h.below hW) (SlF.below hp hW))
  have HG := Kp.mk (fun (W : World) (hW : Below w.heap.size w W) => gcheck_any pa pc np L W (SlF.below hp hW) hnp hN)
  clear h hs hd hl hT hp
  obtain ⟨k, a, b, c, d, y, sa, n, cap⟩ := v
  show Calls Tryz.prog 43 #[.agg #[.int .i64 k, .int .i64 a, .int .i64 b, .int .i64 c, .int .i64 d, .int .i64 y, .slice sa n cap], .slice pa np pc] w _
  generalize x.sem L = f at *
  unfold MeantRet at HM
  have HA := Kp.mk (below_alloc (Nat.le_refl w.heap.size) (.cells #[.int .i64 k, .int .i64 a, .int .i64 b, .int .i64 c, .int .i64 d, .int .i64 y, .slice sa n cap] 83))
  have HBX := Kp.mk (Box.new w #[.int .i64 k, .int .i64 a, .int .i64 b, .int .i64 c, .int .i64 d, .int .i64 y, .slice sa n cap] 83)
  obtain ⟨bz, hbz⟩ : ∃ bz, w.heap.size = bz := ⟨_, rfl⟩
  obtain ⟨w1, hw1⟩ : ∃ w1, w.alloc (.cells #[.int .i64 k, .int .i64 a, .int .i64 b, .int .i64 c, .int .i64 d, .int .i64 y, .slice sa n cap] 83) = w1 := ⟨_, rfl⟩
  rw [hw1] at HA HBX
  rw [hbz] at HBX
  have CC := Kp.mk (HC.out w1 HA.out)
  have z0 : w1.cell? ⟨bz, 0, none⟩ = some (.int .i64 k) := HBX.out.cell 0 rfl
  have z1 : w1.cell? ⟨bz, 1, none⟩ = some (.int .i64 a) := HBX.out.cell 1 rfl
  have z2 : w1.cell? ⟨bz, 2, none⟩ = some (.int .i64 b) := HBX.out.cell 2 rfl
  have z3 : w1.cell? ⟨bz, 3, none⟩ = some (.int .i64 c) := HBX.out.cell 3 rfl
  have z4 : w1.cell? ⟨bz, 4, none⟩ = some (.int .i64 d) := HBX.out.cell 4 rfl
  have z5 : w1.cell? ⟨bz, 5, none⟩ = some (.int .i64 y) := HBX.out.cell 5 rfl
  have z6 : w1.cell? ⟨bz, 6, none⟩ = some (.slice sa n cap) := HBX.out.cell 6 rfl
  have HBZ := Kp.mk hbz
  go_enter Tryz.func43, Tryz.ntmps43
  go_upto_region 1 with (fail)
  try rw [hw1]
  try simp only [hbz]
  clear hw1 hbz HC
  go_wp2_with fail
  refine CC.out.mono ?_
  rintro e w2 ⟨rfl, hb2⟩
  have HB2 := Kp.mk (below_step HA.out hb2)
  have HX2 := Kp.mk (HBX.out.below hb2)
  have CG := Kp.mk (HG.out w2 HB2.out)
  clear z0 z1 z2 z3 z4 z5 z6 hb2 CC HBX HA HG
  go_wp2_with fail
  refine CG.out.mono ?_
  rintro e w3 ⟨rfl, hb3⟩
  have HB3 := Kp.mk (below_step HB2.out hb3.out)
  have hbx := HX2.out.below hb3.out
  have y0 : w3.cell? ⟨bz, 0, none⟩ = some (.int .i64 k) := hbx.cell 0 rfl
  have y1 : w3.cell? ⟨bz, 1, none⟩ = some (.int .i64 a) := hbx.cell 1 rfl
  have y2 : w3.cell? ⟨bz, 2, none⟩ = some (.int .i64 b) := hbx.cell 2 rfl
  have y3 : w3.cell? ⟨bz, 3, none⟩ = some (.int .i64 c) := hbx.cell 3 rfl
  have y4 : w3.cell? ⟨bz, 4, none⟩ = some (.int .i64 d) := hbx.cell 4 rfl
  have y5 : w3.cell? ⟨bz, 5, none⟩ = some (.int .i64 y) := hbx.cell 5 rfl
  have y6 : w3.cell? ⟨bz, 6, none⟩ = some (.slice sa n cap) := hbx.cell 6 rfl
  have CM := Kp.mk (HM.out w3 HB3.out)
  clear hbx hb3 CG HX2 HB2 HM
  go_wp2_with fail
  refine CM.out.mono ?_
  rintro e w4 ⟨ta, tc, T, rfl, HTD, HTO, HB4⟩
  have HBW4 := Kp.mk (below_step HB3.out HB4.out)
  have htn : np ≤ tc := (own_slc HTO.out).le
  clear y0 y1 y2 y3 y4 y5 y6 CM HB4 HB3
  obtain ⟨wo, rfl⟩ : ∃ wo : World, wo = w4 := ⟨_, rfl⟩
  go_wp2
  go_loopw [8, 25] (fun v8 v25 wr => ∃ (i m : Nat) (ra : Option Addr) (rc : Nat), i ≤ np ∧ m ≤ i ∧ v25 = .int .i64 i ∧ v8 = .slice ra m rc ∧ Kp ((evalL f i).length = m) ∧ Kp (wr.ownsRow wo.heap.size 3 1 (.slice ra m rc) m (ints ((evalL f i).map Int.ofNat))) ∧ Kp (Below wo.heap.size wo wr)) (fun _ v25 _ => np - (intOf v25).toNat)
  case atStart => exact ⟨0, 0, none, 0, Nat.zero_le _, Nat.le_refl _, rfl, rfl, ⟨rfl⟩, ⟨World.ownsRow_nil _ _ _ _⟩, ⟨Below.refl _ _⟩⟩
  case round =>
    obtain ⟨i, m, ra, rc, hi, hmi, rfl, rfl, HLM, HO, HB⟩ := hrel
    by_cases hin : i < np
    · have hiz : (i : Int) < np := by omega
      obtain ⟨tb, rfl, htb, _⟩ := own_some HTO.out (by omega)
      have t0 := tells_cell HTD.out (own_below HTO.out HB.out) hin
      have HES := Kp.mk (evalL_succ f i)
      have hsz : wo.heap.size ≤ wr.heap.size := HB.out.size
      cases hf : f i with
      | true =>
        rw [hf] at t0
        have HE2 := Kp.mk (show evalL f (i + 1) = evalL f i ++ [i] by rw [HES.out, hf]; rfl)
        have HLM2 := Kp.mk (show (evalL f (i + 1)).length = m + 1 by rw [HE2.out, List.length_append, HLM.out]; rfl)
        clear hf HES
        go_wp2_with (at_builtin; refine wpList_push tInts (by rfl) _ _ (by rfl) wo.heap.size ra m rc _ (by rfl) HO.out 1 1 _ (by rfl) (by rfl) ?d1 (by decide) ?d2 (by decide) hsz ?d4)
        case d1 => simp [Value.oneCell']
        case d2 => omega
        case d4 =>
          intro sa2 sc2 w6 ho6 hb6
          have HO6 := Kp.mk (show w6.ownsRow wo.heap.size 3 1 (.slice sa2 (m + 1) sc2) (m + 1) (ints ((evalL f (i + 1)).map Int.ofNat)) from by rw [HE2.out, List.map_append, ints_append]; exact ho6)
          have HB6 := Kp.mk (HB.out.trans hb6)
          clear ho6 hb6 t0
          go_wp2
          go_roundw
          case rel => exact ⟨i + 1, m + 1, sa2, sc2, by omega, by omega, by go_num, rfl, HLM2, HO6, HB6⟩
          case measure => simp [intOf]; omega
      | false =>
        rw [hf] at t0
        have HE2 := Kp.mk (show evalL f (i + 1) = evalL f i by rw [HES.out, hf]; simp)
        have HLM2 := Kp.mk (show (evalL f (i + 1)).length = m by rw [HE2.out, HLM.out])
        rw [← HE2.out] at HO
        clear hf HES HE2
        go_wp2
        go_roundw
        case rel => exact ⟨i + 1, m, ra, rc, by omega, by omega, by go_num, rfl, HLM2, HO, HB⟩
        case measure => simp [intOf]; omega
    · obtain rfl : np = i := by omega
      have HBE := Kp.mk (below_step HBW4.out HB.out)
      have HZ := Kp.mk HBW4.out.size
      go_wp2
      refine bodyPost_ret (v := .tuple #[.slice ra m rc, .int .i64 0]) (by simp [results, Tryz.results43, go_sem]) rfl ?_
      exact ⟨ra, m, rc, rfl, HLM, ⟨own_base HO.out HZ.out⟩, HBE⟩

end Go.Proofs.YtedchegejalolaaGreatDoor

/- desk: ask. -/
namespace Go.Proofs.YtedchegejalolaaGreatDoor.Dk
set_option linter.unusedVariables false
open Go.RowKit Qk

def idsW : Wd := [105, 100, 115]
def askT (x : Ex) (L : List Pt) : Wd := toldT idsW ((evalL (x.sem L) L.length).map Int.ofNat)
theorem own_ints {w : World} {B m c : Nat} {a : Option Addr} {l : List Int} (h : w.ownsRow B 3 1 (.slice a m c) m (ints l)) : SlI w a c l ∧ l.length = m := by
  have hl : l.length = m := by have := h.1; rwa [ints_length, Nat.mul_one] at this
  subst hl
  exact ⟨own_slc h, rfl⟩
theorem eval_bd (f : Nat → Bool) (n : Nat) : ∀ z ∈ (evalL f n).map Int.ofNat, 0 ≤ z ∧ z < n := fun z hz => by
  obtain ⟨y, hy, rfl⟩ := List.mem_map.1 hz
  have := List.mem_range.1 (List.mem_filter.1 hy).1
  exact ⟨Int.natCast_nonneg _, by show ((y : Nat) : Int) < _; omega⟩
set_option maxRecDepth 100000 in
set_option maxHeartbeats 8000000 in
theorem ask_any (B db pc : Nat) (pa : Option Addr) (L : List Pt) (t : Wd) (x : Ex) (hs : x.small) (hd : x.dep ≤ 8) (hxl : x.txt.length ≤ 400) (hp : ∀ w0, PartC w0 64 (wordsF t) x stopO) (ht : t.length ≤ 400) (w : World) (h : DS w B db pa pc L) (hL : L.length ≤ 150) (hN : ∀ p ∈ L, p.Near) (hT : Tab w) :
    Calls Tryz.prog 26 #[.pointer (some ⟨db, 0, none⟩), str t] w fun e w' => e = .returned (str (askT x L)) ∧ Kp (Below w.heap.size w w') := by
  have CP := Kp.mk (parse_any t t.length rfl ht x hp hs hd hxl w hT)
  have H := Kp.mk h
  have HT := Kp.mk hT
  obtain ⟨n, hn⟩ : ∃ n, L.length = n := ⟨_, rfl⟩
  unfold askT
  rw [hn] at hL ⊢
  have HLN := Kp.mk hn
  have CE := Kp.mk (fun (v : ExV) (W : World) (hi : IsEx W x v) (hW : Below w.heap.size w W) => qeval_any pa pc n L hL hN x v W hi (by have := own_slc (own_below h.row hW); rwa [hn] at this) hs hd hxl (hT.below hW))
  clear h hN hT hp ht hs hd hxl hn
  have hev := evalL_len (x.sem L) n
  have HBD := Kp.mk (eval_bd (x.sem L) n)
  generalize evalL (x.sem L) n = E at *
  go_enter Tryz.func26, Tryz.ntmps26
  go_wp2_with fail
  refine CP.out.mono ?_
  rintro e w5 ⟨⟨k, a, b, c, d, y, ea, en, ec⟩, rfl, HXV, hb5⟩
  have hal := below_alloc (Nat.le_refl w5.heap.size) (.cells (exL ⟨k, a, b, c, d, y, ea, en, ec⟩).toArray 83)
  have hbn := Box.new w5 (exL ⟨k, a, b, c, d, y, ea, en, ec⟩).toArray 83
  have HB6 := Kp.mk (below_step hb5.out hal)
  have HIX := Kp.mk (HXV.out.below hal)
  obtain ⟨bx, hbx⟩ : ∃ bx, w5.heap.size = bx := ⟨_, rfl⟩
  obtain ⟨w6, hw6⟩ : ∃ w6, w5.alloc (.cells (exL ⟨k, a, b, c, d, y, ea, en, ec⟩).toArray 83) = w6 := ⟨_, rfl⟩
  rw [hw6] at hbn HB6 HIX
  rw [hbx] at hbn
  have HBX := Kp.mk hbn
  have HW6 := Kp.mk hw6
  have HBXE := Kp.mk hbx
  clear hal hbn hw6 hbx HXV hb5 CP
  go_upto_region 4 with (fail)
  simp only [HBXE.out]
  rw [show (#[Value.int IntKind.i64 k, Value.int IntKind.i64 a, Value.int IntKind.i64 b, Value.int IntKind.i64 c, Value.int IntKind.i64 d, Value.int IntKind.i64 y, Value.slice ea en ec] : Array Value) = (exL ⟨k, a, b, c, d, y, ea, en, ec⟩).toArray from rfl, HW6.out]
  clear HW6 HBXE
  have hSS : ∀ W, Below w6.heap.size w6 W → (W.cell? ⟨bx, 0, none⟩ = some (.int .i64 k) ∧ W.cell? ⟨bx, 1, none⟩ = some (.int .i64 a) ∧ W.cell? ⟨bx, 2, none⟩ = some (.int .i64 b) ∧ W.cell? ⟨bx, 3, none⟩ = some (.int .i64 c) ∧ W.cell? ⟨bx, 4, none⟩ = some (.int .i64 d) ∧ W.cell? ⟨bx, 5, none⟩ = some (.int .i64 y) ∧ W.cell? ⟨bx, 6, none⟩ = some (.slice ea en ec) ∧ W.cell? ⟨db, 0, none⟩ = some (.slice pa n pc)) := fun W hW => by
    have hb := HBX.out.below hW
    have hd := (H.out.box.below (below_step HB6.out hW)).cell 0 rfl
    rw [HLN.out] at hd
    exact ⟨hb.cell 0 rfl, hb.cell 1 rfl, hb.cell 2 rfl, hb.cell 3 rfl, hb.cell 4 rfl, hb.cell 5 rfl, hb.cell 6 rfl, hd⟩
  have hS0 := hSS w6 (Below.refl _ _)
  have hD : Below w6.heap.size w6 w6.drew := (Below.refl _ _).drew
  have CE2 := Kp.mk (show Calls Tryz.prog 43 #[.agg #[.int .i64 k, .int .i64 a, .int .i64 b, .int .i64 c, .int .i64 d, .int .i64 y, .slice ea en ec], .slice pa n pc] w6.drew _ from CE.out ⟨k, a, b, c, d, y, ea, en, ec⟩ w6.drew (HIX.out.below hD) (below_step HB6.out hD))
  go_region_held3 (fun W => (W.cell? ⟨bx, 0, none⟩ = some (.int .i64 k) ∧ W.cell? ⟨bx, 1, none⟩ = some (.int .i64 a) ∧ W.cell? ⟨bx, 2, none⟩ = some (.int .i64 b) ∧ W.cell? ⟨bx, 3, none⟩ = some (.int .i64 c) ∧ W.cell? ⟨bx, 4, none⟩ = some (.int .i64 d) ∧ W.cell? ⟨bx, 5, none⟩ = some (.int .i64 y) ∧ W.cell? ⟨bx, 6, none⟩ = some (.slice ea en ec) ∧ W.cell? ⟨db, 0, none⟩ = some (.slice pa n pc)))
    (first | exact hS0 | exact hS9 | exact hSS _ hD | go_keep)
    ((first
      | (go_at_call 43; with_reducible refine CE2.out.mono ?_; rintro e w9 ⟨rb, rm, rc, rfl, HEL, HEO, HB9⟩; have hx9 : Below w6.heap.size w6 w9 := hD.trans (HB9.out.mono hD.size); have hS9 := hSS w9 hx9)
      | fail))
  all_goals
    have HB := Kp.mk (below_step HB6.out hx9)
    obtain ⟨h1, h2⟩ := own_ints HEO.out
    have CT := Kp.mk (told_any idsW (by decide) rb rc rm (E.map Int.ofNat) w9 h1 h2 (by rw [← HEL.out]; omega) (fun z hz => by have := HBD.out z hz; omega) (HT.out.below HB.out))
    clear hSS hS0 hD CE CE2 hS9 h1 HBX HIX
    go_wp2_with fail
    refine CT.out.mono ?_
    rintro e w10 ⟨rfl, HB10⟩
    have HBF := Kp.mk (below_step HB.out HB10.out)
    clear CT
    go_wp2
    go_ret
    exact ⟨rfl, HBF⟩
/-- A text that is no query. -/
theorem ask_bad (db : Nat) (t : Wd) (w : World) (C : Calls Tryz.prog 42 #[str t] w fun e w' => e = .returned (.tuple #[.agg #[.int .i64 0, .int .i64 0, .int .i64 0, .int .i64 0, .int .i64 0, .int .i64 0, .slice none 0 0], .int .i64 10]) ∧ Kp (Below w.heap.size w w')) :
    Calls Tryz.prog 26 #[.pointer (some ⟨db, 0, none⟩), str t] w fun e w' => e = .returned (str bad) ∧ Kp (Below w.heap.size w w') := by
  have CP := Kp.mk C
  clear C
  go_enter Tryz.func26, Tryz.ntmps26
  go_wp2_with fail
  refine CP.out.mono ?_
  rintro e w5 ⟨rfl, hb5⟩
  have HA := Kp.mk (fun o => below_step hb5.out (below_alloc (Nat.le_refl w5.heap.size) o))
  clear CP
  go_wp2
  go_ret
  exact ⟨rfl, ⟨HA.out _⟩⟩

end Go.Proofs.YtedchegejalolaaGreatDoor.Dk

