/- Package grid: Count. -/
import Derived.Test.YtepcmpcnkmfpcaaGrdE
namespace Go.Proofs.Ytepcmpcnkmfpcaa
set_option linter.unusedVariables false
open Go.RowKit

theorem past_true (y v : Int) : past y true v = decide (y < v) := by unfold past; simp
theorem past_false (y v : Int) : past y false v = decide (y ≤ v) := by
  unfold past
  by_cases h1 : y < v
  · simp [h1]; omega
  · by_cases h2 : v = y
    · simp [h2]
    · simp [h1, h2]; omega
theorem map_range_getD (L : List Pt) : (List.range L.length).map (fun i => L.getD i pt0) = L := by
  apply List.ext_getElem
  · simp
  · intro i h1 h2
    rw [List.getElem_map, List.getElem_range, getD_at _ _ h2]
/-- What Count computes is how many points stand in the rectangle. -/
theorem count_eq {n : Nat} {L : List Pt} {O : List Nat} (hO : IsOrder L O) (hn : L.length = n) (X0 Y0 X1 Y1 : Int) (p b : Nat) (hp : colAt L O n X0 false = p) (hb : colAt L O n X1 true = b) :
    max (0 : Int) ((cntY L O p (max p b) Y1 true : Nat) - (cntY L O p (max p b) Y0 false : Nat)) = (cntR L X0 Y0 X1 Y1 : Nat) := by
  have hol := hO.len
  have hpn : p ≤ n := by rw [← hp]; exact colAt_le _ _ _ _ _
  have hbn : b ≤ n := by rw [← hb]; exact colAt_le _ _ _ _ _
  obtain ⟨S, hS⟩ : ∃ S, S = O.map (fun i => L.getD i pt0) := ⟨_, rfl⟩
  have hSL : S.length = n := by rw [hS, List.length_map]; omega
  have hSg : ∀ i (h : i < S.length), S[i] = L.getD (O.getD i 0) pt0 := fun i h => by
    simp only [hS, List.getElem_map]
    rw [getD_at O 0 (by omega)]
  have hSP : S.Perm L := by
    have := hO.perm.map (fun i => L.getD i pt0)
    rw [map_range_getD] at this
    rw [hS]; exact this
  have hM : ∀ a c, (S.take c).drop a = ((O.take c).drop a).map (fun i => L.getD i pt0) := fun a c => by
    rw [hS, ← List.map_take, ← List.map_drop]
  have e1 : cntY L O p (max p b) Y1 true = ((S.take (max p b)).drop p).countP (fun q => decide (q.y ≤ Y1)) := by
    unfold cntY
    rw [hM, List.countP_map]
    apply List.countP_congr
    intro i _
    rw [past_true]
    simp
  have e2 : cntY L O p (max p b) Y0 false = ((S.take (max p b)).drop p).countP (fun q => decide (q.y < Y0)) := by
    unfold cntY
    rw [hM, List.countP_map]
    apply List.countP_congr
    intro i _
    rw [past_false]
    simp
  have hrc := range_cnt S X0 X1 p b (fun i j hij hj => by
      rw [hSg i (by omega), hSg j hj]
      have := hO.up i j hij (by omega)
      unfold lexLe at this; omega) (by omega) (by omega)
    (fun i hi hip => by
      rw [hSg i hi]
      have := fstIdx_before (fun k => past X0 false (L.getD (O.getD k 0) pt0).x) n i (by unfold colAt at hp; omega)
      rw [past_false] at this
      simpa using this)
    (fun h => by
      rw [hSg p h]
      have := fstIdx_at (fun k => past X0 false (L.getD (O.getD k 0) pt0).x) n (by unfold colAt at hp; omega)
      unfold colAt at hp
      rw [hp, past_false] at this
      simpa using this)
    (fun i hi hip => by
      rw [hSg i hi]
      have := fstIdx_before (fun k => past X1 true (L.getD (O.getD k 0) pt0).x) n i (by unfold colAt at hb; omega)
      rw [past_true] at this
      simpa using this)
    (fun h => by
      rw [hSg b h]
      have := fstIdx_at (fun k => past X1 true (L.getD (O.getD k 0) pt0).x) n (by unfold colAt at hb; omega)
      unfold colAt at hb
      rw [hb, past_true] at this
      simpa using this) (fun q => decide (Y0 ≤ q.y ∧ q.y ≤ Y1))
  rw [e1, e2, two_cnt, hrc, hSP.countP_eq]
  unfold cntR
  congr 2
  funext q
  unfold inR
  rw [Bool.eq_iff_iff]
  simp
  omega
theorem cntY_le (L : List Pt) (O : List Nat) (a b : Nat) (y : Int) (at' : Bool) : cntY L O a b y at' ≤ b := by
  unfold cntY
  refine Nat.le_trans List.countP_le_length ?_
  simp only [List.length_drop, List.length_take]
  omega
attribute [local irreducible] cntR cntY colAt

set_option maxRecDepth 100000 in
set_option maxHeartbeats 2000000 in
theorem gcount_any (a : Option Addr) (cap n : Nat) (L : List Pt) (X0 Y0 X1 Y1 : Int) (w : World) (h : SlF ptL 3 w a n cap L) (h0 : 0 < n) (hn : n ≤ 150) (hN : ∀ p ∈ L, p.Near) :
    Calls Try.prog 24 #[.slice a n cap, .agg #[.int .i64 X0, .int .i64 Y0, .int .i64 X1, .int .i64 Y1]] w fun e w' => e = .returned (.tuple #[.int .i64 (cntR L X0 Y0 X1 Y1 : Nat), .int .i64 0]) ∧ Below w.heap.size w w' := by
  obtain ⟨m, rfl⟩ : ∃ m, n = m + 1 := ⟨n - 1, by omega⟩
  have HA := Kp.mk (below_alloc (Nat.le_refl w.heap.size) (.cells #[.int .i64 X0, .int .i64 Y0, .int .i64 X1, .int .i64 Y1] 26))
  have HBX := Kp.mk (Box.new w #[.int .i64 X0, .int .i64 Y0, .int .i64 X1, .int .i64 Y1] 26)
  have H1 := Kp.mk (SlF.below h HA.out)
  have CC := Kp.mk (gcheck_any a cap (m + 1) L _ H1.out hn hN)
  have hm0 : ¬ (m : Int) + 1 = 0 := by omega
  have hm1 : ((m : Int) + 1 == 0) = false := by simpa using hm0
  clear h hN
  go_enter Try.func24, Try.ntmps24
  go_wp2_with fail
  refine CC.out.mono ?_
  rintro e w1 ⟨rfl, HB1⟩
  have H2 := Kp.mk (SlF.below H1.out HB1.out)
  have HX1 := Kp.mk (HBX.out.below HB1.out)
  have HBB1 := Kp.mk (below_step HA.out HB1.out)
  clear CC H1 HBX HA HB1
  go_wp2_with fail
  refine (gbuild_any a cap m L w1 H2.out hn).mono ?_
  rintro e w2 ⟨g, oa, oc, O, va, v, vc, V, wa, wc, R, rfl, HI, HF, HB2⟩
  have HX2 := Kp.mk (HX1.out.below HB2.out)
  have HBB2 := Kp.mk (below_step HBB1.out HB2.out)
  have x0 := (HX2.out.cell 0 rfl)
  have x1 := (HX2.out.cell 1 rfl)
  have x2 := (HX2.out.cell 2 rfl)
  have x3 := (HX2.out.cell 3 rfl)
  clear HX1 H2 HBB1 HB2
  have CO := Kp.mk (columns_any X0 Y0 X1 Y1 w2 HI.out HF.out (by omega))
  have HCE := Kp.mk (fun p b hp hb => count_eq HF.out.ord HF.out.len X0 Y0 X1 Y1 p b hp hb)
  obtain ⟨p, hp⟩ : ∃ p, colAt L O (m + 1) X0 false = p := ⟨_, rfl⟩
  obtain ⟨b, hb⟩ : ∃ b, colAt L O (m + 1) X1 true = b := ⟨_, rfl⟩
  have hpn : p ≤ m + 1 := by rw [← hp]; exact colAt_le _ _ _ _ _
  have hbn : b ≤ m + 1 := by rw [← hb]; exact colAt_le _ _ _ _ _
  have HEQ := Kp.mk (HCE.out p b hp hb)
  rw [hp, hb] at CO
  obtain ⟨q, hq⟩ : ∃ q, max p b = q := ⟨_, rfl⟩
  rw [hq] at CO HEQ
  have hpq : p ≤ q := by omega
  have hqn : q ≤ m + 1 := by omega
  clear hp hb hq HCE hpn hbn
  go_wp2_with fail
  refine CO.out.mono ?_
  rintro e w3 ⟨rfl, hb3⟩
  have HI3 := Kp.mk (HI.out.below hb3)
  have HX3 := Kp.mk (HX2.out.below hb3)
  have HBB3 := Kp.mk (below_step HBB2.out hb3)
  have r1 := later_cell (show w3.cell? ⟨w.heap.size, 1, none⟩ = some (.int .i64 Y0) from HX3.out.cell 1 rfl)
  have r3 := later_cell (show w3.cell? ⟨w.heap.size, 3, none⟩ = some (.int .i64 Y1) from HX3.out.cell 3 rfl)
  have C1 := Kp.mk (fun x : Later w3 => gbelow_any p q Y1 true x.val (HI3.out.below x.le) HF.out hn hpq hqn)
  have C2 := Kp.mk (fun x : Later w3 => gbelow_any p q Y0 false x.val (HI3.out.below x.le) HF.out hn hpq hqn)
  generalize hu1 : cntY L O p q Y1 true = u1 at *
  generalize hu2 : cntY L O p q Y0 false = u2 at *
  have hl1 : u1 ≤ 1000 := by rw [← hu1]; exact Nat.le_trans (cntY_le _ _ _ _ _ _) (by omega)
  have hl2 : u2 ≤ 1000 := by rw [← hu2]; exact Nat.le_trans (cntY_le _ _ _ _ _ _) (by omega)
  have ew : IntKind.i64.wrap ((u1 : Int) - u2) = (u1 : Int) - u2 := IntWalk.i64_in _ (by omega)
  obtain ⟨c, hc⟩ : ∃ c, c = cntR L X0 Y0 X1 Y1 := ⟨_, rfl⟩
  rw [← hc] at HEQ
  have HC := Kp.mk hc
  clear hc
  clear hu1 hu2 CO HI HX2 hb3 x0 x1 x2 x3 HBB2
  go_wp2
  refine region_later (by kernel_rfl) (by kernel_rfl) ?_
  iterate 16 (go_big_quiet_step ((go_at_call 42; first | (with_reducible exact q_later (C1.out _)) | (with_reducible exact q_later (C2.out _)))))
  refine wpQuiet_nil ?_
  rintro w' ⟨xl, rfl⟩
  have HB5 := Kp.mk (below_step HBB3.out xl.le)
  clear r1 r3 C1 C2
  go_wp2
  refine bodyPost_ret (v := .tuple #[.int .i64 (max (0 : Int) ((u1 : Int) - u2)), .int .i64 0]) (by simp [results, Try.results24, go_sem]) rfl ?_
  exact ⟨by rw [HEQ.out, HC.out], HB5.out⟩

end Go.Proofs.Ytepcmpcnkmfpcaa
