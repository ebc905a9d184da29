/- KleeThree: the walk. -/
import Derived.Test.YtlmdlholmlbcbaaKlR
import Derived.Test.YtlmdlholmlbcbaaKlU
namespace Go.Proofs.Ytlmdlholmlbcbaa
set_option linter.unusedVariables false
open Go.RowKit
open Pick (Rc meetR okR tot tot1 sumN cov inRc)

theorem slf_sub {α : Type} {f : α → List Value} {k : Nat} (hk : ∀ x, (f x).length = k) (hp : 0 < k) {w : World} {g o n cap : Nat} {L : List α} (h : SlF f k w (some ⟨g, o, none⟩) n cap L) (i c : Nat) (hi : i < L.length) (h1 : 1 ≤ c) (h2 : c ≤ maxLen) : SlF f k w (some ⟨g, o + i * k, none⟩) 1 c [L[i]] := by
  obtain ⟨b, off, e, hw, hc⟩ := SlF.at hk hp h i hi
  simp only [Option.some.injEq, Addr.mk.injEq, and_true] at e
  obtain ⟨rfl, rfl⟩ := e
  have e : flat f [L[i]] = f L[i] := by simp [flat]
  refine ⟨by rw [e, hk, Nat.one_mul], h1, h2, (fun h => by cases h), (fun j hj => ?_)⟩
  have hj' : j < (f L[i]).length := by rw [← e]; exact hj
  refine ⟨g, o + i * k, rfl, ?_⟩
  rw [hc j (by rw [← hk L[i]]; exact hj'), List.getElem?_eq_getElem hj']
  congr 1
  simp only [e]
theorem tot_bound (L : List Rc) (lo : Int) (n : Nat) : 0 ≤ tot L lo n ∧ tot L lo n ≤ n * n := by
  have hc : ∀ x, 0 ≤ Pick.colF L lo n x ∧ Pick.colF L lo n x ≤ n := fun x => by
    have := sumN_bound (f := fun j => if 0 < cov L x (lo + j) then (1 : Int) else 0) (c := 1) n (fun j _ => by split <;> omega)
    rw [Int.mul_one] at this
    exact this
  exact sumN_bound (f := fun i => Pick.colF L lo n (lo + i)) (c := (n : Int)) n (fun i _ => hc _)
theorem tot1_none (r : Rc) (lo : Int) (n : Nat) (h : ¬ okR r) : tot1 r lo n = 0 := by
  have hc : ∀ x y, ¬ (0 < cov [r] x y) := fun x y => by
    rw [Pick.cov_one]
    split
    · rename_i hh
      rw [Pick.inRc_iff] at hh
      exact absurd ⟨by omega, by omega⟩ h
    · omega
  exact Pick.sumN_zero n (fun i _ => Pick.sumN_zero n (fun j _ => if_neg (hc _ _)))

theorem rc_cells {w : World} {g n cap : Nat} {L : List Rc} (h : SlF rcL 4 w (some ⟨g, 0, none⟩) n cap L) (i : Nat) (hi : i < L.length) (r : Rc) (hr : L[i] = r) : w.cell? ⟨g, i * 4, none⟩ = some (.int .i64 r.x0) ∧ w.cell? ⟨g, i * 4 + 1, none⟩ = some (.int .i64 r.y0) ∧ w.cell? ⟨g, i * 4 + 2, none⟩ = some (.int .i64 r.x1) ∧ w.cell? ⟨g, i * 4 + 3, none⟩ = some (.int .i64 r.y1) := by
  obtain ⟨b, off, e, hw, hc⟩ := SlF.at rcL_len (by omega) h i hi
  simp only [Option.some.injEq, Addr.mk.injEq, and_true] at e
  obtain ⟨rfl, rfl⟩ := e
  rw [hr] at hc
  have h0 := hc 0 (by omega)
  have h1 := hc 1 (by omega)
  have h2 := hc 2 (by omega)
  have h3 := hc 3 (by omega)
  simp only [Nat.zero_add, Nat.add_zero] at h0 h1 h2 h3
  exact ⟨h0, h1, h2, h3⟩
theorem meet_boxed {r s : Rc} (hr : 0 ≤ r.x0 ∧ r.x0 ≤ r.x1 ∧ r.x1 < 30 ∧ 0 ≤ r.y0 ∧ r.y0 ≤ r.y1 ∧ r.y1 < 30) (hs : 0 ≤ s.x0 ∧ s.x0 ≤ s.x1 ∧ s.x1 < 30 ∧ 0 ≤ s.y0 ∧ s.y0 ≤ s.y1 ∧ s.y1 < 30) (h : okR (meetR r s)) : 0 ≤ (meetR r s).x0 ∧ (meetR r s).x0 ≤ (meetR r s).x1 ∧ (meetR r s).x1 < 30 ∧ 0 ≤ (meetR r s).y0 ∧ (meetR r s).y0 ≤ (meetR r s).y1 ∧ (meetR r s).y1 < 30 := by
  obtain ⟨h1, h2⟩ := h
  unfold meetR at *
  dsimp only at *
  omega
theorem meet_left {a b c : Rc} (h : okR (meetR (meetR a b) c)) : okR (meetR a b) := by
  obtain ⟨h1, h2⟩ := h
  unfold meetR at *
  unfold okR
  dsimp only at *
  omega
theorem one_boxed {r : Rc} (hr : 0 ≤ r.x0 ∧ r.x0 ≤ r.x1 ∧ r.x1 < 30 ∧ 0 ≤ r.y0 ∧ r.y0 ≤ r.y1 ∧ r.y1 < 30) : Pick.Boxed [r] 0 30 := fun q hq => by
  rw [List.mem_singleton.1 hq]; omega

set_option maxRecDepth 100000 in
set_option maxHeartbeats 40000000 in
theorem walk_KleeThree (x0_0 x0_1 x0_2 : Int) (x1_0 x1_1 x1_2 : Int) (x2_0 x2_1 x2_2 : Int) (w : World) (w0 : ∀ n ∈ [x0_0, x0_1, x0_2], (Lit.int .i64 n).wf = true) (w1 : ∀ n ∈ [x1_0, x1_1, x1_2], (Lit.int .i64 n).wf = true) (w2 : ∀ n ∈ [x2_0, x2_1, x2_2], (Lit.int .i64 n).wf = true) :
    Calls Try.prog 11 #[.agg #[.int .i64 x0_0, .int .i64 x0_1, .int .i64 x0_2], .agg #[.int .i64 x1_0, .int .i64 x1_1, .int .i64 x1_2], .agg #[.int .i64 x2_0, .int .i64 x2_1, .int .i64 x2_2]] w fun e w' => e = .returned (.bool true) ∧ Below w.heap.size w w' := by
  have HWF := Kp.mk (show ∀ p ∈ ([⟨x0_0, x0_1, x0_2⟩, ⟨x1_0, x1_1, x1_2⟩, ⟨x2_0, x2_1, x2_2⟩] : List Pt), p.Wf from by
    intro p hp
    simp only [List.mem_cons, List.not_mem_nil, or_false] at hp
    rcases hp with rfl | rfl | rfl
    · exact ⟨w0 _ (by simp), w0 _ (by simp), w0 _ (by simp)⟩
    · exact ⟨w1 _ (by simp), w1 _ (by simp), w1 _ (by simp)⟩
    · exact ⟨w2 _ (by simp), w2 _ (by simp), w2 _ (by simp)⟩)
  clear w0 w1 w2
  go_enter Try.func11, Try.ntmps11
  go_upto_region 1 with (fail)
  obtain ⟨W1, hW1⟩ : ∃ W, w.alloc (.cells #[.int .i64 x0_0, .int .i64 x0_1, .int .i64 x0_2] 58) = W := ⟨_, rfl⟩
  obtain ⟨W2, hW2⟩ : ∃ W, W1.alloc (.cells #[.int .i64 x1_0, .int .i64 x1_1, .int .i64 x1_2] 58) = W := ⟨_, rfl⟩
  obtain ⟨W3, hW3⟩ : ∃ W, W2.alloc (.cells #[.int .i64 x2_0, .int .i64 x2_1, .int .i64 x2_2] 58) = W := ⟨_, rfl⟩
  rw [hW1, hW2, hW3]
  have s1 : W1.heap.size = w.heap.size + 1 := by rw [← hW1, alloc_size]
  have s2 : W2.heap.size = w.heap.size + 1 + 1 := by rw [← hW2, alloc_size, s1]
  have b1 : Below w.heap.size w W1 := by rw [← hW1]; exact below_alloc (Nat.le_refl _) _
  have b2 : Below w.heap.size w W2 := by rw [← hW2]; exact b1.alloc (by omega) _
  have b3 : Below w.heap.size w W3 := by rw [← hW3]; exact b2.alloc (by omega) _
  have q1 : Box W1 w.heap.size #[.int .i64 x0_0, .int .i64 x0_1, .int .i64 x0_2] 58 := by rw [← hW1]; exact Box.new _ _ _
  have q2 : Box W2 (w.heap.size + 1) #[.int .i64 x1_0, .int .i64 x1_1, .int .i64 x1_2] 58 := by rw [← hW2, ← s1]; exact Box.new _ _ _
  have q3 : Box W3 (w.heap.size + 1 + 1) #[.int .i64 x2_0, .int .i64 x2_1, .int .i64 x2_2] 58 := by rw [← hW3, ← s2]; exact Box.new _ _ _
  have q12 : Box W3 w.heap.size #[.int .i64 x0_0, .int .i64 x0_1, .int .i64 x0_2] 58 := by rw [← hW3, ← hW2]; exact (q1.alloc _).alloc _
  have q22 : Box W3 (w.heap.size + 1) #[.int .i64 x1_0, .int .i64 x1_1, .int .i64 x1_2] 58 := by rw [← hW3]; exact q2.alloc _
  have HB3 := Kp.mk b3
  have k0 := q12.cell 0 rfl
  have k1 := q12.cell 1 rfl
  have k2 := q12.cell 2 rfl
  have k3 := q22.cell 0 rfl
  have k4 := q22.cell 1 rfl
  have k5 := q22.cell 2 rfl
  have k6 := q3.cell 0 rfl
  have k7 := q3.cell 1 rfl
  have k8 := q3.cell 2 rfl
  clear hW1 hW2 hW3 s1 s2 b1 b2 b3 q1 q2 q3 q12 q22
  have hlo := lit_own W3 #[.int .i64 x0_0, .int .i64 x0_1, .int .i64 x0_2, .int .i64 x1_0, .int .i64 x1_1, .int .i64 x1_2, .int .i64 x2_0, .int .i64 x2_1, .int .i64 x2_2] 58 3 3 rfl (by decide)
  have CR := Kp.mk (rects_any (some ⟨W3.heap.size, 0, none⟩) 3 3 3 30 [⟨x0_0, x0_1, x0_2⟩, ⟨x1_0, x1_1, x1_2⟩, ⟨x2_0, x2_1, x2_2⟩] _ (own_slc hlo) (by omega) (by omega) (by omega) (by omega) HWF.out)
  have HB4 := Kp.mk (HB3.out.alloc HB3.out.size (.cells #[.int .i64 x0_0, .int .i64 x0_1, .int .i64 x0_2, .int .i64 x1_0, .int .i64 x1_1, .int .i64 x1_2, .int .i64 x2_0, .int .i64 x2_1, .int .i64 x2_2] 58))
  clear hlo HB3 HWF
  go_wp2_with fail
  refine CR.out.mono ?_
  rintro e W5 ⟨oa, oc, r, rfl, hr, HO, hb5⟩
  have HB5 := Kp.mk (below_step HB4.out hb5)
  have HIN := Kp.mk (rcsOf_in [⟨x0_0, x0_1, x0_2⟩, ⟨x1_0, x1_1, x1_2⟩, ⟨x2_0, x2_1, x2_2⟩] 3 30 (by omega))
  have HRE := Kp.mk (show rcsOf [⟨x0_0, x0_1, x0_2⟩, ⟨x1_0, x1_1, x1_2⟩, ⟨x2_0, x2_1, x2_2⟩] 3 30 = [rcOf 30 ⟨x0_0, x0_1, x0_2⟩, rcOf 30 ⟨x1_0, x1_1, x1_2⟩, rcOf 30 ⟨x2_0, x2_1, x2_2⟩] from by unfold rcsOf; rfl)
  rw [HRE.out] at HO HIN hr
  generalize rcOf 30 ⟨x0_0, x0_1, x0_2⟩ = R0 at *
  generalize rcOf 30 ⟨x1_0, x1_1, x1_2⟩ = R1 at *
  generalize rcOf 30 ⟨x2_0, x2_1, x2_2⟩ = R2 at *
  obtain rfl : r = 3 := hr.out.symm
  clear HRE hr CR HB4 hb5 k0 k1 k2 k3 k4 k5 k6 k7 k8
  obtain ⟨g, rfl, hg1, hg2⟩ := own_some HO.out (by omega)
  have HL := Kp.mk (show SlF rcL 4 W5 (some ⟨g, 0, none⟩) 3 oc [R0, R1, R2] from own_slc HO.out)
  have hoc := HL.out.le
  have hom := HL.out.capm
  have hB0 : Pick.Boxed [R0] 0 30 ∧ R0.x0 ≤ R0.x1 ∧ R0.y0 ≤ R0.y1 := by
    have := HIN.out R0 (by simp)
    exact ⟨fun r hr => by rw [List.mem_singleton.1 hr]; omega, by omega, by omega⟩
  have hB1 : Pick.Boxed [R1] 0 30 ∧ R1.x0 ≤ R1.x1 ∧ R1.y0 ≤ R1.y1 := by
    have := HIN.out R1 (by simp)
    exact ⟨fun r hr => by rw [List.mem_singleton.1 hr]; omega, by omega, by omega⟩
  have hB2 : Pick.Boxed [R2] 0 30 ∧ R2.x0 ≤ R2.x1 ∧ R2.y0 ≤ R2.y1 := by
    have := HIN.out R2 (by simp)
    exact ⟨fun r hr => by rw [List.mem_singleton.1 hr]; omega, by omega, by omega⟩
  have A0 := Kp.mk (fun x : Later W5 => areaOf_any (some ⟨g, 0, none⟩) oc 1 [R0] 0 30 x.val ((slf_sub rcL_len (by omega) HL.out 0 oc (by simp) (by omega) hom).below x.le) (by omega) hB0.1 (by omega) (by omega) (fun r hr => by rw [List.mem_singleton.1 hr]; exact hB0.2))
  have A1 := Kp.mk (fun x : Later W5 => areaOf_any (some ⟨g, 4, none⟩) (oc - 1) 1 [R1] 0 30 x.val ((slf_sub rcL_len (by omega) HL.out 1 (oc - 1) (by simp) (by omega) (by omega)).below x.le) (by omega) hB1.1 (by omega) (by omega) (fun r hr => by rw [List.mem_singleton.1 hr]; exact hB1.2))
  have A2 := Kp.mk (fun x : Later W5 => areaOf_any (some ⟨g, 8, none⟩) (oc - 2) 1 [R2] 0 30 x.val ((slf_sub rcL_len (by omega) HL.out 2 (oc - 2) (by simp) (by omega) (by omega)).below x.le) (by omega) hB2.1 (by omega) (by omega) (fun r hr => by rw [List.mem_singleton.1 hr]; exact hB2.2))
  have t0 := tot_bound [R0] 0 30
  have t1 := tot_bound [R1] 0 30
  have t2 := tot_bound [R2] 0 30
  obtain ⟨T0, ht0⟩ : ∃ T, tot [R0] 0 30 = T := ⟨_, rfl⟩
  obtain ⟨T1, ht1⟩ : ∃ T, tot [R1] 0 30 = T := ⟨_, rfl⟩
  obtain ⟨T2, ht2⟩ : ∃ T, tot [R2] 0 30 = T := ⟨_, rfl⟩
  rw [ht0] at A0 t0
  rw [ht1] at A1 t1
  rw [ht2] at A2 t2
  have HT0 := Kp.mk ht0
  have HT1 := Kp.mk ht1
  have HT2 := Kp.mk ht2
  clear ht0 ht1 ht2 hB0 hB1 hB2
  have e1 : IntKind.i64.wrap (T0 + T1) = T0 + T1 := IntWalk.i64_in _ (by omega)
  have e2 : IntKind.i64.wrap (T0 + T1 + T2) = T0 + T1 + T2 := IntWalk.i64_in _ (by omega)
  go_wp2
  refine region_later (by kernel_rfl) (by kernel_rfl) ?_
  iterate 12 (go_big_quiet_step ((go_at_call 32; (first | (with_reducible exact q_later (A0.out _)) | (with_reducible exact q_later (A1.out _)) | (with_reducible exact q_later (A2.out _)) | fail))))
  refine wpQuiet_nil ?_
  rintro w' ⟨xl, rfl⟩
  have HL6 := Kp.mk (SlF.below HL.out xl.le)
  have HB6 := Kp.mk (below_step HB5.out xl.le)
  have HG6 := Kp.mk (show g < xl.val.heap.size from Nat.lt_of_lt_of_le hg2 xl.le.size)
  clear A0 A1 A2 HL HB5 hg1 hg2 HO e1 e2
  generalize xl.val = W6 at *
  go_upto_region 4 with (fail)
  have HP7 := Kp.mk (Box.new W6 #[.int .i64 0, .int .i64 1, .int .i64 0, .int .i64 2, .int .i64 1, .int .i64 2] 62)
  have HL7 := Kp.mk (SlF.below HL6.out (below_alloc (Nat.le_refl W6.heap.size) (.cells #[.int .i64 0, .int .i64 1, .int .i64 0, .int .i64 2, .int .i64 1, .int .i64 2] 62)))
  have HB7 := Kp.mk (HB6.out.alloc HB6.out.size (.cells #[.int .i64 0, .int .i64 1, .int .i64 0, .int .i64 2, .int .i64 1, .int .i64 2] 62))
  obtain ⟨W7, hW7⟩ : ∃ W, W6.alloc (.cells #[.int .i64 0, .int .i64 1, .int .i64 0, .int .i64 2, .int .i64 1, .int .i64 2] 62) = W := ⟨_, rfl⟩
  rw [hW7] at HP7 HL7 HB7 ⊢
  clear hW7 HL6 HB6 HG6
  generalize W6.heap.size = gp at *
  have m1 := tot_bound [meetR R0 R1] 0 30
  have m2 := tot_bound [meetR R0 R2] 0 30
  have m3 := tot_bound [meetR R1 R2] 0 30
  obtain ⟨M1, hm1⟩ : ∃ M, tot [meetR R0 R1] 0 30 = M := ⟨_, rfl⟩
  obtain ⟨M2, hm2⟩ : ∃ M, tot [meetR R0 R2] 0 30 = M := ⟨_, rfl⟩
  obtain ⟨M3, hm3⟩ : ∃ M, tot [meetR R1 R2] 0 30 = M := ⟨_, rfl⟩
  rw [hm1] at m1
  rw [hm2] at m2
  rw [hm3] at m3
  have HM1 := Kp.mk hm1
  have HM2 := Kp.mk hm2
  have HM3 := Kp.mk hm3
  clear hm1 hm2 hm3
  go_wp2
  go_loopw [8, 10] (fun v8 i wr => ∃ (q : Nat) (S : Int), i = .int .i64 q ∧ v8 = .int .i64 S ∧ ((q = 0 ∧ S = T0 + T1 + T2) ∨ (q = 1 ∧ S = T0 + T1 + T2 - M1) ∨ (q = 2 ∧ S = T0 + T1 + T2 - M1 - M2) ∨ (q = 3 ∧ S = T0 + T1 + T2 - M1 - M2 - M3)) ∧ Kp (SlF rcL 4 wr (some ⟨g, 0, none⟩) 3 oc [R0, R1, R2]) ∧ Kp (Box wr gp #[.int .i64 0, .int .i64 1, .int .i64 0, .int .i64 2, .int .i64 1, .int .i64 2] 62) ∧ Kp (Below w.heap.size w wr)) (fun _ i _ => 3 - (intOf i).toNat)
  case atStart => exact ⟨0, _, rfl, rfl, .inl ⟨rfl, rfl⟩, HL7, HP7, HB7⟩
  case round =>
    clear HL7 HP7 HB7
    obtain ⟨q, S, rfl, rfl, hc, HLr, HPr, HBr⟩ := hrel
    rcases hc with ⟨rfl, rfl⟩ | ⟨rfl, rfl⟩ | ⟨rfl, rfl⟩ | ⟨rfl, rfl⟩
    · have hS0 : wr.cell? ⟨gp, 0, none⟩ = some (.int .i64 0) ∧ wr.cell? ⟨gp, 1, none⟩ = some (.int .i64 1) ∧ wr.cell? ⟨g, 0, none⟩ = some (.int .i64 R0.x0) ∧ wr.cell? ⟨g, 1, none⟩ = some (.int .i64 R0.y0) ∧ wr.cell? ⟨g, 2, none⟩ = some (.int .i64 R0.x1) ∧ wr.cell? ⟨g, 3, none⟩ = some (.int .i64 R0.y1) ∧ wr.cell? ⟨g, 4, none⟩ = some (.int .i64 R1.x0) ∧ wr.cell? ⟨g, 5, none⟩ = some (.int .i64 R1.y0) ∧ wr.cell? ⟨g, 6, none⟩ = some (.int .i64 R1.x1) ∧ wr.cell? ⟨g, 7, none⟩ = some (.int .i64 R1.y1) :=
        ⟨HPr.out.cell 0 rfl, HPr.out.cell 1 rfl, (rc_cells HLr.out 0 (by simp) R0 rfl).1, (rc_cells HLr.out 0 (by simp) R0 rfl).2.1, (rc_cells HLr.out 0 (by simp) R0 rfl).2.2.1, (rc_cells HLr.out 0 (by simp) R0 rfl).2.2.2, (rc_cells HLr.out 1 (by simp) R1 rfl).1, (rc_cells HLr.out 1 (by simp) R1 rfl).2.1, (rc_cells HLr.out 1 (by simp) R1 rfl).2.2.1, (rc_cells HLr.out 1 (by simp) R1 rfl).2.2.2⟩
      have HBS := Kp.mk (fun (W W' : World) (hS : W.cell? ⟨gp, 0, none⟩ = some (.int .i64 0) ∧ W.cell? ⟨gp, 1, none⟩ = some (.int .i64 1) ∧ W.cell? ⟨g, 0, none⟩ = some (.int .i64 R0.x0) ∧ W.cell? ⟨g, 1, none⟩ = some (.int .i64 R0.y0) ∧ W.cell? ⟨g, 2, none⟩ = some (.int .i64 R0.x1) ∧ W.cell? ⟨g, 3, none⟩ = some (.int .i64 R0.y1) ∧ W.cell? ⟨g, 4, none⟩ = some (.int .i64 R1.x0) ∧ W.cell? ⟨g, 5, none⟩ = some (.int .i64 R1.y0) ∧ W.cell? ⟨g, 6, none⟩ = some (.int .i64 R1.x1) ∧ W.cell? ⟨g, 7, none⟩ = some (.int .i64 R1.y1)) (hb : Below W.heap.size W W') => show W'.cell? ⟨gp, 0, none⟩ = some (.int .i64 0) ∧ W'.cell? ⟨gp, 1, none⟩ = some (.int .i64 1) ∧ W'.cell? ⟨g, 0, none⟩ = some (.int .i64 R0.x0) ∧ W'.cell? ⟨g, 1, none⟩ = some (.int .i64 R0.y0) ∧ W'.cell? ⟨g, 2, none⟩ = some (.int .i64 R0.x1) ∧ W'.cell? ⟨g, 3, none⟩ = some (.int .i64 R0.y1) ∧ W'.cell? ⟨g, 4, none⟩ = some (.int .i64 R1.x0) ∧ W'.cell? ⟨g, 5, none⟩ = some (.int .i64 R1.y0) ∧ W'.cell? ⟨g, 6, none⟩ = some (.int .i64 R1.x1) ∧ W'.cell? ⟨g, 7, none⟩ = some (.int .i64 R1.y1) from
        ⟨(hb.cell (World.block_lt_of_cell? _ _ hS.1)).trans hS.1, (hb.cell (World.block_lt_of_cell? _ _ hS.2.1)).trans hS.2.1, (hb.cell (World.block_lt_of_cell? _ _ hS.2.2.1)).trans hS.2.2.1, (hb.cell (World.block_lt_of_cell? _ _ hS.2.2.2.1)).trans hS.2.2.2.1, (hb.cell (World.block_lt_of_cell? _ _ hS.2.2.2.2.1)).trans hS.2.2.2.2.1, (hb.cell (World.block_lt_of_cell? _ _ hS.2.2.2.2.2.1)).trans hS.2.2.2.2.2.1, (hb.cell (World.block_lt_of_cell? _ _ hS.2.2.2.2.2.2.1)).trans hS.2.2.2.2.2.2.1, (hb.cell (World.block_lt_of_cell? _ _ hS.2.2.2.2.2.2.2.1)).trans hS.2.2.2.2.2.2.2.1, (hb.cell (World.block_lt_of_cell? _ _ hS.2.2.2.2.2.2.2.2.1)).trans hS.2.2.2.2.2.2.2.2.1, (hb.cell (World.block_lt_of_cell? _ _ hS.2.2.2.2.2.2.2.2.2)).trans hS.2.2.2.2.2.2.2.2.2⟩)
      have hSA := HBS.out wr _ hS0 (below_alloc (Nat.le_refl wr.heap.size) (.cells #[.int .i64 0, .int .i64 0, .int .i64 0, .int .i64 0] 65))
      have CM := Kp.mk (fun (W : World) (hS : W.cell? ⟨gp, 0, none⟩ = some (.int .i64 0) ∧ W.cell? ⟨gp, 1, none⟩ = some (.int .i64 1) ∧ W.cell? ⟨g, 0, none⟩ = some (.int .i64 R0.x0) ∧ W.cell? ⟨g, 1, none⟩ = some (.int .i64 R0.y0) ∧ W.cell? ⟨g, 2, none⟩ = some (.int .i64 R0.x1) ∧ W.cell? ⟨g, 3, none⟩ = some (.int .i64 R0.y1) ∧ W.cell? ⟨g, 4, none⟩ = some (.int .i64 R1.x0) ∧ W.cell? ⟨g, 5, none⟩ = some (.int .i64 R1.y0) ∧ W.cell? ⟨g, 6, none⟩ = some (.int .i64 R1.x1) ∧ W.cell? ⟨g, 7, none⟩ = some (.int .i64 R1.y1)) => (meet_any (R0) (R1) W).mono (R' := fun e w' => e = .returned (.tuple #[.agg #[.int .i64 (meetR R0 R1).x0, .int .i64 (meetR R0 R1).y0, .int .i64 (meetR R0 R1).x1, .int .i64 (meetR R0 R1).y1], .bool (okB (meetR R0 R1))]) ∧ (w'.cell? ⟨gp, 0, none⟩ = some (.int .i64 0) ∧ w'.cell? ⟨gp, 1, none⟩ = some (.int .i64 1) ∧ w'.cell? ⟨g, 0, none⟩ = some (.int .i64 R0.x0) ∧ w'.cell? ⟨g, 1, none⟩ = some (.int .i64 R0.y0) ∧ w'.cell? ⟨g, 2, none⟩ = some (.int .i64 R0.x1) ∧ w'.cell? ⟨g, 3, none⟩ = some (.int .i64 R0.y1) ∧ w'.cell? ⟨g, 4, none⟩ = some (.int .i64 R1.x0) ∧ w'.cell? ⟨g, 5, none⟩ = some (.int .i64 R1.y0) ∧ w'.cell? ⟨g, 6, none⟩ = some (.int .i64 R1.x1) ∧ w'.cell? ⟨g, 7, none⟩ = some (.int .i64 R1.y1)) ∧ Kp (Below W.heap.size W w') ∧ Kp (∀ b cs t, Box W b cs t → Box w' b cs t)) (fun e w' h => ⟨h.1, HBS.out W w' hS h.2, ⟨h.2⟩, ⟨fun b cs t hx => hx.below h.2⟩⟩))
      have n1 : gp ≠ wr.heap.size := Nat.ne_of_lt (World.block_lt_of_cell? _ _ hS0.1)
      have n2 : wr.heap.size ≠ gp := fun e => n1 e.symm
      have n3 : g ≠ wr.heap.size := Nat.ne_of_lt (World.block_lt_of_cell? _ _ hS0.2.2.1)
      have n4 : wr.heap.size ≠ g := fun e => n3 e.symm
      go_wp2
      go_region_held3 (fun w' => w'.cell? ⟨gp, 0, none⟩ = some (.int .i64 0) ∧ w'.cell? ⟨gp, 1, none⟩ = some (.int .i64 1) ∧ w'.cell? ⟨g, 0, none⟩ = some (.int .i64 R0.x0) ∧ w'.cell? ⟨g, 1, none⟩ = some (.int .i64 R0.y0) ∧ w'.cell? ⟨g, 2, none⟩ = some (.int .i64 R0.x1) ∧ w'.cell? ⟨g, 3, none⟩ = some (.int .i64 R0.y1) ∧ w'.cell? ⟨g, 4, none⟩ = some (.int .i64 R1.x0) ∧ w'.cell? ⟨g, 5, none⟩ = some (.int .i64 R1.y0) ∧ w'.cell? ⟨g, 6, none⟩ = some (.int .i64 R1.x1) ∧ w'.cell? ⟨g, 7, none⟩ = some (.int .i64 R1.y1))
        (first | exact hS0 | exact hSA | exact hS3 | go_keep)
        ((go_at_call 33; (first
          | (refine (CM.out _ (by exact hS0)).mono ?_; rintro e w3 ⟨rfl, hS3, HK3, HK4⟩)
          | (refine (CM.out _ (by exact hSA)).mono ?_; rintro e w3 ⟨rfl, hS3, HK3, HK4⟩; have hx3 : Box w3 wr.heap.size #[.int .i64 0, .int .i64 0, .int .i64 0, .int .i64 0] 65 := HK4.out _ _ _ (Box.new wr #[.int .i64 0, .int .i64 0, .int .i64 0, .int .i64 0] 65); have z0 : w3.cell? ⟨wr.heap.size, 0, none⟩ = some (.int .i64 0) := hx3.cell 0 rfl; have z1 : w3.cell? ⟨wr.heap.size, 1, none⟩ = some (.int .i64 0) := hx3.cell 1 rfl; have z2 : w3.cell? ⟨wr.heap.size, 2, none⟩ = some (.int .i64 0) := hx3.cell 2 rfl; have z3 : w3.cell? ⟨wr.heap.size, 3, none⟩ = some (.int .i64 0) := hx3.cell 3 rfl; have y0 := frozen_of_row _ wr.heap.size 0 _ 65 hx3; have y1 := frozen_of_row _ wr.heap.size 1 _ 65 hx3; have y2 := frozen_of_row _ wr.heap.size 2 _ 65 hx3; have y3 := frozen_of_row _ wr.heap.size 3 _ 65 hx3)
          | fail)))
      all_goals
        first
          | (have hx4 := box_put (i := 3) (box_put (i := 2) (box_put (i := 1) (box_put (i := 0) hx3 (.int .i64 (meetR R0 R1).x0)) (.int .i64 (meetR R0 R1).y0)) (.int .i64 (meetR R0 R1).x1)) (.int .i64 (meetR R0 R1).y1)
             have b3 : Below wr.heap.size wr w3 := ((below_alloc (Nat.le_refl wr.heap.size) (.cells #[.int .i64 0, .int .i64 0, .int .i64 0, .int .i64 0] 65)).drew).trans (HK3.out.mono (show wr.heap.size ≤ (wr.alloc (.cells #[.int .i64 0, .int .i64 0, .int .i64 0, .int .i64 0] 65)).heap.size by rw [alloc_size]; omega))
             have b8 := b3.trans (below_of_grown (grown_trans (grown_trans (grown_trans (grown_set w3 wr.heap.size 0 (.int .i64 (meetR R0 R1).x0)) (grown_set _ wr.heap.size 1 (.int .i64 (meetR R0 R1).y0))) (grown_set _ wr.heap.size 2 (.int .i64 (meetR R0 R1).x1))) (grown_set _ wr.heap.size 3 (.int .i64 (meetR R0 R1).y1))) b3.size (fun q hq => by cases hq; exact Nat.le_refl _))
             have HX8 := Kp.mk (show Box _ wr.heap.size #[.int .i64 (meetR R0 R1).x0, .int .i64 (meetR R0 R1).y0, .int .i64 (meetR R0 R1).x1, .int .i64 (meetR R0 R1).y1] 65 from hx4)
             have HB8 := Kp.mk b8
             clear hx4 b3 b8 hx3 z0 z1 z2 z3 y0 y1 y2 y3 hS3 HK3 HK4
             generalize (((w3.setCell ⟨wr.heap.size, 0, none⟩ (.int .i64 (meetR R0 R1).x0)).setCell ⟨wr.heap.size, 1, none⟩ (.int .i64 (meetR R0 R1).y0)).setCell ⟨wr.heap.size, 2, none⟩ (.int .i64 (meetR R0 R1).x1)).setCell ⟨wr.heap.size, 3, none⟩ (.int .i64 (meetR R0 R1).y1) = W8 at *
             obtain ⟨bo, hbo⟩ : ∃ bo, wr.heap.size = bo := ⟨_, rfl⟩
             rw [hbo] at HX8
             simp only [hbo]
             clear hbo)
          | (have b3 : Below wr.heap.size wr w3 := ((Below.refl wr.heap.size wr).drew).trans HK3.out
             have HX8 := Kp.mk (Box.new w3 #[.int .i64 (meetR R0 R1).x0, .int .i64 (meetR R0 R1).y0, .int .i64 (meetR R0 R1).x1, .int .i64 (meetR R0 R1).y1] 65)
             have HB8 := Kp.mk (b3.alloc b3.size (.cells #[.int .i64 (meetR R0 R1).x0, .int .i64 (meetR R0 R1).y0, .int .i64 (meetR R0 R1).x1, .int .i64 (meetR R0 R1).y1] 65))
             clear b3 hS3 HK3 HK4
             generalize w3.alloc (.cells #[.int .i64 (meetR R0 R1).x0, .int .i64 (meetR R0 R1).y0, .int .i64 (meetR R0 R1).x1, .int .i64 (meetR R0 R1).y1] 65) = W8 at *
             obtain ⟨bo, hbo⟩ : ∃ bo, w3.heap.size = bo := ⟨_, rfl⟩
             rw [hbo] at HX8
             simp only [hbo]
             clear hbo)
      all_goals
        have HL8 := Kp.mk (SlF.below HLr.out HB8.out)
        have HP8 := Kp.mk (HPr.out.below HB8.out)
        have HW8 := Kp.mk (below_step HBr.out HB8.out)
        clear hS0 hSA HBS CM n1 n2 n3 n4 HLr HPr HBr HB8
        obtain ⟨ob, hob⟩ : ∃ ob, okB (meetR R0 R1) = ob := ⟨_, rfl⟩
        rw [hob]
        cases ob with
        | false =>
          have hM : M1 = 0 := by
            have := tot1_none (meetR R0 R1) 0 30 (fun h => by rw [← okB_iff, hob] at h; cases h)
            unfold tot1 at this
            rw [← HM1.out]; exact this
          clear hob
          go_wp2
          go_roundw
          case rel => exact ⟨1, T0 + T1 + T2, by go_num, rfl, .inr (.inl ⟨rfl, by omega⟩), HL8, HP8, HW8⟩
          case measure => simp [intOf]
        | true =>
          have hbx := one_boxed (meet_boxed (HIN.out R0 (by simp)) (HIN.out R1 (by simp)) ((okB_iff _).1 hob))
          have hmo := meet_boxed (HIN.out R0 (by simp)) (HIN.out R1 (by simp)) ((okB_iff _).1 hob)
          have d0 := HX8.out.cell 0 rfl
          have d1 := HX8.out.cell 1 rfl
          have d2 := HX8.out.cell 2 rfl
          have d3 := HX8.out.cell 3 rfl
          have e1 : IntKind.i64.wrap (T0 + T1 + T2 - M1) = T0 + T1 + T2 - M1 := IntWalk.i64_in _ (by omega)
          have CA := Kp.mk (areaOf_any (some ⟨W8.heap.size, 0, none⟩) 1 1 [meetR R0 R1] 0 30 _ (own_slc (lit_own W8 #[.int .i64 (meetR R0 R1).x0, .int .i64 (meetR R0 R1).y0, .int .i64 (meetR R0 R1).x1, .int .i64 (meetR R0 R1).y1] 65 1 4 rfl (by decide))) (by omega) hbx (by omega) (by omega) (fun r hr => by rw [List.mem_singleton.1 hr]; omega))
          rw [HM1.out] at CA
          have HBA := Kp.mk (below_alloc (Nat.le_refl W8.heap.size) (.cells #[.int .i64 (meetR R0 R1).x0, .int .i64 (meetR R0 R1).y0, .int .i64 (meetR R0 R1).x1, .int .i64 (meetR R0 R1).y1] 65))
          clear hob hbx hmo
          go_wp2_with fail
          refine CA.out.mono ?_
          rintro e W9 ⟨rfl, hb9⟩
          have HB9 := Kp.mk (below_step HBA.out hb9)
          have HL9 := Kp.mk (SlF.below HL8.out HB9.out)
          have HP9 := Kp.mk (HP8.out.below HB9.out)
          have HW9 := Kp.mk (below_step HW8.out HB9.out)
          clear hb9 HBA CA d0 d1 d2 d3 HL8 HP8 HW8 HB9 HX8
          go_wp2
          go_roundw
          case rel => exact ⟨1, T0 + T1 + T2 - M1, by go_num, rfl, .inr (.inl ⟨rfl, rfl⟩), HL9, HP9, HW9⟩
          case measure => simp [intOf]
    · have hS0 : wr.cell? ⟨gp, 2, none⟩ = some (.int .i64 0) ∧ wr.cell? ⟨gp, 3, none⟩ = some (.int .i64 2) ∧ wr.cell? ⟨g, 0, none⟩ = some (.int .i64 R0.x0) ∧ wr.cell? ⟨g, 1, none⟩ = some (.int .i64 R0.y0) ∧ wr.cell? ⟨g, 2, none⟩ = some (.int .i64 R0.x1) ∧ wr.cell? ⟨g, 3, none⟩ = some (.int .i64 R0.y1) ∧ wr.cell? ⟨g, 8, none⟩ = some (.int .i64 R2.x0) ∧ wr.cell? ⟨g, 9, none⟩ = some (.int .i64 R2.y0) ∧ wr.cell? ⟨g, 10, none⟩ = some (.int .i64 R2.x1) ∧ wr.cell? ⟨g, 11, none⟩ = some (.int .i64 R2.y1) :=
        ⟨HPr.out.cell 2 rfl, HPr.out.cell 3 rfl, (rc_cells HLr.out 0 (by simp) R0 rfl).1, (rc_cells HLr.out 0 (by simp) R0 rfl).2.1, (rc_cells HLr.out 0 (by simp) R0 rfl).2.2.1, (rc_cells HLr.out 0 (by simp) R0 rfl).2.2.2, (rc_cells HLr.out 2 (by simp) R2 rfl).1, (rc_cells HLr.out 2 (by simp) R2 rfl).2.1, (rc_cells HLr.out 2 (by simp) R2 rfl).2.2.1, (rc_cells HLr.out 2 (by simp) R2 rfl).2.2.2⟩
      have HBS := Kp.mk (fun (W W' : World) (hS : W.cell? ⟨gp, 2, none⟩ = some (.int .i64 0) ∧ W.cell? ⟨gp, 3, none⟩ = some (.int .i64 2) ∧ W.cell? ⟨g, 0, none⟩ = some (.int .i64 R0.x0) ∧ W.cell? ⟨g, 1, none⟩ = some (.int .i64 R0.y0) ∧ W.cell? ⟨g, 2, none⟩ = some (.int .i64 R0.x1) ∧ W.cell? ⟨g, 3, none⟩ = some (.int .i64 R0.y1) ∧ W.cell? ⟨g, 8, none⟩ = some (.int .i64 R2.x0) ∧ W.cell? ⟨g, 9, none⟩ = some (.int .i64 R2.y0) ∧ W.cell? ⟨g, 10, none⟩ = some (.int .i64 R2.x1) ∧ W.cell? ⟨g, 11, none⟩ = some (.int .i64 R2.y1)) (hb : Below W.heap.size W W') => show W'.cell? ⟨gp, 2, none⟩ = some (.int .i64 0) ∧ W'.cell? ⟨gp, 3, none⟩ = some (.int .i64 2) ∧ W'.cell? ⟨g, 0, none⟩ = some (.int .i64 R0.x0) ∧ W'.cell? ⟨g, 1, none⟩ = some (.int .i64 R0.y0) ∧ W'.cell? ⟨g, 2, none⟩ = some (.int .i64 R0.x1) ∧ W'.cell? ⟨g, 3, none⟩ = some (.int .i64 R0.y1) ∧ W'.cell? ⟨g, 8, none⟩ = some (.int .i64 R2.x0) ∧ W'.cell? ⟨g, 9, none⟩ = some (.int .i64 R2.y0) ∧ W'.cell? ⟨g, 10, none⟩ = some (.int .i64 R2.x1) ∧ W'.cell? ⟨g, 11, none⟩ = some (.int .i64 R2.y1) from
        ⟨(hb.cell (World.block_lt_of_cell? _ _ hS.1)).trans hS.1, (hb.cell (World.block_lt_of_cell? _ _ hS.2.1)).trans hS.2.1, (hb.cell (World.block_lt_of_cell? _ _ hS.2.2.1)).trans hS.2.2.1, (hb.cell (World.block_lt_of_cell? _ _ hS.2.2.2.1)).trans hS.2.2.2.1, (hb.cell (World.block_lt_of_cell? _ _ hS.2.2.2.2.1)).trans hS.2.2.2.2.1, (hb.cell (World.block_lt_of_cell? _ _ hS.2.2.2.2.2.1)).trans hS.2.2.2.2.2.1, (hb.cell (World.block_lt_of_cell? _ _ hS.2.2.2.2.2.2.1)).trans hS.2.2.2.2.2.2.1, (hb.cell (World.block_lt_of_cell? _ _ hS.2.2.2.2.2.2.2.1)).trans hS.2.2.2.2.2.2.2.1, (hb.cell (World.block_lt_of_cell? _ _ hS.2.2.2.2.2.2.2.2.1)).trans hS.2.2.2.2.2.2.2.2.1, (hb.cell (World.block_lt_of_cell? _ _ hS.2.2.2.2.2.2.2.2.2)).trans hS.2.2.2.2.2.2.2.2.2⟩)
      have hSA := HBS.out wr _ hS0 (below_alloc (Nat.le_refl wr.heap.size) (.cells #[.int .i64 0, .int .i64 0, .int .i64 0, .int .i64 0] 65))
      have CM := Kp.mk (fun (W : World) (hS : W.cell? ⟨gp, 2, none⟩ = some (.int .i64 0) ∧ W.cell? ⟨gp, 3, none⟩ = some (.int .i64 2) ∧ W.cell? ⟨g, 0, none⟩ = some (.int .i64 R0.x0) ∧ W.cell? ⟨g, 1, none⟩ = some (.int .i64 R0.y0) ∧ W.cell? ⟨g, 2, none⟩ = some (.int .i64 R0.x1) ∧ W.cell? ⟨g, 3, none⟩ = some (.int .i64 R0.y1) ∧ W.cell? ⟨g, 8, none⟩ = some (.int .i64 R2.x0) ∧ W.cell? ⟨g, 9, none⟩ = some (.int .i64 R2.y0) ∧ W.cell? ⟨g, 10, none⟩ = some (.int .i64 R2.x1) ∧ W.cell? ⟨g, 11, none⟩ = some (.int .i64 R2.y1)) => (meet_any (R0) (R2) W).mono (R' := fun e w' => e = .returned (.tuple #[.agg #[.int .i64 (meetR R0 R2).x0, .int .i64 (meetR R0 R2).y0, .int .i64 (meetR R0 R2).x1, .int .i64 (meetR R0 R2).y1], .bool (okB (meetR R0 R2))]) ∧ (w'.cell? ⟨gp, 2, none⟩ = some (.int .i64 0) ∧ w'.cell? ⟨gp, 3, none⟩ = some (.int .i64 2) ∧ w'.cell? ⟨g, 0, none⟩ = some (.int .i64 R0.x0) ∧ w'.cell? ⟨g, 1, none⟩ = some (.int .i64 R0.y0) ∧ w'.cell? ⟨g, 2, none⟩ = some (.int .i64 R0.x1) ∧ w'.cell? ⟨g, 3, none⟩ = some (.int .i64 R0.y1) ∧ w'.cell? ⟨g, 8, none⟩ = some (.int .i64 R2.x0) ∧ w'.cell? ⟨g, 9, none⟩ = some (.int .i64 R2.y0) ∧ w'.cell? ⟨g, 10, none⟩ = some (.int .i64 R2.x1) ∧ w'.cell? ⟨g, 11, none⟩ = some (.int .i64 R2.y1)) ∧ Kp (Below W.heap.size W w') ∧ Kp (∀ b cs t, Box W b cs t → Box w' b cs t)) (fun e w' h => ⟨h.1, HBS.out W w' hS h.2, ⟨h.2⟩, ⟨fun b cs t hx => hx.below h.2⟩⟩))
      have n1 : gp ≠ wr.heap.size := Nat.ne_of_lt (World.block_lt_of_cell? _ _ hS0.1)
      have n2 : wr.heap.size ≠ gp := fun e => n1 e.symm
      have n3 : g ≠ wr.heap.size := Nat.ne_of_lt (World.block_lt_of_cell? _ _ hS0.2.2.1)
      have n4 : wr.heap.size ≠ g := fun e => n3 e.symm
      go_wp2
      go_region_held3 (fun w' => w'.cell? ⟨gp, 2, none⟩ = some (.int .i64 0) ∧ w'.cell? ⟨gp, 3, none⟩ = some (.int .i64 2) ∧ w'.cell? ⟨g, 0, none⟩ = some (.int .i64 R0.x0) ∧ w'.cell? ⟨g, 1, none⟩ = some (.int .i64 R0.y0) ∧ w'.cell? ⟨g, 2, none⟩ = some (.int .i64 R0.x1) ∧ w'.cell? ⟨g, 3, none⟩ = some (.int .i64 R0.y1) ∧ w'.cell? ⟨g, 8, none⟩ = some (.int .i64 R2.x0) ∧ w'.cell? ⟨g, 9, none⟩ = some (.int .i64 R2.y0) ∧ w'.cell? ⟨g, 10, none⟩ = some (.int .i64 R2.x1) ∧ w'.cell? ⟨g, 11, none⟩ = some (.int .i64 R2.y1))
        (first | exact hS0 | exact hSA | exact hS3 | go_keep)
        ((go_at_call 33; (first
          | (refine (CM.out _ (by exact hS0)).mono ?_; rintro e w3 ⟨rfl, hS3, HK3, HK4⟩)
          | (refine (CM.out _ (by exact hSA)).mono ?_; rintro e w3 ⟨rfl, hS3, HK3, HK4⟩; have hx3 : Box w3 wr.heap.size #[.int .i64 0, .int .i64 0, .int .i64 0, .int .i64 0] 65 := HK4.out _ _ _ (Box.new wr #[.int .i64 0, .int .i64 0, .int .i64 0, .int .i64 0] 65); have z0 : w3.cell? ⟨wr.heap.size, 0, none⟩ = some (.int .i64 0) := hx3.cell 0 rfl; have z1 : w3.cell? ⟨wr.heap.size, 1, none⟩ = some (.int .i64 0) := hx3.cell 1 rfl; have z2 : w3.cell? ⟨wr.heap.size, 2, none⟩ = some (.int .i64 0) := hx3.cell 2 rfl; have z3 : w3.cell? ⟨wr.heap.size, 3, none⟩ = some (.int .i64 0) := hx3.cell 3 rfl; have y0 := frozen_of_row _ wr.heap.size 0 _ 65 hx3; have y1 := frozen_of_row _ wr.heap.size 1 _ 65 hx3; have y2 := frozen_of_row _ wr.heap.size 2 _ 65 hx3; have y3 := frozen_of_row _ wr.heap.size 3 _ 65 hx3)
          | fail)))
      all_goals
        first
          | (have hx4 := box_put (i := 3) (box_put (i := 2) (box_put (i := 1) (box_put (i := 0) hx3 (.int .i64 (meetR R0 R2).x0)) (.int .i64 (meetR R0 R2).y0)) (.int .i64 (meetR R0 R2).x1)) (.int .i64 (meetR R0 R2).y1)
             have b3 : Below wr.heap.size wr w3 := ((below_alloc (Nat.le_refl wr.heap.size) (.cells #[.int .i64 0, .int .i64 0, .int .i64 0, .int .i64 0] 65)).drew).trans (HK3.out.mono (show wr.heap.size ≤ (wr.alloc (.cells #[.int .i64 0, .int .i64 0, .int .i64 0, .int .i64 0] 65)).heap.size by rw [alloc_size]; omega))
             have b8 := b3.trans (below_of_grown (grown_trans (grown_trans (grown_trans (grown_set w3 wr.heap.size 0 (.int .i64 (meetR R0 R2).x0)) (grown_set _ wr.heap.size 1 (.int .i64 (meetR R0 R2).y0))) (grown_set _ wr.heap.size 2 (.int .i64 (meetR R0 R2).x1))) (grown_set _ wr.heap.size 3 (.int .i64 (meetR R0 R2).y1))) b3.size (fun q hq => by cases hq; exact Nat.le_refl _))
             have HX8 := Kp.mk (show Box _ wr.heap.size #[.int .i64 (meetR R0 R2).x0, .int .i64 (meetR R0 R2).y0, .int .i64 (meetR R0 R2).x1, .int .i64 (meetR R0 R2).y1] 65 from hx4)
             have HB8 := Kp.mk b8
             clear hx4 b3 b8 hx3 z0 z1 z2 z3 y0 y1 y2 y3 hS3 HK3 HK4
             generalize (((w3.setCell ⟨wr.heap.size, 0, none⟩ (.int .i64 (meetR R0 R2).x0)).setCell ⟨wr.heap.size, 1, none⟩ (.int .i64 (meetR R0 R2).y0)).setCell ⟨wr.heap.size, 2, none⟩ (.int .i64 (meetR R0 R2).x1)).setCell ⟨wr.heap.size, 3, none⟩ (.int .i64 (meetR R0 R2).y1) = W8 at *
             obtain ⟨bo, hbo⟩ : ∃ bo, wr.heap.size = bo := ⟨_, rfl⟩
             rw [hbo] at HX8
             simp only [hbo]
             clear hbo)
          | (have b3 : Below wr.heap.size wr w3 := ((Below.refl wr.heap.size wr).drew).trans HK3.out
             have HX8 := Kp.mk (Box.new w3 #[.int .i64 (meetR R0 R2).x0, .int .i64 (meetR R0 R2).y0, .int .i64 (meetR R0 R2).x1, .int .i64 (meetR R0 R2).y1] 65)
             have HB8 := Kp.mk (b3.alloc b3.size (.cells #[.int .i64 (meetR R0 R2).x0, .int .i64 (meetR R0 R2).y0, .int .i64 (meetR R0 R2).x1, .int .i64 (meetR R0 R2).y1] 65))
             clear b3 hS3 HK3 HK4
             generalize w3.alloc (.cells #[.int .i64 (meetR R0 R2).x0, .int .i64 (meetR R0 R2).y0, .int .i64 (meetR R0 R2).x1, .int .i64 (meetR R0 R2).y1] 65) = W8 at *
             obtain ⟨bo, hbo⟩ : ∃ bo, w3.heap.size = bo := ⟨_, rfl⟩
             rw [hbo] at HX8
             simp only [hbo]
             clear hbo)
      all_goals
        have HL8 := Kp.mk (SlF.below HLr.out HB8.out)
        have HP8 := Kp.mk (HPr.out.below HB8.out)
        have HW8 := Kp.mk (below_step HBr.out HB8.out)
        clear hS0 hSA HBS CM n1 n2 n3 n4 HLr HPr HBr HB8
        obtain ⟨ob, hob⟩ : ∃ ob, okB (meetR R0 R2) = ob := ⟨_, rfl⟩
        rw [hob]
        cases ob with
        | false =>
          have hM : M2 = 0 := by
            have := tot1_none (meetR R0 R2) 0 30 (fun h => by rw [← okB_iff, hob] at h; cases h)
            unfold tot1 at this
            rw [← HM2.out]; exact this
          clear hob
          go_wp2
          go_roundw
          case rel => exact ⟨2, T0 + T1 + T2 - M1, by go_num, rfl, .inr (.inr (.inl ⟨rfl, by omega⟩)), HL8, HP8, HW8⟩
          case measure => simp [intOf]
        | true =>
          have hbx := one_boxed (meet_boxed (HIN.out R0 (by simp)) (HIN.out R2 (by simp)) ((okB_iff _).1 hob))
          have hmo := meet_boxed (HIN.out R0 (by simp)) (HIN.out R2 (by simp)) ((okB_iff _).1 hob)
          have d0 := HX8.out.cell 0 rfl
          have d1 := HX8.out.cell 1 rfl
          have d2 := HX8.out.cell 2 rfl
          have d3 := HX8.out.cell 3 rfl
          have e1 : IntKind.i64.wrap (T0 + T1 + T2 - M1 - M2) = T0 + T1 + T2 - M1 - M2 := IntWalk.i64_in _ (by omega)
          have CA := Kp.mk (areaOf_any (some ⟨W8.heap.size, 0, none⟩) 1 1 [meetR R0 R2] 0 30 _ (own_slc (lit_own W8 #[.int .i64 (meetR R0 R2).x0, .int .i64 (meetR R0 R2).y0, .int .i64 (meetR R0 R2).x1, .int .i64 (meetR R0 R2).y1] 65 1 4 rfl (by decide))) (by omega) hbx (by omega) (by omega) (fun r hr => by rw [List.mem_singleton.1 hr]; omega))
          rw [HM2.out] at CA
          have HBA := Kp.mk (below_alloc (Nat.le_refl W8.heap.size) (.cells #[.int .i64 (meetR R0 R2).x0, .int .i64 (meetR R0 R2).y0, .int .i64 (meetR R0 R2).x1, .int .i64 (meetR R0 R2).y1] 65))
          clear hob hbx hmo
          go_wp2_with fail
          refine CA.out.mono ?_
          rintro e W9 ⟨rfl, hb9⟩
          have HB9 := Kp.mk (below_step HBA.out hb9)
          have HL9 := Kp.mk (SlF.below HL8.out HB9.out)
          have HP9 := Kp.mk (HP8.out.below HB9.out)
          have HW9 := Kp.mk (below_step HW8.out HB9.out)
          clear hb9 HBA CA d0 d1 d2 d3 HL8 HP8 HW8 HB9 HX8
          go_wp2
          go_roundw
          case rel => exact ⟨2, T0 + T1 + T2 - M1 - M2, by go_num, rfl, .inr (.inr (.inl ⟨rfl, rfl⟩)), HL9, HP9, HW9⟩
          case measure => simp [intOf]
    · have hS0 : wr.cell? ⟨gp, 4, none⟩ = some (.int .i64 1) ∧ wr.cell? ⟨gp, 5, none⟩ = some (.int .i64 2) ∧ wr.cell? ⟨g, 4, none⟩ = some (.int .i64 R1.x0) ∧ wr.cell? ⟨g, 5, none⟩ = some (.int .i64 R1.y0) ∧ wr.cell? ⟨g, 6, none⟩ = some (.int .i64 R1.x1) ∧ wr.cell? ⟨g, 7, none⟩ = some (.int .i64 R1.y1) ∧ wr.cell? ⟨g, 8, none⟩ = some (.int .i64 R2.x0) ∧ wr.cell? ⟨g, 9, none⟩ = some (.int .i64 R2.y0) ∧ wr.cell? ⟨g, 10, none⟩ = some (.int .i64 R2.x1) ∧ wr.cell? ⟨g, 11, none⟩ = some (.int .i64 R2.y1) :=
        ⟨HPr.out.cell 4 rfl, HPr.out.cell 5 rfl, (rc_cells HLr.out 1 (by simp) R1 rfl).1, (rc_cells HLr.out 1 (by simp) R1 rfl).2.1, (rc_cells HLr.out 1 (by simp) R1 rfl).2.2.1, (rc_cells HLr.out 1 (by simp) R1 rfl).2.2.2, (rc_cells HLr.out 2 (by simp) R2 rfl).1, (rc_cells HLr.out 2 (by simp) R2 rfl).2.1, (rc_cells HLr.out 2 (by simp) R2 rfl).2.2.1, (rc_cells HLr.out 2 (by simp) R2 rfl).2.2.2⟩
      have HBS := Kp.mk (fun (W W' : World) (hS : W.cell? ⟨gp, 4, none⟩ = some (.int .i64 1) ∧ W.cell? ⟨gp, 5, none⟩ = some (.int .i64 2) ∧ W.cell? ⟨g, 4, none⟩ = some (.int .i64 R1.x0) ∧ W.cell? ⟨g, 5, none⟩ = some (.int .i64 R1.y0) ∧ W.cell? ⟨g, 6, none⟩ = some (.int .i64 R1.x1) ∧ W.cell? ⟨g, 7, none⟩ = some (.int .i64 R1.y1) ∧ W.cell? ⟨g, 8, none⟩ = some (.int .i64 R2.x0) ∧ W.cell? ⟨g, 9, none⟩ = some (.int .i64 R2.y0) ∧ W.cell? ⟨g, 10, none⟩ = some (.int .i64 R2.x1) ∧ W.cell? ⟨g, 11, none⟩ = some (.int .i64 R2.y1)) (hb : Below W.heap.size W W') => show W'.cell? ⟨gp, 4, none⟩ = some (.int .i64 1) ∧ W'.cell? ⟨gp, 5, none⟩ = some (.int .i64 2) ∧ W'.cell? ⟨g, 4, none⟩ = some (.int .i64 R1.x0) ∧ W'.cell? ⟨g, 5, none⟩ = some (.int .i64 R1.y0) ∧ W'.cell? ⟨g, 6, none⟩ = some (.int .i64 R1.x1) ∧ W'.cell? ⟨g, 7, none⟩ = some (.int .i64 R1.y1) ∧ W'.cell? ⟨g, 8, none⟩ = some (.int .i64 R2.x0) ∧ W'.cell? ⟨g, 9, none⟩ = some (.int .i64 R2.y0) ∧ W'.cell? ⟨g, 10, none⟩ = some (.int .i64 R2.x1) ∧ W'.cell? ⟨g, 11, none⟩ = some (.int .i64 R2.y1) from
        ⟨(hb.cell (World.block_lt_of_cell? _ _ hS.1)).trans hS.1, (hb.cell (World.block_lt_of_cell? _ _ hS.2.1)).trans hS.2.1, (hb.cell (World.block_lt_of_cell? _ _ hS.2.2.1)).trans hS.2.2.1, (hb.cell (World.block_lt_of_cell? _ _ hS.2.2.2.1)).trans hS.2.2.2.1, (hb.cell (World.block_lt_of_cell? _ _ hS.2.2.2.2.1)).trans hS.2.2.2.2.1, (hb.cell (World.block_lt_of_cell? _ _ hS.2.2.2.2.2.1)).trans hS.2.2.2.2.2.1, (hb.cell (World.block_lt_of_cell? _ _ hS.2.2.2.2.2.2.1)).trans hS.2.2.2.2.2.2.1, (hb.cell (World.block_lt_of_cell? _ _ hS.2.2.2.2.2.2.2.1)).trans hS.2.2.2.2.2.2.2.1, (hb.cell (World.block_lt_of_cell? _ _ hS.2.2.2.2.2.2.2.2.1)).trans hS.2.2.2.2.2.2.2.2.1, (hb.cell (World.block_lt_of_cell? _ _ hS.2.2.2.2.2.2.2.2.2)).trans hS.2.2.2.2.2.2.2.2.2⟩)
      have hSA := HBS.out wr _ hS0 (below_alloc (Nat.le_refl wr.heap.size) (.cells #[.int .i64 0, .int .i64 0, .int .i64 0, .int .i64 0] 65))
      have CM := Kp.mk (fun (W : World) (hS : W.cell? ⟨gp, 4, none⟩ = some (.int .i64 1) ∧ W.cell? ⟨gp, 5, none⟩ = some (.int .i64 2) ∧ W.cell? ⟨g, 4, none⟩ = some (.int .i64 R1.x0) ∧ W.cell? ⟨g, 5, none⟩ = some (.int .i64 R1.y0) ∧ W.cell? ⟨g, 6, none⟩ = some (.int .i64 R1.x1) ∧ W.cell? ⟨g, 7, none⟩ = some (.int .i64 R1.y1) ∧ W.cell? ⟨g, 8, none⟩ = some (.int .i64 R2.x0) ∧ W.cell? ⟨g, 9, none⟩ = some (.int .i64 R2.y0) ∧ W.cell? ⟨g, 10, none⟩ = some (.int .i64 R2.x1) ∧ W.cell? ⟨g, 11, none⟩ = some (.int .i64 R2.y1)) => (meet_any (R1) (R2) W).mono (R' := fun e w' => e = .returned (.tuple #[.agg #[.int .i64 (meetR R1 R2).x0, .int .i64 (meetR R1 R2).y0, .int .i64 (meetR R1 R2).x1, .int .i64 (meetR R1 R2).y1], .bool (okB (meetR R1 R2))]) ∧ (w'.cell? ⟨gp, 4, none⟩ = some (.int .i64 1) ∧ w'.cell? ⟨gp, 5, none⟩ = some (.int .i64 2) ∧ w'.cell? ⟨g, 4, none⟩ = some (.int .i64 R1.x0) ∧ w'.cell? ⟨g, 5, none⟩ = some (.int .i64 R1.y0) ∧ w'.cell? ⟨g, 6, none⟩ = some (.int .i64 R1.x1) ∧ w'.cell? ⟨g, 7, none⟩ = some (.int .i64 R1.y1) ∧ w'.cell? ⟨g, 8, none⟩ = some (.int .i64 R2.x0) ∧ w'.cell? ⟨g, 9, none⟩ = some (.int .i64 R2.y0) ∧ w'.cell? ⟨g, 10, none⟩ = some (.int .i64 R2.x1) ∧ w'.cell? ⟨g, 11, none⟩ = some (.int .i64 R2.y1)) ∧ Kp (Below W.heap.size W w') ∧ Kp (∀ b cs t, Box W b cs t → Box w' b cs t)) (fun e w' h => ⟨h.1, HBS.out W w' hS h.2, ⟨h.2⟩, ⟨fun b cs t hx => hx.below h.2⟩⟩))
      have n1 : gp ≠ wr.heap.size := Nat.ne_of_lt (World.block_lt_of_cell? _ _ hS0.1)
      have n2 : wr.heap.size ≠ gp := fun e => n1 e.symm
      have n3 : g ≠ wr.heap.size := Nat.ne_of_lt (World.block_lt_of_cell? _ _ hS0.2.2.1)
      have n4 : wr.heap.size ≠ g := fun e => n3 e.symm
      go_wp2
      go_region_held3 (fun w' => w'.cell? ⟨gp, 4, none⟩ = some (.int .i64 1) ∧ w'.cell? ⟨gp, 5, none⟩ = some (.int .i64 2) ∧ w'.cell? ⟨g, 4, none⟩ = some (.int .i64 R1.x0) ∧ w'.cell? ⟨g, 5, none⟩ = some (.int .i64 R1.y0) ∧ w'.cell? ⟨g, 6, none⟩ = some (.int .i64 R1.x1) ∧ w'.cell? ⟨g, 7, none⟩ = some (.int .i64 R1.y1) ∧ w'.cell? ⟨g, 8, none⟩ = some (.int .i64 R2.x0) ∧ w'.cell? ⟨g, 9, none⟩ = some (.int .i64 R2.y0) ∧ w'.cell? ⟨g, 10, none⟩ = some (.int .i64 R2.x1) ∧ w'.cell? ⟨g, 11, none⟩ = some (.int .i64 R2.y1))
        (first | exact hS0 | exact hSA | exact hS3 | go_keep)
        ((go_at_call 33; (first
          | (refine (CM.out _ (by exact hS0)).mono ?_; rintro e w3 ⟨rfl, hS3, HK3, HK4⟩)
          | (refine (CM.out _ (by exact hSA)).mono ?_; rintro e w3 ⟨rfl, hS3, HK3, HK4⟩; have hx3 : Box w3 wr.heap.size #[.int .i64 0, .int .i64 0, .int .i64 0, .int .i64 0] 65 := HK4.out _ _ _ (Box.new wr #[.int .i64 0, .int .i64 0, .int .i64 0, .int .i64 0] 65); have z0 : w3.cell? ⟨wr.heap.size, 0, none⟩ = some (.int .i64 0) := hx3.cell 0 rfl; have z1 : w3.cell? ⟨wr.heap.size, 1, none⟩ = some (.int .i64 0) := hx3.cell 1 rfl; have z2 : w3.cell? ⟨wr.heap.size, 2, none⟩ = some (.int .i64 0) := hx3.cell 2 rfl; have z3 : w3.cell? ⟨wr.heap.size, 3, none⟩ = some (.int .i64 0) := hx3.cell 3 rfl; have y0 := frozen_of_row _ wr.heap.size 0 _ 65 hx3; have y1 := frozen_of_row _ wr.heap.size 1 _ 65 hx3; have y2 := frozen_of_row _ wr.heap.size 2 _ 65 hx3; have y3 := frozen_of_row _ wr.heap.size 3 _ 65 hx3)
          | fail)))
      all_goals
        first
          | (have hx4 := box_put (i := 3) (box_put (i := 2) (box_put (i := 1) (box_put (i := 0) hx3 (.int .i64 (meetR R1 R2).x0)) (.int .i64 (meetR R1 R2).y0)) (.int .i64 (meetR R1 R2).x1)) (.int .i64 (meetR R1 R2).y1)
             have b3 : Below wr.heap.size wr w3 := ((below_alloc (Nat.le_refl wr.heap.size) (.cells #[.int .i64 0, .int .i64 0, .int .i64 0, .int .i64 0] 65)).drew).trans (HK3.out.mono (show wr.heap.size ≤ (wr.alloc (.cells #[.int .i64 0, .int .i64 0, .int .i64 0, .int .i64 0] 65)).heap.size by rw [alloc_size]; omega))
             have b8 := b3.trans (below_of_grown (grown_trans (grown_trans (grown_trans (grown_set w3 wr.heap.size 0 (.int .i64 (meetR R1 R2).x0)) (grown_set _ wr.heap.size 1 (.int .i64 (meetR R1 R2).y0))) (grown_set _ wr.heap.size 2 (.int .i64 (meetR R1 R2).x1))) (grown_set _ wr.heap.size 3 (.int .i64 (meetR R1 R2).y1))) b3.size (fun q hq => by cases hq; exact Nat.le_refl _))
             have HX8 := Kp.mk (show Box _ wr.heap.size #[.int .i64 (meetR R1 R2).x0, .int .i64 (meetR R1 R2).y0, .int .i64 (meetR R1 R2).x1, .int .i64 (meetR R1 R2).y1] 65 from hx4)
             have HB8 := Kp.mk b8
             clear hx4 b3 b8 hx3 z0 z1 z2 z3 y0 y1 y2 y3 hS3 HK3 HK4
             generalize (((w3.setCell ⟨wr.heap.size, 0, none⟩ (.int .i64 (meetR R1 R2).x0)).setCell ⟨wr.heap.size, 1, none⟩ (.int .i64 (meetR R1 R2).y0)).setCell ⟨wr.heap.size, 2, none⟩ (.int .i64 (meetR R1 R2).x1)).setCell ⟨wr.heap.size, 3, none⟩ (.int .i64 (meetR R1 R2).y1) = W8 at *
             obtain ⟨bo, hbo⟩ : ∃ bo, wr.heap.size = bo := ⟨_, rfl⟩
             rw [hbo] at HX8
             simp only [hbo]
             clear hbo)
          | (have b3 : Below wr.heap.size wr w3 := ((Below.refl wr.heap.size wr).drew).trans HK3.out
             have HX8 := Kp.mk (Box.new w3 #[.int .i64 (meetR R1 R2).x0, .int .i64 (meetR R1 R2).y0, .int .i64 (meetR R1 R2).x1, .int .i64 (meetR R1 R2).y1] 65)
             have HB8 := Kp.mk (b3.alloc b3.size (.cells #[.int .i64 (meetR R1 R2).x0, .int .i64 (meetR R1 R2).y0, .int .i64 (meetR R1 R2).x1, .int .i64 (meetR R1 R2).y1] 65))
             clear b3 hS3 HK3 HK4
             generalize w3.alloc (.cells #[.int .i64 (meetR R1 R2).x0, .int .i64 (meetR R1 R2).y0, .int .i64 (meetR R1 R2).x1, .int .i64 (meetR R1 R2).y1] 65) = W8 at *
             obtain ⟨bo, hbo⟩ : ∃ bo, w3.heap.size = bo := ⟨_, rfl⟩
             rw [hbo] at HX8
             simp only [hbo]
             clear hbo)
      all_goals
        have HL8 := Kp.mk (SlF.below HLr.out HB8.out)
        have HP8 := Kp.mk (HPr.out.below HB8.out)
        have HW8 := Kp.mk (below_step HBr.out HB8.out)
        clear hS0 hSA HBS CM n1 n2 n3 n4 HLr HPr HBr HB8
        obtain ⟨ob, hob⟩ : ∃ ob, okB (meetR R1 R2) = ob := ⟨_, rfl⟩
        rw [hob]
        cases ob with
        | false =>
          have hM : M3 = 0 := by
            have := tot1_none (meetR R1 R2) 0 30 (fun h => by rw [← okB_iff, hob] at h; cases h)
            unfold tot1 at this
            rw [← HM3.out]; exact this
          clear hob
          go_wp2
          go_roundw
          case rel => exact ⟨3, T0 + T1 + T2 - M1 - M2, by go_num, rfl, .inr (.inr (.inr ⟨rfl, by omega⟩)), HL8, HP8, HW8⟩
          case measure => simp [intOf]
        | true =>
          have hbx := one_boxed (meet_boxed (HIN.out R1 (by simp)) (HIN.out R2 (by simp)) ((okB_iff _).1 hob))
          have hmo := meet_boxed (HIN.out R1 (by simp)) (HIN.out R2 (by simp)) ((okB_iff _).1 hob)
          have d0 := HX8.out.cell 0 rfl
          have d1 := HX8.out.cell 1 rfl
          have d2 := HX8.out.cell 2 rfl
          have d3 := HX8.out.cell 3 rfl
          have e1 : IntKind.i64.wrap (T0 + T1 + T2 - M1 - M2 - M3) = T0 + T1 + T2 - M1 - M2 - M3 := IntWalk.i64_in _ (by omega)
          have CA := Kp.mk (areaOf_any (some ⟨W8.heap.size, 0, none⟩) 1 1 [meetR R1 R2] 0 30 _ (own_slc (lit_own W8 #[.int .i64 (meetR R1 R2).x0, .int .i64 (meetR R1 R2).y0, .int .i64 (meetR R1 R2).x1, .int .i64 (meetR R1 R2).y1] 65 1 4 rfl (by decide))) (by omega) hbx (by omega) (by omega) (fun r hr => by rw [List.mem_singleton.1 hr]; omega))
          rw [HM3.out] at CA
          have HBA := Kp.mk (below_alloc (Nat.le_refl W8.heap.size) (.cells #[.int .i64 (meetR R1 R2).x0, .int .i64 (meetR R1 R2).y0, .int .i64 (meetR R1 R2).x1, .int .i64 (meetR R1 R2).y1] 65))
          clear hob hbx hmo
          go_wp2_with fail
          refine CA.out.mono ?_
          rintro e W9 ⟨rfl, hb9⟩
          have HB9 := Kp.mk (below_step HBA.out hb9)
          have HL9 := Kp.mk (SlF.below HL8.out HB9.out)
          have HP9 := Kp.mk (HP8.out.below HB9.out)
          have HW9 := Kp.mk (below_step HW8.out HB9.out)
          clear hb9 HBA CA d0 d1 d2 d3 HL8 HP8 HW8 HB9 HX8
          go_wp2
          go_roundw
          case rel => exact ⟨3, T0 + T1 + T2 - M1 - M2 - M3, by go_num, rfl, .inr (.inr (.inr ⟨rfl, rfl⟩)), HL9, HP9, HW9⟩
          case measure => simp [intOf]
    · clear HPr
      have HB3 := Kp.mk (show Pick.Boxed [R0, R1, R2] 0 30 from fun r hr => by have := HIN.out r hr; omega)
      have HO3 := Kp.mk (show ∀ r ∈ [R0, R1, R2], r.x0 ≤ r.x1 ∧ r.y0 ≤ r.y1 from fun r hr => by have := HIN.out r hr; omega)
      obtain ⟨M4, hm4⟩ : ∃ M, tot [meetR (meetR R0 R1) R2] 0 30 = M := ⟨_, rfl⟩
      have m4 := tot_bound [meetR (meetR R0 R1) R2] 0 30
      rw [hm4] at m4
      have HM4 := Kp.mk hm4
      have HTOT := Kp.mk (show tot [R0, R1, R2] 0 30 = T0 + T1 + T2 - M1 - M2 - M3 + M4 from by
        have := Pick.three R0 R1 R2 0 30
        unfold tot1 at this
        rw [HT0.out, HT1.out, HT2.out, HM1.out, HM2.out, HM3.out, hm4] at this
        exact this)
      have HSIX := Kp.mk (show tot [⟨0, 0, 2, 1⟩] 0 3 = 6 from by kernel_rfl)
      clear hm4
      have hS0 : wr.cell? ⟨g, 0, none⟩ = some (.int .i64 R0.x0) ∧ wr.cell? ⟨g, 1, none⟩ = some (.int .i64 R0.y0) ∧ wr.cell? ⟨g, 2, none⟩ = some (.int .i64 R0.x1) ∧ wr.cell? ⟨g, 3, none⟩ = some (.int .i64 R0.y1) ∧ wr.cell? ⟨g, 4, none⟩ = some (.int .i64 R1.x0) ∧ wr.cell? ⟨g, 5, none⟩ = some (.int .i64 R1.y0) ∧ wr.cell? ⟨g, 6, none⟩ = some (.int .i64 R1.x1) ∧ wr.cell? ⟨g, 7, none⟩ = some (.int .i64 R1.y1) :=
        ⟨(rc_cells HLr.out 0 (by simp) R0 rfl).1, (rc_cells HLr.out 0 (by simp) R0 rfl).2.1, (rc_cells HLr.out 0 (by simp) R0 rfl).2.2.1, (rc_cells HLr.out 0 (by simp) R0 rfl).2.2.2, (rc_cells HLr.out 1 (by simp) R1 rfl).1, (rc_cells HLr.out 1 (by simp) R1 rfl).2.1, (rc_cells HLr.out 1 (by simp) R1 rfl).2.2.1, (rc_cells HLr.out 1 (by simp) R1 rfl).2.2.2⟩
      have HBS := Kp.mk (fun (W W' : World) (hS : W.cell? ⟨g, 0, none⟩ = some (.int .i64 R0.x0) ∧ W.cell? ⟨g, 1, none⟩ = some (.int .i64 R0.y0) ∧ W.cell? ⟨g, 2, none⟩ = some (.int .i64 R0.x1) ∧ W.cell? ⟨g, 3, none⟩ = some (.int .i64 R0.y1) ∧ W.cell? ⟨g, 4, none⟩ = some (.int .i64 R1.x0) ∧ W.cell? ⟨g, 5, none⟩ = some (.int .i64 R1.y0) ∧ W.cell? ⟨g, 6, none⟩ = some (.int .i64 R1.x1) ∧ W.cell? ⟨g, 7, none⟩ = some (.int .i64 R1.y1)) (hb : Below W.heap.size W W') => show W'.cell? ⟨g, 0, none⟩ = some (.int .i64 R0.x0) ∧ W'.cell? ⟨g, 1, none⟩ = some (.int .i64 R0.y0) ∧ W'.cell? ⟨g, 2, none⟩ = some (.int .i64 R0.x1) ∧ W'.cell? ⟨g, 3, none⟩ = some (.int .i64 R0.y1) ∧ W'.cell? ⟨g, 4, none⟩ = some (.int .i64 R1.x0) ∧ W'.cell? ⟨g, 5, none⟩ = some (.int .i64 R1.y0) ∧ W'.cell? ⟨g, 6, none⟩ = some (.int .i64 R1.x1) ∧ W'.cell? ⟨g, 7, none⟩ = some (.int .i64 R1.y1) from
        ⟨(hb.cell (World.block_lt_of_cell? _ _ hS.1)).trans hS.1, (hb.cell (World.block_lt_of_cell? _ _ hS.2.1)).trans hS.2.1, (hb.cell (World.block_lt_of_cell? _ _ hS.2.2.1)).trans hS.2.2.1, (hb.cell (World.block_lt_of_cell? _ _ hS.2.2.2.1)).trans hS.2.2.2.1, (hb.cell (World.block_lt_of_cell? _ _ hS.2.2.2.2.1)).trans hS.2.2.2.2.1, (hb.cell (World.block_lt_of_cell? _ _ hS.2.2.2.2.2.1)).trans hS.2.2.2.2.2.1, (hb.cell (World.block_lt_of_cell? _ _ hS.2.2.2.2.2.2.1)).trans hS.2.2.2.2.2.2.1, (hb.cell (World.block_lt_of_cell? _ _ hS.2.2.2.2.2.2.2)).trans hS.2.2.2.2.2.2.2⟩)
      have hSA := HBS.out wr _ hS0 (below_alloc (Nat.le_refl wr.heap.size) (.cells #[.int .i64 0, .int .i64 0, .int .i64 0, .int .i64 0] 65))
      have CM := Kp.mk (fun (W : World) (hS : W.cell? ⟨g, 0, none⟩ = some (.int .i64 R0.x0) ∧ W.cell? ⟨g, 1, none⟩ = some (.int .i64 R0.y0) ∧ W.cell? ⟨g, 2, none⟩ = some (.int .i64 R0.x1) ∧ W.cell? ⟨g, 3, none⟩ = some (.int .i64 R0.y1) ∧ W.cell? ⟨g, 4, none⟩ = some (.int .i64 R1.x0) ∧ W.cell? ⟨g, 5, none⟩ = some (.int .i64 R1.y0) ∧ W.cell? ⟨g, 6, none⟩ = some (.int .i64 R1.x1) ∧ W.cell? ⟨g, 7, none⟩ = some (.int .i64 R1.y1)) => (meet_any (R0) (R1) W).mono (R' := fun e w' => e = .returned (.tuple #[.agg #[.int .i64 (meetR R0 R1).x0, .int .i64 (meetR R0 R1).y0, .int .i64 (meetR R0 R1).x1, .int .i64 (meetR R0 R1).y1], .bool (okB (meetR R0 R1))]) ∧ (w'.cell? ⟨g, 0, none⟩ = some (.int .i64 R0.x0) ∧ w'.cell? ⟨g, 1, none⟩ = some (.int .i64 R0.y0) ∧ w'.cell? ⟨g, 2, none⟩ = some (.int .i64 R0.x1) ∧ w'.cell? ⟨g, 3, none⟩ = some (.int .i64 R0.y1) ∧ w'.cell? ⟨g, 4, none⟩ = some (.int .i64 R1.x0) ∧ w'.cell? ⟨g, 5, none⟩ = some (.int .i64 R1.y0) ∧ w'.cell? ⟨g, 6, none⟩ = some (.int .i64 R1.x1) ∧ w'.cell? ⟨g, 7, none⟩ = some (.int .i64 R1.y1)) ∧ Kp (Below W.heap.size W w') ∧ Kp (∀ b cs t, Box W b cs t → Box w' b cs t)) (fun e w' h => ⟨h.1, HBS.out W w' hS h.2, ⟨h.2⟩, ⟨fun b cs t hx => hx.below h.2⟩⟩))
      have n1 : g ≠ wr.heap.size := Nat.ne_of_lt (World.block_lt_of_cell? _ _ hS0.1)
      have n2 : wr.heap.size ≠ g := fun e => n1 e.symm
      go_wp2
      go_region_held3 (fun w' => w'.cell? ⟨g, 0, none⟩ = some (.int .i64 R0.x0) ∧ w'.cell? ⟨g, 1, none⟩ = some (.int .i64 R0.y0) ∧ w'.cell? ⟨g, 2, none⟩ = some (.int .i64 R0.x1) ∧ w'.cell? ⟨g, 3, none⟩ = some (.int .i64 R0.y1) ∧ w'.cell? ⟨g, 4, none⟩ = some (.int .i64 R1.x0) ∧ w'.cell? ⟨g, 5, none⟩ = some (.int .i64 R1.y0) ∧ w'.cell? ⟨g, 6, none⟩ = some (.int .i64 R1.x1) ∧ w'.cell? ⟨g, 7, none⟩ = some (.int .i64 R1.y1))
        (first | exact hS0 | exact hSA | exact hS3 | go_keep)
        ((go_at_call 33; (first
          | (refine (CM.out _ (by exact hS0)).mono ?_; rintro e w3 ⟨rfl, hS3, HK3, HK4⟩)
          | (refine (CM.out _ (by exact hSA)).mono ?_; rintro e w3 ⟨rfl, hS3, HK3, HK4⟩; have hx3 : Box w3 wr.heap.size #[.int .i64 0, .int .i64 0, .int .i64 0, .int .i64 0] 65 := HK4.out _ _ _ (Box.new wr #[.int .i64 0, .int .i64 0, .int .i64 0, .int .i64 0] 65); have z0 : w3.cell? ⟨wr.heap.size, 0, none⟩ = some (.int .i64 0) := hx3.cell 0 rfl; have z1 : w3.cell? ⟨wr.heap.size, 1, none⟩ = some (.int .i64 0) := hx3.cell 1 rfl; have z2 : w3.cell? ⟨wr.heap.size, 2, none⟩ = some (.int .i64 0) := hx3.cell 2 rfl; have z3 : w3.cell? ⟨wr.heap.size, 3, none⟩ = some (.int .i64 0) := hx3.cell 3 rfl; have y0 := frozen_of_row _ wr.heap.size 0 _ 65 hx3; have y1 := frozen_of_row _ wr.heap.size 1 _ 65 hx3; have y2 := frozen_of_row _ wr.heap.size 2 _ 65 hx3; have y3 := frozen_of_row _ wr.heap.size 3 _ 65 hx3)
          | fail)))
      all_goals
        first
          | (have hx4 := box_put (i := 3) (box_put (i := 2) (box_put (i := 1) (box_put (i := 0) hx3 (.int .i64 (meetR R0 R1).x0)) (.int .i64 (meetR R0 R1).y0)) (.int .i64 (meetR R0 R1).x1)) (.int .i64 (meetR R0 R1).y1)
             have b3 : Below wr.heap.size wr w3 := ((below_alloc (Nat.le_refl wr.heap.size) (.cells #[.int .i64 0, .int .i64 0, .int .i64 0, .int .i64 0] 65)).drew).trans (HK3.out.mono (show wr.heap.size ≤ (wr.alloc (.cells #[.int .i64 0, .int .i64 0, .int .i64 0, .int .i64 0] 65)).heap.size by rw [alloc_size]; omega))
             have b8 := b3.trans (below_of_grown (grown_trans (grown_trans (grown_trans (grown_set w3 wr.heap.size 0 (.int .i64 (meetR R0 R1).x0)) (grown_set _ wr.heap.size 1 (.int .i64 (meetR R0 R1).y0))) (grown_set _ wr.heap.size 2 (.int .i64 (meetR R0 R1).x1))) (grown_set _ wr.heap.size 3 (.int .i64 (meetR R0 R1).y1))) b3.size (fun q hq => by cases hq; exact Nat.le_refl _))
             have HX8 := Kp.mk (show Box _ wr.heap.size #[.int .i64 (meetR R0 R1).x0, .int .i64 (meetR R0 R1).y0, .int .i64 (meetR R0 R1).x1, .int .i64 (meetR R0 R1).y1] 65 from hx4)
             have HB8 := Kp.mk b8
             clear hx4 b3 b8 hx3 z0 z1 z2 z3 y0 y1 y2 y3 hS3 HK3 HK4
             generalize (((w3.setCell ⟨wr.heap.size, 0, none⟩ (.int .i64 (meetR R0 R1).x0)).setCell ⟨wr.heap.size, 1, none⟩ (.int .i64 (meetR R0 R1).y0)).setCell ⟨wr.heap.size, 2, none⟩ (.int .i64 (meetR R0 R1).x1)).setCell ⟨wr.heap.size, 3, none⟩ (.int .i64 (meetR R0 R1).y1) = W8 at *
             obtain ⟨bo, hbo⟩ : ∃ bo, wr.heap.size = bo := ⟨_, rfl⟩
             rw [hbo] at HX8
             simp only [hbo]
             clear hbo)
          | (have b3 : Below wr.heap.size wr w3 := ((Below.refl wr.heap.size wr).drew).trans HK3.out
             have HX8 := Kp.mk (Box.new w3 #[.int .i64 (meetR R0 R1).x0, .int .i64 (meetR R0 R1).y0, .int .i64 (meetR R0 R1).x1, .int .i64 (meetR R0 R1).y1] 65)
             have HB8 := Kp.mk (b3.alloc b3.size (.cells #[.int .i64 (meetR R0 R1).x0, .int .i64 (meetR R0 R1).y0, .int .i64 (meetR R0 R1).x1, .int .i64 (meetR R0 R1).y1] 65))
             clear b3 hS3 HK3 HK4
             generalize w3.alloc (.cells #[.int .i64 (meetR R0 R1).x0, .int .i64 (meetR R0 R1).y0, .int .i64 (meetR R0 R1).x1, .int .i64 (meetR R0 R1).y1] 65) = W8 at *
             obtain ⟨bo, hbo⟩ : ∃ bo, w3.heap.size = bo := ⟨_, rfl⟩
             rw [hbo] at HX8
             simp only [hbo]
             clear hbo)
      all_goals
        have HL8 := Kp.mk (SlF.below HLr.out HB8.out)
        have HW8 := Kp.mk (below_step HBr.out HB8.out)
        clear hS0 hSA HBS CM n1 n2 HLr HBr HB8
        obtain ⟨ob, hob⟩ : ∃ ob, okB (meetR R0 R1) = ob := ⟨_, rfl⟩
        rw [hob]
        cases ob with
        | false =>
          have hM : M4 = 0 := by
            have := tot1_none (meetR (meetR R0 R1) R2) 0 30 (fun h => by
              have h2 : okR (meetR R0 R1) := meet_left h
              rw [← okB_iff, hob] at h2; cases h2)
            unfold tot1 at this
            rw [← HM4.out]; exact this
          rw [hM, Int.add_zero] at HTOT
          clear hob
          have HLF := Kp.mk (areaOf_any (some ⟨g, 0, none⟩) oc 3 [R0, R1, R2] 0 30 _ HL8.out (by omega) HB3.out (by omega) (by omega) HO3.out)
          rw [HTOT.out] at HLF
          go_wp2_with fail
          refine HLF.out.mono ?_
          rintro e WA ⟨rfl, hbA⟩
          have HWA := Kp.mk (below_step HW8.out hbA)
          have CL := Kp.mk (areaOf_any (some ⟨WA.heap.size, 0, none⟩) 1 1 [⟨0, 0, 2, 1⟩] 0 3 _ (own_slc (lit_own WA #[.int .i64 0, .int .i64 0, .int .i64 2, .int .i64 1] 65 1 4 rfl (by decide))) (by omega) (fun r hr => by rw [List.mem_singleton.1 hr]; decide) (by omega) (by omega) (fun r hr => by rw [List.mem_singleton.1 hr]; decide))
          rw [HSIX.out] at CL
          have HBL := Kp.mk (below_alloc (Nat.le_refl WA.heap.size) (.cells #[.int .i64 0, .int .i64 0, .int .i64 2, .int .i64 1] 65))
          clear HLF hbA
          go_wp2_with fail
          refine CL.out.mono ?_
          rintro e WB ⟨rfl, hbB⟩
          have HWB := Kp.mk (below_step HWA.out (below_step HBL.out hbB))
          clear hbB CL HBL HWA
          go_wp2
          go_ret
          exact ⟨rfl, HWB.out⟩
        | true =>
          have HOK1 := Kp.mk (meet_boxed (HIN.out R0 (by simp)) (HIN.out R1 (by simp)) ((okB_iff _).1 hob))
          clear hob
          obtain ⟨XX, hXX⟩ : ∃ X, meetR R0 R1 = X := ⟨_, rfl⟩
          rw [hXX] at HX8 HOK1 HM4
          clear hXX
          have hS0 : W8.cell? ⟨bo, 0, none⟩ = some (.int .i64 XX.x0) ∧ W8.cell? ⟨bo, 1, none⟩ = some (.int .i64 XX.y0) ∧ W8.cell? ⟨bo, 2, none⟩ = some (.int .i64 XX.x1) ∧ W8.cell? ⟨bo, 3, none⟩ = some (.int .i64 XX.y1) ∧ W8.cell? ⟨g, 8, none⟩ = some (.int .i64 R2.x0) ∧ W8.cell? ⟨g, 9, none⟩ = some (.int .i64 R2.y0) ∧ W8.cell? ⟨g, 10, none⟩ = some (.int .i64 R2.x1) ∧ W8.cell? ⟨g, 11, none⟩ = some (.int .i64 R2.y1) :=
            ⟨HX8.out.cell 0 rfl, HX8.out.cell 1 rfl, HX8.out.cell 2 rfl, HX8.out.cell 3 rfl, (rc_cells HL8.out 2 (by simp) R2 rfl).1, (rc_cells HL8.out 2 (by simp) R2 rfl).2.1, (rc_cells HL8.out 2 (by simp) R2 rfl).2.2.1, (rc_cells HL8.out 2 (by simp) R2 rfl).2.2.2⟩
          have HBS := Kp.mk (fun (W W' : World) (hS : W.cell? ⟨bo, 0, none⟩ = some (.int .i64 XX.x0) ∧ W.cell? ⟨bo, 1, none⟩ = some (.int .i64 XX.y0) ∧ W.cell? ⟨bo, 2, none⟩ = some (.int .i64 XX.x1) ∧ W.cell? ⟨bo, 3, none⟩ = some (.int .i64 XX.y1) ∧ W.cell? ⟨g, 8, none⟩ = some (.int .i64 R2.x0) ∧ W.cell? ⟨g, 9, none⟩ = some (.int .i64 R2.y0) ∧ W.cell? ⟨g, 10, none⟩ = some (.int .i64 R2.x1) ∧ W.cell? ⟨g, 11, none⟩ = some (.int .i64 R2.y1)) (hb : Below W.heap.size W W') => show W'.cell? ⟨bo, 0, none⟩ = some (.int .i64 XX.x0) ∧ W'.cell? ⟨bo, 1, none⟩ = some (.int .i64 XX.y0) ∧ W'.cell? ⟨bo, 2, none⟩ = some (.int .i64 XX.x1) ∧ W'.cell? ⟨bo, 3, none⟩ = some (.int .i64 XX.y1) ∧ W'.cell? ⟨g, 8, none⟩ = some (.int .i64 R2.x0) ∧ W'.cell? ⟨g, 9, none⟩ = some (.int .i64 R2.y0) ∧ W'.cell? ⟨g, 10, none⟩ = some (.int .i64 R2.x1) ∧ W'.cell? ⟨g, 11, none⟩ = some (.int .i64 R2.y1) from
            ⟨(hb.cell (World.block_lt_of_cell? _ _ hS.1)).trans hS.1, (hb.cell (World.block_lt_of_cell? _ _ hS.2.1)).trans hS.2.1, (hb.cell (World.block_lt_of_cell? _ _ hS.2.2.1)).trans hS.2.2.1, (hb.cell (World.block_lt_of_cell? _ _ hS.2.2.2.1)).trans hS.2.2.2.1, (hb.cell (World.block_lt_of_cell? _ _ hS.2.2.2.2.1)).trans hS.2.2.2.2.1, (hb.cell (World.block_lt_of_cell? _ _ hS.2.2.2.2.2.1)).trans hS.2.2.2.2.2.1, (hb.cell (World.block_lt_of_cell? _ _ hS.2.2.2.2.2.2.1)).trans hS.2.2.2.2.2.2.1, (hb.cell (World.block_lt_of_cell? _ _ hS.2.2.2.2.2.2.2)).trans hS.2.2.2.2.2.2.2⟩)
          have hSA := HBS.out W8 _ hS0 (below_alloc (Nat.le_refl W8.heap.size) (.cells #[.int .i64 0, .int .i64 0, .int .i64 0, .int .i64 0] 65))
          have CM := Kp.mk (fun (W : World) (hS : W.cell? ⟨bo, 0, none⟩ = some (.int .i64 XX.x0) ∧ W.cell? ⟨bo, 1, none⟩ = some (.int .i64 XX.y0) ∧ W.cell? ⟨bo, 2, none⟩ = some (.int .i64 XX.x1) ∧ W.cell? ⟨bo, 3, none⟩ = some (.int .i64 XX.y1) ∧ W.cell? ⟨g, 8, none⟩ = some (.int .i64 R2.x0) ∧ W.cell? ⟨g, 9, none⟩ = some (.int .i64 R2.y0) ∧ W.cell? ⟨g, 10, none⟩ = some (.int .i64 R2.x1) ∧ W.cell? ⟨g, 11, none⟩ = some (.int .i64 R2.y1)) => (meet_any (XX) (R2) W).mono (R' := fun e w' => e = .returned (.tuple #[.agg #[.int .i64 (meetR XX R2).x0, .int .i64 (meetR XX R2).y0, .int .i64 (meetR XX R2).x1, .int .i64 (meetR XX R2).y1], .bool (okB (meetR XX R2))]) ∧ (w'.cell? ⟨bo, 0, none⟩ = some (.int .i64 XX.x0) ∧ w'.cell? ⟨bo, 1, none⟩ = some (.int .i64 XX.y0) ∧ w'.cell? ⟨bo, 2, none⟩ = some (.int .i64 XX.x1) ∧ w'.cell? ⟨bo, 3, none⟩ = some (.int .i64 XX.y1) ∧ w'.cell? ⟨g, 8, none⟩ = some (.int .i64 R2.x0) ∧ w'.cell? ⟨g, 9, none⟩ = some (.int .i64 R2.y0) ∧ w'.cell? ⟨g, 10, none⟩ = some (.int .i64 R2.x1) ∧ w'.cell? ⟨g, 11, none⟩ = some (.int .i64 R2.y1)) ∧ Kp (Below W.heap.size W w') ∧ Kp (∀ b cs t, Box W b cs t → Box w' b cs t)) (fun e w' h => ⟨h.1, HBS.out W w' hS h.2, ⟨h.2⟩, ⟨fun b cs t hx => hx.below h.2⟩⟩))
          have n1 : bo ≠ W8.heap.size := Nat.ne_of_lt (World.block_lt_of_cell? _ _ hS0.1)
          have n2 : W8.heap.size ≠ bo := fun e => n1 e.symm
          have n3 : g ≠ W8.heap.size := Nat.ne_of_lt (World.block_lt_of_cell? _ _ hS0.2.2.2.2.1)
          have n4 : W8.heap.size ≠ g := fun e => n3 e.symm
          go_wp2
          go_region_held3 (fun w' => w'.cell? ⟨bo, 0, none⟩ = some (.int .i64 XX.x0) ∧ w'.cell? ⟨bo, 1, none⟩ = some (.int .i64 XX.y0) ∧ w'.cell? ⟨bo, 2, none⟩ = some (.int .i64 XX.x1) ∧ w'.cell? ⟨bo, 3, none⟩ = some (.int .i64 XX.y1) ∧ w'.cell? ⟨g, 8, none⟩ = some (.int .i64 R2.x0) ∧ w'.cell? ⟨g, 9, none⟩ = some (.int .i64 R2.y0) ∧ w'.cell? ⟨g, 10, none⟩ = some (.int .i64 R2.x1) ∧ w'.cell? ⟨g, 11, none⟩ = some (.int .i64 R2.y1))
            (first | exact hS0 | exact hSA | exact hS3 | go_keep)
            ((go_at_call 33; (first
              | (refine (CM.out _ (by exact hS0)).mono ?_; rintro e w3 ⟨rfl, hS3, HK3, HK4⟩)
              | (refine (CM.out _ (by exact hSA)).mono ?_; rintro e w3 ⟨rfl, hS3, HK3, HK4⟩; have hx3 : Box w3 W8.heap.size #[.int .i64 0, .int .i64 0, .int .i64 0, .int .i64 0] 65 := HK4.out _ _ _ (Box.new W8 #[.int .i64 0, .int .i64 0, .int .i64 0, .int .i64 0] 65); have z0 : w3.cell? ⟨W8.heap.size, 0, none⟩ = some (.int .i64 0) := hx3.cell 0 rfl; have z1 : w3.cell? ⟨W8.heap.size, 1, none⟩ = some (.int .i64 0) := hx3.cell 1 rfl; have z2 : w3.cell? ⟨W8.heap.size, 2, none⟩ = some (.int .i64 0) := hx3.cell 2 rfl; have z3 : w3.cell? ⟨W8.heap.size, 3, none⟩ = some (.int .i64 0) := hx3.cell 3 rfl; have y0 := frozen_of_row _ W8.heap.size 0 _ 65 hx3; have y1 := frozen_of_row _ W8.heap.size 1 _ 65 hx3; have y2 := frozen_of_row _ W8.heap.size 2 _ 65 hx3; have y3 := frozen_of_row _ W8.heap.size 3 _ 65 hx3)
              | fail)))
          all_goals
            first
              | (have hx4 := box_put (i := 3) (box_put (i := 2) (box_put (i := 1) (box_put (i := 0) hx3 (.int .i64 (meetR XX R2).x0)) (.int .i64 (meetR XX R2).y0)) (.int .i64 (meetR XX R2).x1)) (.int .i64 (meetR XX R2).y1)
                 have b3 : Below W8.heap.size W8 w3 := ((below_alloc (Nat.le_refl W8.heap.size) (.cells #[.int .i64 0, .int .i64 0, .int .i64 0, .int .i64 0] 65)).drew).trans (HK3.out.mono (show W8.heap.size ≤ (W8.alloc (.cells #[.int .i64 0, .int .i64 0, .int .i64 0, .int .i64 0] 65)).heap.size by rw [alloc_size]; omega))
                 have b8 := b3.trans (below_of_grown (grown_trans (grown_trans (grown_trans (grown_set w3 W8.heap.size 0 (.int .i64 (meetR XX R2).x0)) (grown_set _ W8.heap.size 1 (.int .i64 (meetR XX R2).y0))) (grown_set _ W8.heap.size 2 (.int .i64 (meetR XX R2).x1))) (grown_set _ W8.heap.size 3 (.int .i64 (meetR XX R2).y1))) b3.size (fun q hq => by cases hq; exact Nat.le_refl _))
                 have HX9 := Kp.mk (show Box _ W8.heap.size #[.int .i64 (meetR XX R2).x0, .int .i64 (meetR XX R2).y0, .int .i64 (meetR XX R2).x1, .int .i64 (meetR XX R2).y1] 65 from hx4)
                 have HB9 := Kp.mk b8
                 clear hx4 b3 b8 hx3 z0 z1 z2 z3 y0 y1 y2 y3 hS3 HK3 HK4
                 generalize (((w3.setCell ⟨W8.heap.size, 0, none⟩ (.int .i64 (meetR XX R2).x0)).setCell ⟨W8.heap.size, 1, none⟩ (.int .i64 (meetR XX R2).y0)).setCell ⟨W8.heap.size, 2, none⟩ (.int .i64 (meetR XX R2).x1)).setCell ⟨W8.heap.size, 3, none⟩ (.int .i64 (meetR XX R2).y1) = W9 at *
                 obtain ⟨bq, hbo⟩ : ∃ bq, W8.heap.size = bq := ⟨_, rfl⟩
                 rw [hbo] at HX9
                 simp only [hbo]
                 clear hbo)
              | (have b3 : Below W8.heap.size W8 w3 := ((Below.refl W8.heap.size W8).drew).trans HK3.out
                 have HX9 := Kp.mk (Box.new w3 #[.int .i64 (meetR XX R2).x0, .int .i64 (meetR XX R2).y0, .int .i64 (meetR XX R2).x1, .int .i64 (meetR XX R2).y1] 65)
                 have HB9 := Kp.mk (b3.alloc b3.size (.cells #[.int .i64 (meetR XX R2).x0, .int .i64 (meetR XX R2).y0, .int .i64 (meetR XX R2).x1, .int .i64 (meetR XX R2).y1] 65))
                 clear b3 hS3 HK3 HK4
                 generalize w3.alloc (.cells #[.int .i64 (meetR XX R2).x0, .int .i64 (meetR XX R2).y0, .int .i64 (meetR XX R2).x1, .int .i64 (meetR XX R2).y1] 65) = W9 at *
                 obtain ⟨bq, hbo⟩ : ∃ bq, w3.heap.size = bq := ⟨_, rfl⟩
                 rw [hbo] at HX9
                 simp only [hbo]
                 clear hbo)
          all_goals
            have HL9 := Kp.mk (SlF.below HL8.out HB9.out)
            have HW9 := Kp.mk (below_step HW8.out HB9.out)
            clear hS0 hSA HBS CM n1 n2 n3 n4 HL8 HW8 HB9
            obtain ⟨oc2, hob⟩ : ∃ ob, okB (meetR XX R2) = ob := ⟨_, rfl⟩
            rw [hob]
            cases oc2 with
            | false =>
              have hM : M4 = 0 := by
                have := tot1_none (meetR XX R2) 0 30 (fun h => by rw [← okB_iff, hob] at h; cases h)
                unfold tot1 at this
                rw [← HM4.out]; exact this
              rw [hM, Int.add_zero] at HTOT
              clear hob
              have HLF := Kp.mk (areaOf_any (some ⟨g, 0, none⟩) oc 3 [R0, R1, R2] 0 30 _ HL9.out (by omega) HB3.out (by omega) (by omega) HO3.out)
              rw [HTOT.out] at HLF
              go_wp2_with fail
              refine HLF.out.mono ?_
              rintro e WA ⟨rfl, hbA⟩
              have HWA := Kp.mk (below_step HW9.out hbA)
              have CL := Kp.mk (areaOf_any (some ⟨WA.heap.size, 0, none⟩) 1 1 [⟨0, 0, 2, 1⟩] 0 3 _ (own_slc (lit_own WA #[.int .i64 0, .int .i64 0, .int .i64 2, .int .i64 1] 65 1 4 rfl (by decide))) (by omega) (fun r hr => by rw [List.mem_singleton.1 hr]; decide) (by omega) (by omega) (fun r hr => by rw [List.mem_singleton.1 hr]; decide))
              rw [HSIX.out] at CL
              have HBL := Kp.mk (below_alloc (Nat.le_refl WA.heap.size) (.cells #[.int .i64 0, .int .i64 0, .int .i64 2, .int .i64 1] 65))
              clear HLF hbA
              go_wp2_with fail
              refine CL.out.mono ?_
              rintro e WB ⟨rfl, hbB⟩
              have HWB := Kp.mk (below_step HWA.out (below_step HBL.out hbB))
              clear hbB CL HBL HWA
              go_wp2
              go_ret
              exact ⟨rfl, HWB.out⟩
            | true =>
              have hbx := one_boxed (meet_boxed HOK1.out (HIN.out R2 (by simp)) ((okB_iff _).1 hob))
              have hmo := meet_boxed HOK1.out (HIN.out R2 (by simp)) ((okB_iff _).1 hob)
              have d0 := HX9.out.cell 0 rfl
              have d1 := HX9.out.cell 1 rfl
              have d2 := HX9.out.cell 2 rfl
              have d3 := HX9.out.cell 3 rfl
              have e1 : IntKind.i64.wrap (T0 + T1 + T2 - M1 - M2 - M3 + M4) = T0 + T1 + T2 - M1 - M2 - M3 + M4 := IntWalk.i64_in _ (by omega)
              have CA := Kp.mk (areaOf_any (some ⟨W9.heap.size, 0, none⟩) 1 1 [meetR XX R2] 0 30 _ (own_slc (lit_own W9 #[.int .i64 (meetR XX R2).x0, .int .i64 (meetR XX R2).y0, .int .i64 (meetR XX R2).x1, .int .i64 (meetR XX R2).y1] 65 1 4 rfl (by decide))) (by omega) hbx (by omega) (by omega) (fun r hr => by rw [List.mem_singleton.1 hr]; omega))
              rw [HM4.out] at CA
              have HBA := Kp.mk (below_alloc (Nat.le_refl W9.heap.size) (.cells #[.int .i64 (meetR XX R2).x0, .int .i64 (meetR XX R2).y0, .int .i64 (meetR XX R2).x1, .int .i64 (meetR XX R2).y1] 65))
              clear hob hbx hmo
              go_wp2_with fail
              refine CA.out.mono ?_
              rintro e WC ⟨rfl, hb9⟩
              have HBC := Kp.mk (below_step HBA.out hb9)
              have HLC := Kp.mk (SlF.below HL9.out HBC.out)
              have HWC := Kp.mk (below_step HW9.out HBC.out)
              clear hb9 HBA CA d0 d1 d2 d3 HL9 HW9 HBC HX9 HX8
              have HLF := Kp.mk (areaOf_any (some ⟨g, 0, none⟩) oc 3 [R0, R1, R2] 0 30 _ HLC.out (by omega) HB3.out (by omega) (by omega) HO3.out)
              rw [HTOT.out] at HLF
              go_wp2_with fail
              refine HLF.out.mono ?_
              rintro e WA ⟨rfl, hbA⟩
              have HWA := Kp.mk (below_step HWC.out hbA)
              have CL := Kp.mk (areaOf_any (some ⟨WA.heap.size, 0, none⟩) 1 1 [⟨0, 0, 2, 1⟩] 0 3 _ (own_slc (lit_own WA #[.int .i64 0, .int .i64 0, .int .i64 2, .int .i64 1] 65 1 4 rfl (by decide))) (by omega) (fun r hr => by rw [List.mem_singleton.1 hr]; decide) (by omega) (by omega) (fun r hr => by rw [List.mem_singleton.1 hr]; decide))
              rw [HSIX.out] at CL
              have HBL := Kp.mk (below_alloc (Nat.le_refl WA.heap.size) (.cells #[.int .i64 0, .int .i64 0, .int .i64 2, .int .i64 1] 65))
              clear HLF hbA
              go_wp2_with fail
              refine CL.out.mono ?_
              rintro e WB ⟨rfl, hbB⟩
              have HWB := Kp.mk (below_step HWA.out (below_step HBL.out hbB))
              clear hbB CL HBL HWA
              go_wp2
              go_ret
              exact ⟨rfl, HWB.out⟩

end Go.Proofs.Ytlmdlholmlbcbaa
