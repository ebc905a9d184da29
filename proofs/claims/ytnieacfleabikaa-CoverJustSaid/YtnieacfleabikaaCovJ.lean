/- The walk of CoverJust. -/
import Derived.Test.YtnieacfleabikaaCovL
import Derived.Test.YtnieacfleabikaaRectOf
namespace Go.Proofs.Ytnieacfleabikaa
set_option linter.unusedVariables false
open Go.RowKit

set_option maxRecDepth 100000 in
set_option maxHeartbeats 1000000 in
theorem coverAll_any (X0 Y0 X1 Y1 : Nat) (w : World) (h1 : X1 < 256) (h2 : Y1 < 256) (h3 : X0 ≤ X1) (h4 : Y0 ≤ Y1) :
    Calls Try.prog 16 #[.agg #[.int .i64 X0, .int .i64 Y0, .int .i64 X1, .int .i64 Y1]] w (fun e w' => ∃ sa cap l, e = .returned (.tuple #[.slice sa l.length cap, .int .i64 0]) ∧ Kp (SlS w' sa cap l) ∧ Kp (Cov X0 Y0 X1 Y1 0 0 256 0 [] l) ∧ Below w.heap.size w w') := by
  have e1 : (decide ((X0 : Int) < 0) || decide ((Y0 : Int) < 0) || decide ((X0 : Int) > X1) || decide ((Y0 : Int) > Y1) || decide ((X1 : Int) ≥ 256) || decide ((Y1 : Int) ≥ 256)) = false := by
    simp only [Bool.or_eq_false_iff, decide_eq_false_iff_not]; omega
  have C := Kp.mk (fun w' hB => cover_any X0 Y0 X1 Y1 w.heap.size h1 h2 h3 h4 8 (Nat.le_refl _) 0 0 (by decide) (by decide) 0 0 256 rfl rfl rfl none 0 [] w' hB (World.ownsRow_nil _ _ _ _) (Gap.nil _))
  go_enter Try.func16, Try.ntmps16
  go_wp2_with fail
  refine (C.out _ (by rw [alloc_size]; omega)).mono ?_
  rintro e w' ⟨sa, cap, l, rfl, hO, hc, hg, hn⟩
  have HO := Kp.mk hO
  rw [cod_zero] at hc
  have HC := Kp.mk (show Cov X0 Y0 X1 Y1 0 0 256 0 [] l from hc)
  have HB := Kp.mk ((below_alloc (Nat.le_refl w.heap.size) _).trans (below_of_grown hg (by rw [alloc_size]; omega) (fun k hk => by cases hk)))
  clear hO hc hg hn C
  go_wp2
  go_ret2
  exact ⟨sa, cap, l, rfl, ⟨own_slc HO.out⟩, HC, HB.out⟩

/-- What the law's loop has told of the first k spans. -/
structure Told (l : List (Nat × Nat)) (n : Nat) : Prop where
  le : ∀ k (h : k < l.length), l[k].1 ≤ l[k].2 ∧ l[k].2 < 65536
  gap : ∀ k (h : k + 1 < l.length), l[k].2 + 1 < l[k + 1].1
  sum : ∀ k (h : k < l.length), tot (l.take (k + 1)) = tot (l.take k) + (l[k].2 - l[k].1 + 1)
  inn : ∀ k (h : k < l.length), inn n (l.take (k + 1)) = (inn n (l.take k) || (decide (l[k].1 ≤ n) && decide (n ≤ l[k].2)))
  bd : ∀ k, tot (l.take k) ≤ 65536
theorem tot_take (l : List (Nat × Nat)) (k : Nat) : tot (l.take k) ≤ tot l := by
  induction l generalizing k with
  | nil => simp
  | cons s r ih =>
    cases k with
    | zero => exact Nat.zero_le _
    | succ k => have := ih k; simp only [List.take_succ_cons, tot]; omega
theorem told_of {l : List (Nat × Nat)} {n : Nat} (h : Gap 65536 l) (ht : tot l ≤ 65536) : Told l n := by
  have hp := List.pairwise_iff_getElem.1 h.1
  refine ⟨fun k hk => h.2 _ (List.getElem_mem hk), fun k hk => hp k (k + 1) (by omega) hk (by omega), fun k hk => ?_, fun k hk => ?_, fun k => Nat.le_trans (tot_take l k) ht⟩
  · have := (h.2 _ (List.getElem_mem hk)).1
    rw [List.take_succ_eq_append_getElem hk, tot_append]
    simp only [tot]
    omega
  · rw [List.take_succ_eq_append_getElem hk, inn_append]
    simp [Go.Proofs.Ytnieacfleabikaa.inn]

set_option maxRecDepth 100000 in
set_option maxHeartbeats 1000000 in
theorem walk_CoverJust (a0 : Int) (a1 : Int) (a2 : Int) (a3 : Int) (a4 : Int) (a5 : Int) (w : World) (w0 : (Lit.int .i64 a0).wf = true) (w1 : (Lit.int .i64 a1).wf = true) (w2 : (Lit.int .i64 a2).wf = true) (w3 : (Lit.int .i64 a3).wf = true) (w4 : (Lit.int .i64 a4).wf = true) (w5 : (Lit.int .i64 a5).wf = true) :
    Calls Try.prog 3 #[.int .i64 a0, .int .i64 a1, .int .i64 a2, .int .i64 a3, .int .i64 a4, .int .i64 a5] w fun e w' => e = .returned (.bool true) ∧ Below w.heap.size w w' := by
  obtain ⟨d1, d2⟩ := wf_bd w4
  obtain ⟨e1, e2⟩ := wf_bd w5
  obtain ⟨p, hp, pl⟩ := pick_nat a4 256 (by omega)
  obtain ⟨q, hq, ql⟩ := pick_nat a5 256 (by omega)
  have R := Kp.mk (fun w => rectOf_any a0 a1 a2 a3 256 w (by omega) (by omega) w0 w1 w2 w3)
  have HP := Kp.mk hp
  have HQ := Kp.mk hq
  clear w0 w1 w2 w3 w4 w5 hp hq
  go_enter Try.func3, Try.ntmps3
  go_wp2_with fail
  refine (R.out _).mono ?_
  rintro e wr ⟨X0, Y0, X1, Y1, x1, x2, y1, y2, rfl, hb⟩
  go_wp2_with fail
  have HBX := Kp.mk (Box.new wr #[.int .i64 X0, .int .i64 Y0, .int .i64 X1, .int .i64 Y1] 23)
  have HB0 := Kp.mk (hb.trans (below_alloc hb.size (.cells #[.int .i64 X0, .int .i64 Y0, .int .i64 X1, .int .i64 Y1] 23)))
  refine (coverAll_any X0 Y0 X1 Y1 _ x2 y2 x1 y1).mono ?_
  rintro e w2 ⟨sa, cap, l, rfl, HS, HC, hb2⟩
  have HBX2 := Kp.mk (HBX.out.below hb2)
  have HB2 := Kp.mk (below_step HB0.out hb2)
  have c0 : w2.cell? ⟨wr.heap.size, 0, none⟩ = some (.int .i64 X0) := HBX2.out.cell 0 rfl
  have c1 : w2.cell? ⟨wr.heap.size, 1, none⟩ = some (.int .i64 Y0) := HBX2.out.cell 1 rfl
  have c2 : w2.cell? ⟨wr.heap.size, 2, none⟩ = some (.int .i64 X1) := HBX2.out.cell 2 rfl
  have c3 : w2.cell? ⟨wr.heap.size, 3, none⟩ = some (.int .i64 Y1) := HBX2.out.cell 3 rfl
  have ht := HC.out.sum
  rw [show ov X0 X1 0 256 = X1 - X0 + 1 by simp only [ov]; omega, show ov Y0 Y1 0 256 = Y1 - Y0 + 1 by simp only [ov]; omega, show tot [] = 0 from rfl, Nat.zero_add] at ht
  have hm : (X1 - X0 + 1) * (Y1 - Y0 + 1) ≤ 256 * 256 := Nat.mul_le_mul (by omega) (by omega)
  have hm0 : 0 < (X1 - X0 + 1) * (Y1 - Y0 + 1) := Nat.mul_pos (by omega) (by omega)
  have hl0 : 0 < l.length := by
    cases l with
    | nil => simp only [tot] at ht; omega
    | cons s r => simp
  have hll := HC.out.gap.len
  have HTT := Kp.mk ht
  obtain ⟨b, off, rfl, -, -⟩ := HS.out.at 0 hl0
  have HT := Kp.mk (told_of (n := cod p q) HC.out.gap (by rw [ht]; exact hm))
  have hcod := cod_small 8 p q (by omega) (by omega) (by omega)
  have HI := Kp.mk (HC.out.at' p q (by omega) (by omega))
  have e0 : ((l.length : Int) == 0) = false := by simp only [beq_eq_false_iff_ne]; omega
  clear hb hb2 HBX HBX2 HB0 R ht hm0
  go_wp2_with fail
  refine (picked_any a4 256 _ (by omega) (by omega) d1 d2).mono ?_
  rintro e w' ⟨rfl, rfl⟩
  rw [HP.out]
  go_wp2_with fail
  refine (picked_any a5 256 _ (by omega) (by omega) e1 e2).mono ?_
  rintro e w' ⟨rfl, rfl⟩
  rw [HQ.out]
  go_wp2_with fail
  refine (code_any p q _ (by omega) (by omega)).mono ?_
  rintro e w' ⟨rfl, rfl⟩
  generalize hn : cod p q = n at *
  have HN := Kp.mk hn
  clear hn
  go_wp2
  go_loopw [22, 16, 21] (fun i s b wq => ∃ k : Nat, k ≤ l.length ∧ i = .int .i64 k ∧ s = .int .i64 (tot (l.take k)) ∧ b = .bool (inn n (l.take k)) ∧ Kp (Drew w2 wq)) (fun i _ _ _ => l.length - (intOf i).toNat)
  case atStart => exact ⟨0, Nat.zero_le _, rfl, rfl, rfl, ⟨Drew.refl _⟩⟩
  case round =>
    obtain ⟨k, hk, rfl, rfl, rfl, HD⟩ := hrel
    by_cases hlt : k < l.length
    · obtain ⟨nq, rfl⟩ := HD.out
      obtain ⟨b', off', hbo, r1, r2⟩ := HS.out.at k hlt
      simp only [Option.some.injEq, Addr.mk.injEq, and_true] at hbo
      obtain ⟨rfl, rfl⟩ := hbo
      obtain ⟨g1, g2⟩ := HT.out.le k hlt
      have HSU := Kp.mk (HT.out.sum k hlt)
      have HIN := Kp.mk (HT.out.inn k hlt)
      have hbd := HT.out.bd k
      have hbd2 := HT.out.bd (k + 1)
      have hgap : Kp (∀ j, k = j + 1 → ∃ lo hi : Nat, w2.cell? ⟨b, off + j * 2, none⟩ = some (.int .i64 lo) ∧ w2.cell? ⟨b, off + j * 2 + 1, none⟩ = some (.int .i64 hi) ∧ hi + 1 < l[k].1) := by
        refine ⟨fun j hj => ?_⟩
        subst hj
        obtain ⟨b', off', hbo, r1, r2⟩ := HS.out.at j (by omega)
        simp only [Option.some.injEq, Addr.mk.injEq, and_true] at hbo
        obtain ⟨rfl, rfl⟩ := hbo
        exact ⟨_, _, r1, r2, HT.out.gap j hlt⟩
      generalize l[k].1 = lo at *
      generalize l[k].2 = hi at *
      have c1' : decide (hi < lo) = false := decide_eq_false (by omega)
      have c1n : decide ((hi : Int) < lo) = false := decide_eq_false (by omega)
      generalize hT : tot (l.take k) = T at *
      generalize hI : inn n (l.take k) = I at *
      generalize hT2 : tot (l.take (k + 1)) = T2 at *
      generalize hI2 : inn n (l.take (k + 1)) = I2 at *
      have HS1 := Kp.mk hT2
      have HS2 := Kp.mk hI2
      clear hT hI hT2 hI2
      cases k with
      | zero =>
        clear hgap
        rw [Nat.zero_mul, Nat.add_zero] at r1 r2
        rw [show ((0 : Nat) : Int) = 0 from rfl]
        have hnil : ¬ l = [] := by rintro rfl; simp at hl0
        go_wp2
        go_quiet (fail)
        go_wp2
        go_quiet (fail)
        go_wp2
        all_goals
          refine ⟨⟨1, by omega, by first | rfl | go_num, ?_, ?_, ⟨⟨_, rfl⟩⟩⟩, by simp [intOf]; omega⟩
          · rw [HS1.out, HSU.out]; congr 1; omega
          · rw [HS2.out, HIN.out]; congr 1; simp [*]
      | succ j =>
        obtain ⟨lo', hi', r3, r4, hlt2⟩ := hgap.out j rfl
        have c2' : decide ((lo : Int) ≤ (hi' : Int) + 1) = false := decide_eq_false (by omega)
        have c2n : decide (lo ≤ hi' + 1) = false := decide_eq_false (by omega)
        clear hgap
        go_wp2
        go_quiet (fail)
        go_wp2
        go_quiet (fail)
        go_wp2
        all_goals
          refine ⟨⟨j + 1 + 1, by omega, by first | rfl | go_num, ?_, ?_, ⟨⟨_, rfl⟩⟩⟩, by simp [intOf]; omega⟩
          · rw [HS1.out, HSU.out]; congr 1; omega
          · rw [HS2.out, HIN.out]; congr 1; simp [*]
    · obtain ⟨nq, rfl⟩ := HD.out
      have htk : l.take k = l := List.take_of_length_le (by omega)
      rw [htk]
      have hS : ((X1 : Int) - X0 + 1) * ((Y1 : Int) - Y0 + 1) = (tot l : Int) := by
        rw [HTT.out]; push_cast; rw [Int.natCast_sub x1, Int.natCast_sub y1]
      have hSb : tot l ≤ 65536 := by rw [HTT.out]; exact hm
      have hii := Kp.mk HI.out
      generalize tot l = T at *
      generalize inn n l = I at *
      clear htk
      go_wp2
      all_goals
        go_ret
        refine ⟨ret_bool ?_, below_drewN HB2.out _⟩
        rw [hii.out, show inn n [] = false from rfl, Bool.false_or, plc]
        first
          | (rw [Bool.not_eq_true']; exact decide_eq_false (by omega))
          | (rw [beq_iff_eq, Bool.eq_iff_iff]; simp only [decide_eq_true_eq]; omega)

end Go.Proofs.Ytnieacfleabikaa
