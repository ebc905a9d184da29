/- Package pack: numbers of so many bits, asked and read. -/
import Derived.Test.YtjicgndahpffbaaPackM
namespace Go.Proofs.Ytjicgndahpffbaa
set_option linter.unusedVariables false
open Go.RowKit

theorem mask_low (y wd : Nat) (hy : y < 18446744073709551616) (hw : wd ≤ 62) : wrap64 (bits .and .u64 (y : Int) (IntKind.u64.wrap (IntKind.u64.wrap (2 ^ wd) - 1))) = ((y % 2 ^ wd : Nat) : Int) := by
  have h1 : 2 ^ wd ≤ 2 ^ 62 := Nat.pow_le_pow_right (by omega) hw
  have h0 : 0 < 2 ^ wd := Nat.pow_pos (by omega)
  have e : (2 : Int) ^ wd = ((2 ^ wd : Nat) : Int) := by push_cast; rfl
  have h2 : IntKind.u64.wrap (IntKind.u64.wrap (2 ^ wd) - 1) = ((2 ^ wd - 1 : Nat) : Int) := by
    rw [e]
    generalize 2 ^ wd = z at *
    rw [IntWalk.u64_in z (by omega), IntWalk.u64_in _ (by omega)]
    omega
  rw [h2, u64_and_nat _ _ hy (by omega), Nat.and_two_pow_sub_one_eq_mod]
  have h3 : y % 2 ^ wd < 2 ^ wd := Nat.mod_lt _ h0
  exact IntWalk.wrap64_in _ (by omega)

set_option maxHeartbeats 1000000 in
theorem get_any (g m cap N at' wd : Nat) (w : World) (hC : ∀ j, j < m → w.cell? ⟨g, j, none⟩ = some (.int .u64 (wrd N j))) (hw : wd ≤ 62) (hm : m ≤ 1000) (hfit : at' + wd ≤ 64 * m) :
    Calls Try.prog 141 #[.slice (some ⟨g, 0, none⟩) m cap, .int .i64 at', .int .i64 wd] w (fun e w' => e = .returned (.int .i64 (N / 2 ^ at' % 2 ^ wd : Nat)) ∧ w' = w) := by
  by_cases hw0 : wd = 0
  · subst hw0
    rw [Nat.pow_zero, Nat.mod_one]
    clear hC hfit
    go_enter Try.func141, Try.ntmps141
    go_wp2
    go_ret
    exact ⟨rfl, rfl⟩
  · have hg := Kp.mk (get_word N at' wd hw)
    obtain ⟨q, hq⟩ : ∃ q, q = at' / 64 := ⟨_, rfl⟩
    obtain ⟨r, hr⟩ : ∃ r, r = at' % 64 := ⟨_, rfl⟩
    have hqm : q < m := by omega
    have hr64 : r < 64 := by omega
    have c1 := hC q hqm
    have hq' : (at' : Int) / 64 = (q : Int) := by omega
    have hr' : (at' : Int) % 64 = (r : Int) := by omega
    have hne : ((wd : Int) == 0) = false := beq_eq_false_iff_ne.2 (by omega)
    have hx : wrd N q < 18446744073709551616 := wrd_lt N q
    have hatm : at' < 64 * m := by omega
    by_cases hu : r + wd > 64
    · have hq1 : q + 1 < m := by omega
      have c2 := hC (q + 1) hq1
      have HQ := Kp.mk hq
      have HR := Kp.mk hr
      clear hC hfit hq hr
      go_enter Try.func141, Try.ntmps141
      go_wp2
      go_ret
      refine ⟨?_, rfl⟩
      have e : (wrd N q : Int) / 2 ^ r = ((wrd N q / 2 ^ r : Nat) : Int) := by push_cast; rfl
      rw [hg.out, ← HQ.out, ← HR.out, if_pos hu, e, wrap_shl, u64_or_nat _ _ (Nat.lt_of_le_of_lt (Nat.div_le_self _ _) hx) (Nat.mod_lt _ (by decide)), mask_low _ _ (Nat.or_lt_two_pow (n := 64) (Nat.lt_of_le_of_lt (Nat.div_le_self _ _) hx) (Nat.mod_lt _ (by decide))) hw]
      rfl
    · have HQ := Kp.mk hq
      have HR := Kp.mk hr
      clear hC hfit hq hr
      go_enter Try.func141, Try.ntmps141
      go_wp2
      go_ret
      refine ⟨?_, rfl⟩
      have e : (wrd N q : Int) / 2 ^ r = ((wrd N q / 2 ^ r : Nat) : Int) := by push_cast; rfl
      rw [hg.out, ← HQ.out, ← HR.out, if_neg hu, e, mask_low _ _ (Nat.lt_of_le_of_lt (Nat.div_le_self _ _) hx) hw]
      rfl

theorem last_word (N n wd : Nat) (hN : N < 2 ^ (n * wd)) (hr : n * wd % 64 ≠ 0) : wrd N (wordsN n wd - 1) / 2 ^ (n * wd % 64) = 0 := by
  have e : n * wd = 64 * (wordsN n wd - 1) + n * wd % 64 := by unfold wordsN; omega
  apply Nat.div_eq_of_lt
  unfold wrd
  refine Nat.lt_of_le_of_lt (Nat.mod_le _ _) ?_
  rw [Nat.div_lt_iff_lt_mul (Nat.pow_pos (by omega)), ← Nat.pow_add, Nat.add_comm, ← e]
  exact hN

set_option maxHeartbeats 1000000 in
theorem may_ok (sa : Option Addr) (n wd m cap N : Nat) (w : World) (hm : m = wordsN n wd) (hS : SlC w sa m cap 1 (wds (wordsOf N m))) (hn : n ≤ 300) (hw : wd ≤ 62) (hN : N < 2 ^ (n * wd)) :
    Calls Try.prog 122 #[.agg #[.int .i64 n, .int .i64 wd, .slice sa m cap]] w (fun e w' => e = .returned (.bool true) ∧ Below w.heap.size w w') := by
  have HS := Kp.mk hS
  have HN := Kp.mk hN
  have HM := Kp.mk hm
  clear hS hN hm
  go_enter Try.func122, Try.ntmps122
  go_wp2
  obtain ⟨W, hW⟩ : ∃ W, W = w.alloc (Obj.cells #[Value.int IntKind.i64 ↑n, Value.int IntKind.i64 ↑wd, Value.slice sa m cap] 40) := ⟨_, rfl⟩
  rw [← hW]
  have hbW : Below w.heap.size w W := by rw [hW]; exact below_alloc (Nat.le_refl _) _
  have h6 : W.heap[w.heap.size]? = some (Obj.cells #[Value.int IntKind.i64 ↑n, Value.int IntKind.i64 ↑wd, Value.slice sa m cap] 40) := by rw [hW]; exact heap_alloc_new _ _
  obtain ⟨⟨d0, d1, d2⟩, -⟩ := box3 h6
  have HW := Kp.mk hbW
  clear hW hbW h6
  have t1 : decide ((n : Int) < 0) = false := decide_eq_false (by omega)
  have t2 : decide ((300 : Int) < (n : Int)) = false := decide_eq_false (by omega)
  have t3 : decide ((wd : Int) < 0) = false := decide_eq_false (by omega)
  have t4 : decide ((62 : Int) < (wd : Int)) = false := decide_eq_false (by omega)
  have c1 : ∀ W', Calls Try.prog 90 #[.int .i64 n, .int .i64 wd] W' (fun e w' => e = .returned (.int .i64 (wordsN n wd : Nat)) ∧ w' = W') := fun W' => words_any n wd W' (by omega) hw
  rw [← HM.out] at c1
  have C1 := Kp.mk c1
  clear c1
  go_quiet ((go_at_call 90; exact (C1.out _).mono fun _ _ h => ⟨h.1, _, h.2⟩))
  have hp : n * wd ≤ 300 * 62 := Nat.mul_le_mul hn hw
  have hp2 : IntKind.i64.wrap ((n : Int) * wd) = ((n * wd : Nat) : Int) := by
    have : (n : Int) * wd = ((n * wd : Nat) : Int) := by push_cast; rfl
    rw [this]; exact IntWalk.i64_in _ (by omega)
  obtain ⟨r, hr⟩ : ∃ r, r = n * wd % 64 := ⟨_, rfl⟩
  have hr2 : ((n * wd : Nat) : Int) % 64 = (r : Int) := by omega
  have HL := Kp.mk (last_word N n wd HN.out)
  rw [← hr, ← HM.out] at HL
  by_cases h0 : r = 0
  · have hb : ((r : Int) == 0) = true := beq_iff_eq.2 (by omega)
    generalize n * wd = p at *
    clear hr
    go_wp2
    go_ret
    exact ⟨rfl, HW.out.trans (drewN_below _)⟩
  · have hb : ((r : Int) == 0) = false := beq_eq_false_iff_ne.2 (by omega)
    have hm0 : 0 < m := by rw [HM.out]; unfold wordsN; omega
    obtain ⟨b, off, rfl, c1⟩ := SlC.cell (HS.out.below HW.out) (m - 1) (by rw [wds_length, wordsOf_length]; omega)
    have e1 : (wds (wordsOf N m))[m - 1]'(by rw [wds_length, wordsOf_length]; omega) = .int .u64 (wrd N (m - 1)) := by simp [wds, wordsOf]
    rw [e1] at c1
    have e2 : ((wrd N (m - 1) : Nat) : Int) / 2 ^ r = 0 := by
      have : ((wrd N (m - 1) : Nat) : Int) / 2 ^ r = ((wrd N (m - 1) / 2 ^ r : Nat) : Int) := by push_cast; rfl
      rw [this, HL.out (by omega)]; rfl
    generalize hx : wrd N (m - 1) = x at *
    have hm1 : m ≤ 300 := by
      have h1 := HM.out
      unfold wordsN at h1; omega
    generalize n * wd = p at *
    have hr64 : r < 64 := by omega
    clear hr e1 HL
    go_wp2
    go_ret
    exact ⟨rfl, HW.out.trans (drewN_below _)⟩

theorem get_zero (v : Value) (at' : Int) (w : World) : Calls Try.prog 141 #[v, .int .i64 at', .int .i64 0] w (fun e w' => e = .returned (.int .i64 0) ∧ w' = w) := by
  go_enter Try.func141, Try.ntmps141
  go_wp2
  go_ret
  exact ⟨rfl, rfl⟩

theorem get_row (B g : Nat) (sa : Option Addr) (m cap n i wd : Nat) (L : List Nat) (w : World) (hm : m = wordsN n wd) (hO : w.ownsRow B 154 1 (.slice sa m cap) m (wds (wordsOf (packN wd L n) m))) (hn : n ≤ 300) (hw : wd ≤ 62) (hi : i < n) (hx : ∀ i, i < n → L.getD i 0 < 2 ^ wd) :
    Calls Try.prog 141 #[.slice sa m cap, .int .i64 (i * wd : Nat), .int .i64 wd] w (fun e w' => e = .returned (.int .i64 (L.getD i 0 : Nat)) ∧ w' = w) := by
  by_cases h0 : wd = 0
  · subst h0
    have h1 := hx i hi
    rw [Nat.pow_zero] at h1
    rw [show L.getD i 0 = 0 by omega]
    exact get_zero _ _ w
  · have h1 : (i + 1) * wd ≤ n * wd := Nat.mul_le_mul_right _ hi
    have h2 : n * wd ≤ 300 * 62 := Nat.mul_le_mul hn hw
    rw [Nat.add_mul, Nat.one_mul] at h1
    have hm2 : n * wd ≤ 64 * m := by rw [hm]; unfold wordsN; omega
    have hm3 : m ≤ 1000 := by rw [hm]; unfold wordsN; omega
    obtain ⟨g, rfl, _, _⟩ := own_some hO (by omega)
    rw [← packN_at wd L n i hx hi]
    exact get_any g m cap _ (i * wd) wd w (fun j hj => wds_cell hO hj) hw hm3 (by omega)

set_option maxHeartbeats 1000000 in
theorem pat_ok (B : Nat) (sa : Option Addr) (m cap n i wd : Nat) (L : List Nat) (w : World) (hm : m = wordsN n wd) (hO : w.ownsRow B 154 1 (.slice sa m cap) m (wds (wordsOf (packN wd L n) m))) (hn : n ≤ 300) (hw : wd ≤ 62) (hi : i < n) (hx : ∀ i, i < n → L.getD i 0 < 2 ^ wd) :
    Calls Try.prog 124 #[.agg #[.int .i64 n, .int .i64 wd, .slice sa m cap], .int .i64 i] w (fun e w' => e = .returned (.tuple #[.int .i64 (L.getD i 0 : Nat), .int .i64 0]) ∧ Below w.heap.size w w') := by
  have HM := Kp.mk hm
  have HO := Kp.mk hO
  have HX := Kp.mk hx
  clear hm hO hx
  go_enter Try.func124, Try.ntmps124
  go_wp2_with fail
  refine (may_ok sa n wd m cap _ _ HM.out ((own_slc HO.out).below (below_alloc (Nat.le_refl _) _)) hn hw (packN_lt wd L n HX.out)).mono ?_
  rintro e w1 ⟨rfl, hbel⟩
  have h4 : w1.heap[w.heap.size]? = some (Obj.cells #[Value.int IntKind.i64 ↑n, Value.int IntKind.i64 ↑wd, Value.slice sa m cap] 40) := by
    rw [hbel.block _ (Nat.lt_of_lt_of_eq (Nat.lt_succ_self _) (Array.size_push _).symm)]; exact heap_alloc_new _ _
  obtain ⟨⟨d0, d1, d2⟩, -⟩ := box3 h4
  have hB : Kp (Below w.heap.size w w1) := ⟨(below_alloc (Nat.le_refl _) _).trans (hbel.mono (by simp))⟩
  have hp : i * wd ≤ 300 * 62 := Nat.mul_le_mul (by omega) hw
  have hp2 : IntKind.i64.wrap ((i : Int) * wd) = ((i * wd : Nat) : Int) := by
    have : (i : Int) * wd = ((i * wd : Nat) : Int) := by push_cast; rfl
    rw [this]; exact IntWalk.i64_in _ (by omega)
  have C := Kp.mk (get_row B 0 sa m cap n i wd L w1 HM.out (own_below HO.out hB.out) hn hw hi HX.out)
  have t1 : decide ((i : Int) < 0) = false := decide_eq_false (by omega)
  have t2 : decide ((i : Int) < n) = true := decide_eq_true (by omega)
  generalize i * wd = p at *
  clear hbel h4
  go_wp2_with fail
  refine C.out.mono ?_
  rintro e w' ⟨rfl, rfl⟩
  go_wp2
  go_ret2
  exact ⟨rfl, hB.out⟩

end Go.Proofs.Ytjicgndahpffbaa
