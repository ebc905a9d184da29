/- Package fen: sums from the first place on. -/
import Derived.Test.YtdegnnbffehmnaaLib
import Derived.Test.YtdegnnbffehmnaaClone
import Derived.Test.YtdegnnbffehmnaaFenP
import Derived.Test.YtdegnnbffehmnaaBit
namespace Go.Proofs.Ytdegnnbffehmnaa
set_option linter.unusedVariables false
open Go.RowKit

theorem fnear_yes (x : Int) (w : World) (h1 : -1048576 ≤ x) (h2 : x ≤ 1048576) : Calls Try.prog 53 #[.int .i64 x] w fun e w' => e = .returned (.bool true) ∧ w = w' := by
  go_enter Try.func53, Try.ntmps53
  go_wp2
  go_ret
  exact ⟨rfl, rfl⟩
theorem fnot_near (x : Int) (h1 : -1048576 ≤ x) (h2 : x ≤ 1048576) : Tests 52 #[] (fun _ => false) x := by
  intro w
  go_enter Try.func52, Try.ntmps52
  go_wp2_with fail
  refine (fnear_yes x w h1 h2).mono ?_
  rintro e w' ⟨rfl, rfl⟩
  go_wp2
  go_ret
  exact ⟨rfl, rfl⟩
theorem fodd_not (x : Int) (h1 : -1099511627776 ≤ x) (h2 : x ≤ 1099511627776) : Tests 91 #[] (fun _ => false) x := by
  intro w
  have t1 : decide (x < -1099511627776) = false := decide_eq_false (by omega)
  have t2 : decide (1099511627776 < x) = false := decide_eq_false (by omega)
  go_enter Try.func91, Try.ntmps91
  go_wp2
  go_ret
  exact ⟨rfl, rfl⟩
theorem any_false (l : List Int) : l.any (fun _ => false) = false := by simp

theorem fmay_yes (a : Option Addr) (cap n : Nat) (t : List Int) (w : World) (h : SlI w a cap t) (hn : t.length = n) (hl : n ≤ 300) (hb : ∀ x ∈ t, -1099511627776 ≤ x ∧ x ≤ 1099511627776) :
    Calls Try.prog 57 #[.slice a n cap] w fun e w' => e = .returned (.bool true) ∧ w = w' := by
  have C := Kp.mk (contains_any 91 #[] (fun _ => false) (fun _ _ => by kernel_rfl) a cap n t w h hn (by omega) (fun x hx => fodd_not x (hb x hx).1 (hb x hx).2))
  rw [any_false] at C
  clear h hn hb
  go_enter Try.func57, Try.ntmps57
  go_wp2_with fail
  refine C.out.mono ?_
  rintro e w' ⟨rfl, rfl⟩
  go_wp2
  go_ret
  exact ⟨rfl, rfl⟩

/-- A slice of int of the call's own and the code 0. -/
def RetIE (w : World) (n : Nat) (l : List Int) (e : Ending) (w' : World) : Prop := ∃ a cap, e = .returned (.tuple #[.slice a n cap, .int .i64 0]) ∧ w'.ownsRow w.heap.size 3 1 (.slice a n cap) n (ints l) ∧ Below w.heap.size w w'

theorem uN_lt (k n : Nat) (h : k + 1 < 2 ^ n) : uN k < 2 ^ n := by
  unfold uN; exact Nat.or_lt_two_pow (by omega) h
theorem i64_or_up (k : Nat) (h : k < 4611686018427387904) : bits .or .i64 (k : Int) ((k : Int) + 1) = ((uN k : Nat) : Int) := by
  have := i64_or_nat k (k + 1) (by omega) (by omega)
  unfold uN
  push_cast at this
  exact this
theorem i64_and_dn (k : Nat) (h0 : 0 < k) (h : k < 4611686018427387904) : bits .and .i64 (k : Int) ((k : Int) - 1) = ((gN (k - 1) : Nat) : Int) := by
  have := i64_and_nat k (k - 1) (by omega) (by omega)
  unfold gN
  rw [show k - 1 + 1 = k by omega, Nat.and_comm, ← this]
  congr 1; omega

set_option maxHeartbeats 1000000 in
theorem fmake_any (a : Option Addr) (cap n : Nat) (l : List Int) (w : World) (h : SlI w a cap l) (hn : l.length = n) (hl : n ≤ 300) (M : Int) (hM0 : 0 ≤ M) (hM : M ≤ 1048576) (hb : ∀ x ∈ l, -M ≤ x ∧ x ≤ M) :
    Calls Try.prog 23 #[.slice a n cap] w (RetIE w n (treeOf l)) := by
  have C := Kp.mk (contains_any 52 #[] (fun _ => false) (fun _ _ => by kernel_rfl) a cap n l w h hn (by omega) (fun x hx => fnot_near x (by have := (hb x hx).1; omega) (by have := (hb x hx).2; omega)))
  rw [any_false] at C
  have CL := Kp.mk (clone_any a cap n l w h hn (by omega))
  have HN := Kp.mk hn
  have HBD := Kp.mk hb
  clear h hn hb
  go_enter Try.func23, Try.ntmps23
  go_wp2_with fail
  refine C.out.mono ?_
  rintro e w' ⟨rfl, rfl⟩
  go_wp2_with fail
  refine CL.out.mono ?_
  rintro e w1 ⟨sa, sc, rfl, hown, hbel⟩
  have hown' : w1.ownsRow w.heap.size 3 1 (.slice sa n sc) n (ints (mid l 0)) := by rw [mid_zero, ← HN.out]; exact hown
  have HB := Kp.mk hbel
  have HO := Kp.mk hown'
  have hlt := Kp.mk (own_lt hown')
  have hsz : Kp (w.heap.size ≤ w1.heap.size) := ⟨hbel.size⟩
  clear hown hown' hbel C CL
  go_wp2
  go_loopw [16] (fun i wr => ∃ k : Nat, k ≤ n ∧ i = .int .i64 k ∧ wr.ownsRow w.heap.size 3 1 (.slice sa n sc) n (ints (mid l k)) ∧ w1.grownBy wr (blk sa)) (fun i _ => n - (intOf i).toNat)
  case atStart => exact ⟨0, Nat.zero_le _, rfl, HO.out, grown_refl _ _⟩
  case round =>
    obtain ⟨k, hk, rfl, hown, hgr⟩ := hrel
    have HG := Kp.mk hgr
    clear hgr
    by_cases hlt2 : k < n
    · have hkl : k < l.length := by rw [HN.out]; exact hlt2
      have hll : l.length ≤ 300 := by rw [HN.out]; exact hl
      have hor := i64_or_up k (by omega)
      by_cases hu : uN k < n
      · obtain ⟨g, rfl, _, _⟩ := own_some hown (by omega)
        have hul : uN k < l.length := by rw [HN.out]; exact hu
        have c1 := hown.cellAt k (by omega)
        have c2 := hown.cellAt (uN k) (by omega)
        have f2 := hown.frozenAt (uN k)
        have hk1 : k < (mid l k).length := by rw [mid_length]; exact hkl
        have hk2 : uN k < (mid l k).length := by rw [mid_length]; exact hul
        have hst := Kp.mk (mid_step l k hkl hll hul)
        have hne := Nat.ne_of_gt (uN_gt k (by omega))
        rw [List.getElem?_eq_getElem (by rw [ints_length]; exact hk1), ints_get] at c1
        rw [List.getElem?_eq_getElem (by rw [ints_length]; exact hk2), ints_get] at c2
        have h2 := (hown.stored (uN k) (.int .i64 ((mid l k)[uN k] + (mid l k)[k]))).1
        rw [ints_set, ← hst.out] at h2
        have hb1 := fenF_bd l M hM0 HBD.out hll k hkl
        rw [← mid_self l k hkl hll] at hb1
        have hb2 : -(M * 301) ≤ (mid l k)[uN k] ∧ (mid l k)[uN k] ≤ M * 301 := by
          have g1 := gN_le k (by omega)
          have g2 := gN_uN k (by omega)
          have g3 := uN_gt k (by omega)
          have h1 := pre_bd l M HBD.out (gN k) (by omega) (gN (uN k)) g2
          have h2 : M * ((gN k - gN (uN k) : Nat) : Int) ≤ M * 300 := Int.mul_le_mul_of_nonneg_left (by omega) hM0
          have h3 := HBD.out _ (List.getElem_mem hul)
          rw [mid_get, cN_at (uN k) k (by omega) g3 rfl, getD_at _ _ hul]
          omega
        have H2 := Kp.mk h2
        clear h2 hown hst
        generalize (mid l k)[uN k] = x at *
        generalize (mid l k)[k] = y at *
        generalize uN k = u at *
        clear hk1 hk2
        go_wp2
        go_region
        go_wp2
        go_roundw
        case rel => exact ⟨k + 1, by omega, by go_num, H2.out.drew, grown_drew (grown_trans HG.out (grown_set _ _ _ _))⟩
        case measure => simp [intOf]; omega
      · have h2 := hown
        rw [← mid_keep l k hkl (by rw [HN.out]; omega)] at h2
        have H2 := Kp.mk h2
        clear h2 hown
        generalize uN k = u at *
        go_wp2
        go_roundw
        case rel => exact ⟨k + 1, by omega, by go_num, H2.out, HG.out⟩
        case measure => simp [intOf]; omega
    · obtain rfl : k = n := by omega
      have HO2 := Kp.mk hown
      clear hown
      go_wp2
      go_ret2
      refine ⟨sa, sc, rfl, ?_, ?_⟩
      · have h3 := HO2.out
        rw [show mid l k = mid l l.length by rw [HN.out], mid_end l (by rw [HN.out]; exact hl)] at h3
        exact h3
      · exact HB.out.trans (below_of_grown HG.out hsz.out (fun k e => (hlt.out k e).1))

set_option maxHeartbeats 1000000 in
theorem fadd_any (a : Option Addr) (cap n p : Nat) (b : Int) (t : List Int) (w : World) (h : SlI w a cap t) (hn : t.length = n) (hl : n ≤ 300) (hp : p < n) (hb1 : -1048576 ≤ b) (hb2 : b ≤ 1048576)
    (ht : ∀ x ∈ t, -1000000000000 ≤ x ∧ x ≤ 1000000000000) (ho : ∀ x ∈ addT t p b 300, -1000000000000 ≤ x ∧ x ≤ 1000000000000) :
    Calls Try.prog 26 #[.slice a n cap, .int .i64 p, .int .i64 b] w (RetIE w n (addT t p b 300)) := by
  have CM := Kp.mk (fmay_yes a cap n t w h hn hl (fun x hx => by have := ht x hx; omega))
  have CN := Kp.mk (fnear_yes b w hb1 hb2)
  have CL := Kp.mk (clone_any a cap n t w h hn (by omega))
  have HN := Kp.mk hn
  have HT := Kp.mk ht
  have HOU := Kp.mk ho
  clear h hn ht ho
  go_enter Try.func26, Try.ntmps26
  go_wp2_with fail
  refine CM.out.mono ?_
  rintro e w' ⟨rfl, rfl⟩
  go_wp2_with fail
  refine CN.out.mono ?_
  rintro e w' ⟨rfl, rfl⟩
  go_wp2_with fail
  refine CL.out.mono ?_
  rintro e w1 ⟨sa, sc, rfl, hown, hbel⟩
  have hown' : w1.ownsRow w.heap.size 3 1 (.slice sa n sc) n (ints (addT t p b p)) := by rw [addT_start, ← HN.out]; exact hown
  have HB := Kp.mk hbel
  have HO := Kp.mk hown'
  have hlt := Kp.mk (own_lt hown')
  have hsz : Kp (w.heap.size ≤ w1.heap.size) := ⟨hbel.size⟩
  have hg := gN_le p (by omega)
  clear hown hown' hbel CM CN CL
  go_wp2
  go_loopw [1] (fun i wr => ∃ k : Nat, gN (min k p) ≤ p ∧ p ≤ k ∧ (k < n → gN k ≤ p) ∧ k < 1024 ∧ i = .int .i64 k ∧ wr.ownsRow w.heap.size 3 1 (.slice sa n sc) n (ints (addT t p b k)) ∧ w1.grownBy wr (blk sa)) (fun i _ => 1024 - (intOf i).toNat)
  case atStart => exact ⟨p, by rw [Nat.min_self]; exact hg, Nat.le_refl _, fun _ => hg, by omega, rfl, HO.out, grown_refl _ _⟩
  case round =>
    obtain ⟨k, _, hpk, hgk, hk, rfl, hown, hgr⟩ := hrel
    have HG := Kp.mk hgr
    clear hgr
    by_cases hlt2 : k < n
    · have hkl : k < t.length := by rw [HN.out]; exact hlt2
      have hll : t.length ≤ 300 := by rw [HN.out]; exact hl
      have hor := i64_or_up k (by omega)
      have hgk := hgk hlt2
      obtain ⟨g, rfl, _, _⟩ := own_some hown (by omega)
      have c1 := hown.cellAt k (by omega)
      have f1 := hown.frozenAt k
      have hk1 : k < (addT t p b k).length := by rw [addT_length]; exact hkl
      have hst := Kp.mk (addT_step t p k b hkl hll hgk hpk)
      have hgu := gN_uN k (by omega)
      have hut := uN_gt k (by omega)
      have huu := uN_lt k 10 (by omega)
      rw [List.getElem?_eq_getElem (by rw [ints_length]; exact hk1), ints_get] at c1
      have h2 := (hown.stored k (.int .i64 ((addT t p b k)[k] + b))).1
      rw [ints_set, ← hst.out] at h2
      have hx : (addT t p b k)[k] = t[k] := by rw [addT_get, if_neg (by omega), getD_at _ _ hkl]; omega
      have hxb := HT.out _ (List.getElem_mem hkl)
      rw [← hx] at hxb
      clear hx
      have H2 := Kp.mk h2
      clear h2 hown hst
      generalize (addT t p b k)[k] = x at *
      have hgup : gN (uN k) ≤ p := by omega
      have HGU := Kp.mk hgup
      clear hgup hgu
      generalize uN k = u at *
      clear hk1
      go_wp2
      go_roundw
      case rel => exact ⟨u, by rw [Nat.min_eq_right (by omega)]; exact hg, by omega, fun _ => HGU.out, by omega, rfl, H2.out, grown_trans HG.out (grown_set _ _ _ _)⟩
      case measure => simp [intOf]; omega
    · have hend : addT t p b k = addT t p b 300 := by
        rcases addT_end t p b k (by rw [HN.out]; omega) with h | h
        · exact h
        · rw [HN.out] at h; omega
      rw [hend] at hown
      have hS := own_slc hown
      have CM := Kp.mk (fmay_yes sa sc n (addT t p b 300) wr (by unfold SlI; rw [addT_length, HN.out]; exact hS) (by rw [addT_length]; exact HN.out) hl (fun x hx => by have := HOU.out x hx; omega))
      have HO2 := Kp.mk hown
      clear hown hend hS
      go_wp2_with fail
      refine CM.out.mono ?_
      rintro e w' ⟨rfl, rfl⟩
      go_wp2
      go_ret2
      exact ⟨sa, sc, rfl, HO2.out, HB.out.trans (below_of_grown HG.out hsz.out (fun k e => (hlt.out k e).1))⟩

set_option maxHeartbeats 400000 in
/-- The sum, read off the table of l. -/
theorem fsum_in (a : Option Addr) (cap n i : Nat) (l : List Int) (w : World) (h : SlI w a cap (treeOf l)) (hn : l.length = n) (hl : n ≤ 300) (hi : i ≤ n) (M : Int) (hM0 : 0 ≤ M) (hM : M ≤ 1048576) (hb : ∀ x ∈ l, -M ≤ x ∧ x ≤ M) :
    Calls Try.prog 58 #[.slice a n cap, .int .i64 i] w fun e w' => e = .returned (.int .i64 (pre l i)) ∧ w = w' := by
  have H := Kp.mk h
  have HN := Kp.mk hn
  have HBD := Kp.mk hb
  clear h hn hb
  have hP : ∀ k, k ≤ n → -(M * 300) ≤ pre l k ∧ pre l k ≤ M * 300 := fun k hk => by
    have h1 := pre_bd l M HBD.out k (by rw [HN.out]; exact hk) 0 (by omega)
    have h2 : M * ((k - 0 : Nat) : Int) ≤ M * 300 := Int.mul_le_mul_of_nonneg_left (by omega) hM0
    rw [pre_zero] at h1
    omega
  have HP := Kp.mk hP
  have hpi := hP i hi
  clear hP
  go_enter Try.func58, Try.ntmps58
  go_wp2
  go_loop [1, 5] (fun v s => ∃ (k : Nat), k ≤ n ∧ v = .int .i64 k ∧ s = .int .i64 (pre l i - pre l k)) (fun v _ => (intOf v).toNat)
  case atStart => exact ⟨i, hi, rfl, by rw [Int.sub_self]⟩
  case round =>
    obtain ⟨k, hk, rfl, rfl⟩ := hrel
    by_cases h0 : 0 < k
    · have hkl : k - 1 < (treeOf l).length := by rw [treeOf_length, HN.out]; omega
      obtain ⟨b, off, rfl, c1⟩ := H.out.at (k - 1) hkl
      rw [treeOf_get] at c1
      have hst := sum_step l k h0
      have hdn := i64_and_dn k h0 (by omega)
      have hgl := gN_le (k - 1) (by omega)
      have hpk := HP.out k hk
      have hpg := HP.out (gN (k - 1)) (by omega)
      have hx : fenF l (k - 1) = pre l k - pre l (gN (k - 1)) := by omega
      rw [hx] at c1
      clear hx hst
      generalize gN (k - 1) = g at *
      have HPI := Kp.mk (show pre l i - pre l k + (pre l k - pre l g) = pre l i - pre l g by omega)
      generalize hpge : pre l g = pg at *
      have HPG := Kp.mk hpge
      clear hpge
      generalize pre l k = pk at *
      generalize hpie : pre l i = pi at *
      have HPIE := Kp.mk hpie
      clear hpie hkl
      go_wp2
      go_round
      case rel => exact ⟨g, by omega, rfl, by rw [HPG.out, HPI.out]⟩
      case measure => simp [intOf]; omega
    · obtain rfl : k = 0 := by omega
      go_wp2
      go_ret
      exact ⟨ret_int (by rw [pre_zero, Int.sub_zero]), rfl⟩

theorem fsum_any (a : Option Addr) (cap n i : Nat) (l : List Int) (w : World) (h : SlI w a cap (treeOf l)) (hn : l.length = n) (hl : n ≤ 300) (hi : i ≤ n) (M : Int) (hM0 : 0 ≤ M) (hM : M ≤ 1048576) (hb : ∀ x ∈ l, -M ≤ x ∧ x ≤ M) :
    Calls Try.prog 25 #[.slice a n cap, .int .i64 i] w fun e w' => e = .returned (.tuple #[.int .i64 (pre l i), .int .i64 0]) ∧ w = w' := by
  have CS := Kp.mk (fsum_in a cap n i l w h hn hl hi M hM0 hM hb)
  have CM := Kp.mk (fmay_yes a cap n (treeOf l) w h (by rw [treeOf_length]; exact hn) hl (fun x hx => by have := tree_bd l M hM0 hb (by omega) x hx; omega))
  clear h hn hb
  go_enter Try.func25, Try.ntmps25
  go_wp2_with fail
  refine CM.out.mono ?_
  rintro e w' ⟨rfl, rfl⟩
  go_wp2_with fail
  refine CS.out.mono ?_
  rintro e w' ⟨rfl, rfl⟩
  go_wp2
  go_ret2
  exact ⟨rfl, rfl⟩

end Go.Proofs.Ytdegnnbffehmnaa
