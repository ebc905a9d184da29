/- Package gam: the code of a number. -/
import Derived.Test.YtjofajpcchncpaaGamP
import Derived.Test.YtjofajpcchncpaaBit
namespace Go.Proofs.Ytjofajpcchncpaa
set_option linter.unusedVariables false
open Go.RowKit

theorem and_one (n r y : Nat) (hn : n < 4611686018427387904) (h : n / 2 ^ r % 2 = y) : bits .and .i64 ((n : Int) / 2 ^ r) 1 = (y : Int) := by
  have e : (n : Int) / 2 ^ r = ((n / 2 ^ r : Nat) : Int) := by push_cast; rfl
  have hd : n / 2 ^ r ≤ n := Nat.div_le_self _ _
  have := i64_and_nat (n / 2 ^ r) 1 (by omega) (by decide)
  rw [e, show (1 : Int) = ((1 : Nat) : Int) from rfl, this, Nat.and_one_is_mod, h]

set_option maxHeartbeats 1000000 in
theorem gcode_gam (n : Nat) (w : World) (h1 : 0 < n) (h2 : n ≤ 1048576) :
    Calls Try.prog 51 #[.int .i64 1, .int .i64 n] w (RetBo w (gamL n)) := by
  have hbl := Lib.bitLen_le n 21 (by omega) (by omega)
  have hbp := bitLen_pos n h1 (by omega)
  have C := Kp.mk (len_any n (by omega))
  have hgl : gamL n = List.replicate (Lib.bitLen n - 1) false ++ binP n (Lib.bitLen n) (Lib.bitLen n) := by unfold gamL; rfl
  obtain ⟨m, hm⟩ : ∃ m, Lib.bitLen n = m + 1 := ⟨Lib.bitLen n - 1, by omega⟩
  rw [hm] at C hbl hgl
  rw [Nat.add_sub_cancel] at hgl
  have HG := Kp.mk hgl
  clear hgl hm hbp
  go_enter Try.func51, Try.ntmps51
  go_wp2_with fail
  refine (C.out _).mono ?_
  rintro e w' ⟨rfl, rfl⟩
  go_wp2_with (at_make; refine wpList_mk1 tBools rfl rfl _ _ rfl w.heap.size m rfl rfl ?c1 (by decide) (Nat.le_refl _) ?c3)
  case c1 => omega
  case c3 =>
    intro sa cap w2 hown hbel
    rw [show List.replicate m (Value.bool false) = bls (List.replicate m false) by simp [bls]] at hown
    clear C
    go_wp2
    have HO := Kp.mk hown
    have HB := Kp.mk hbel
    have hsz : Kp (w.heap.size ≤ w2.heap.size) := ⟨hbel.size⟩
    clear hown hbel
    go_loopw [6, 7] (fun v i wr => ∃ (j : Nat) (sa : Option Addr) (sc : Nat), j ≤ m + 1 ∧ i = .int .i64 ((m + 1 : Nat) - 1 - (j : Nat) : Int) ∧ v = .slice sa (m + j) sc ∧ wr.ownsRow w.heap.size 4 1 (.slice sa (m + j) sc) (m + j) (bls (List.replicate m false ++ binP n (m + 1) j)) ∧ Below w.heap.size w2 wr) (fun _ i _ => (intOf i + 1).toNat)
    case atStart => exact ⟨0, sa, cap, Nat.zero_le _, by go_num, rfl, by rw [binP_zero, List.append_nil]; exact HO.out, Below.refl _ _⟩
    case round =>
      obtain ⟨j, sb, sc, hj, rfl, rfl, hown, hbl2⟩ := hrel
      have HOJ := Kp.mk hown
      have HBJ := Kp.mk hbl2
      have hsw : Kp (w.heap.size ≤ wr.heap.size) := ⟨Nat.le_trans hsz.out hbl2.size⟩
      clear hown hbl2
      by_cases hlt : j < m + 1
      · obtain ⟨r, hr⟩ : ∃ r : Nat, r = m + 1 - 1 - j := ⟨_, rfl⟩
        have hr' : ((m + 1 : Nat) - 1 - (j : Nat) : Int) = (r : Int) := by omega
        have hsu := Kp.mk (binP_succ n (m + 1) j)
        rw [← hr] at hsu
        rw [hr']
        obtain ⟨y, hy⟩ : ∃ y, n / 2 ^ r % 2 = y := ⟨_, rfl⟩
        have ha := and_one n r y (by omega) hy
        have hb := bitB_eq n r y hy
        have hr21 : r ≤ 21 := by omega
        have hrj : r + j + 1 = m + 1 := by omega
        have HRJ := Kp.mk hrj
        clear hr hr' hy hrj
        generalize ht : bitB n r = t at *
        have HT := Kp.mk ht
        clear ht
        go_wp2_with (at_builtin; refine wpList_push tBools rfl _ _ rfl (w.heap.size) _ _ _ _ rfl HOJ.out 1 1 _ rfl rfl ?c1 (by decide) ?c2 (by decide) hsw.out ?c4)
        case c1 => simp [Value.oneCell']
        case c2 => omega
        case c4 =>
          intro se ce we hownE hbelE
          have HE := Kp.mk hownE
          have HEB := Kp.mk (HBJ.out.trans hbelE)
          clear hownE hbelE hb ha HOJ HBJ
          go_wp2
          go_roundw
          case rel =>
            refine ⟨j + 1, se, ce, by omega, ?_, rfl, ?_, HEB.out⟩
            · have := HRJ.out
              congr 1; push_cast; omega
            · have h9 := HE.out
              rw [hsu.out, ← List.append_assoc, bls_append]
              simpa [bls, Nat.add_assoc] using h9
          case measure => simp [intOf]
      · obtain rfl : j = m + 1 := by omega
        have e1 : (((m + 1 : Nat) : Int) - 1 - ((m + 1 : Nat) : Int)) = -1 := by omega
        rw [e1]
        clear e1
        go_wp2
        go_ret
        have hlen := HOJ.out.1
        refine ⟨sb, sc, ?_, ?_, HB.out.trans HBJ.out⟩
        · rw [HG.out]; simp [binP_length]
        · rw [HG.out]
          unfold OwnBo
          have h9 := HOJ.out
          simpa [binP_length] using h9

set_option maxHeartbeats 1000000 in
theorem gcode_del (n : Nat) (w : World) (h1 : 0 < n) (h2 : n ≤ 1048576) :
    Calls Try.prog 51 #[.int .i64 2, .int .i64 n] w (RetBo w (delL n)) := by
  have hbl := Lib.bitLen_le n 21 (by omega) (by omega)
  have hbp := bitLen_pos n h1 (by omega)
  have C := Kp.mk (len_any n (by omega))
  have hgl : delL n = gamL (Lib.bitLen n) ++ binP n (Lib.bitLen n - 1) (Lib.bitLen n - 1) := by unfold delL; rfl
  obtain ⟨m, hm⟩ : ∃ m, Lib.bitLen n = m + 1 := ⟨Lib.bitLen n - 1, by omega⟩
  rw [hm] at C hbl hgl
  rw [Nat.add_sub_cancel] at hgl
  have HG := Kp.mk hgl
  have C2 := Kp.mk (fun W => gcode_gam (m + 1) W (by omega) (by omega))
  clear hgl hm hbp
  go_enter Try.func51, Try.ntmps51
  go_wp2_with fail
  refine (C.out _).mono ?_
  rintro e w' ⟨rfl, rfl⟩
  go_wp2_with fail
  refine (C2.out _).mono ?_
  rintro e w2 ⟨sa, cap, rfl, hown, hbel⟩
  unfold OwnBo at hown
  have hq41 : (gamL (m + 1)).length ≤ 41 := by
    rw [gamL_length _ (by omega) (by omega)]
    have := Lib.bitLen_le (m + 1) 21 (by omega) (by omega)
    omega
  obtain ⟨q, hq⟩ : ∃ q, (gamL (m + 1)).length = q := ⟨_, rfl⟩
  rw [hq] at hown hq41 ⊢
  have HQ := Kp.mk hq
  clear C C2 hq
  go_wp2
  have HO := Kp.mk hown
  have HB := Kp.mk hbel
  have hsz : Kp (w.heap.size ≤ w2.heap.size) := ⟨hbel.size⟩
  clear hown hbel
  go_loopw [6, 7] (fun v i wr => ∃ (j : Nat) (sa : Option Addr) (sc : Nat), j ≤ m ∧ i = .int .i64 ((m : Nat) - 1 - (j : Nat) : Int) ∧ v = .slice sa (q + j) sc ∧ wr.ownsRow w.heap.size 4 1 (.slice sa (q + j) sc) (q + j) (bls (gamL (m + 1) ++ binP n m j)) ∧ Below w.heap.size w2 wr) (fun _ i _ => (intOf i + 1).toNat)
  case atStart => exact ⟨0, sa, cap, Nat.zero_le _, by go_num, rfl, by rw [binP_zero, List.append_nil]; exact HO.out, Below.refl _ _⟩
  case round =>
    obtain ⟨j, sb, sc, hj, rfl, rfl, hown, hbl2⟩ := hrel
    have HOJ := Kp.mk hown
    have HBJ := Kp.mk hbl2
    have hsw : Kp (w.heap.size ≤ wr.heap.size) := ⟨Nat.le_trans hsz.out hbl2.size⟩
    clear hown hbl2
    by_cases hlt : j < m
    · obtain ⟨r, hr⟩ : ∃ r : Nat, r = m - 1 - j := ⟨_, rfl⟩
      have hr' : ((m : Nat) - 1 - (j : Nat) : Int) = (r : Int) := by omega
      have hsu := Kp.mk (binP_succ n m j)
      rw [← hr] at hsu
      rw [hr']
      obtain ⟨y, hy⟩ : ∃ y, n / 2 ^ r % 2 = y := ⟨_, rfl⟩
      have ha := and_one n r y (by omega) hy
      have hb := bitB_eq n r y hy
      have hr21 : r ≤ 21 := by omega
      have hrj : r + j + 1 = m := by omega
      have HRJ := Kp.mk hrj
      clear hr hr' hy hrj
      generalize ht : bitB n r = t at *
      have HT := Kp.mk ht
      clear ht
      go_wp2_with (at_builtin; refine wpList_push tBools rfl _ _ rfl (w.heap.size) _ _ _ _ rfl HOJ.out 1 1 _ rfl rfl ?c1 (by decide) ?c2 (by decide) hsw.out ?c4)
      case c1 => simp [Value.oneCell']
      case c2 => omega
      case c4 =>
        intro se ce we hownE hbelE
        have HE := Kp.mk hownE
        have HEB := Kp.mk (HBJ.out.trans hbelE)
        clear hownE hbelE hb ha HOJ HBJ
        go_wp2
        go_roundw
        case rel =>
          refine ⟨j + 1, se, ce, by omega, ?_, rfl, ?_, HEB.out⟩
          · have := HRJ.out
            congr 1; push_cast; omega
          · have h9 := HE.out
            rw [hsu.out, ← List.append_assoc, bls_append]
            simpa [bls, Nat.add_assoc] using h9
        case measure => simp [intOf]
    · obtain rfl : j = m := by omega
      have e1 : ((j : Int) - 1 - (j : Int)) = -1 := by omega
      rw [e1]
      clear e1
      go_wp2
      go_ret
      have hlen := HOJ.out.1
      refine ⟨sb, sc, ?_, ?_, HB.out.trans HBJ.out⟩
      · rw [HG.out, List.length_append, binP_length, HQ.out]; rfl
      · rw [HG.out]
        unfold OwnBo
        rw [List.length_append, binP_length, HQ.out]
        exact HOJ.out


theorem gcode_any (k n : Nat) (w : World) (hk : k = 1 ∨ k = 2) (h1 : 0 < n) (h2 : n ≤ 1048576) :
    Calls Try.prog 51 #[.int .i64 k, .int .i64 n] w (RetBo w (codeL k n)) := by
  unfold codeL
  rcases hk with rfl | rfl
  · exact gcode_gam n w h1 h2
  · exact gcode_del n w h1 h2

theorem gkinded_any (k : Nat) (w : World) (hk : k = 1 ∨ k = 2) : Calls Try.prog 50 #[.int .i64 k] w fun e w' => e = .returned (.bool true) ∧ w = w' := by
  rcases hk with rfl | rfl
  all_goals
    go_enter Try.func50, Try.ntmps50
    go_wp2
    go_ret
    exact ⟨rfl, rfl⟩

theorem gcost_any (k n : Nat) (w : World) (hk : k = 1 ∨ k = 2) (h1 : 0 < n) (h2 : n ≤ 1048576) :
    Calls Try.prog 30 #[.int .i64 k, .int .i64 n] w fun e w' => e = .returned (.tuple #[.int .i64 ((codeL k n).length : Nat), .int .i64 0]) ∧ Below w.heap.size w w' := by
  have C1 := Kp.mk (gkinded_any k w hk)
  have C2 := Kp.mk (gcode_any k n w hk h1 h2)
  clear hk
  go_enter Try.func30, Try.ntmps30
  go_wp2_with fail
  refine C1.out.mono ?_
  rintro e w' ⟨rfl, rfl⟩
  go_wp2_with fail
  refine C2.out.mono ?_
  rintro e w2 ⟨sa, cap, rfl, _, hbel⟩
  go_wp2
  go_ret2
  exact ⟨rfl, hbel⟩

end Go.Proofs.Ytjofajpcchncpaa
