/- Package image: the walks of fold, unfold, put and get. -/
import Derived.Test.YtmfmknpkeniifaaImgP
import Derived.Test.YtmfmknpkeniifaaByt
namespace Go.Proofs.Ytmfmknpkeniifaa
set_option linter.unusedVariables false
open Go.RowKit

theorem fold_any (x : Int) (w : World) (h1 : -1048576 ≤ x) (h2 : x ≤ 1048576) :
    Calls Try.prog 46 #[.int .i64 x] w fun e w' => e = .returned (.int .i64 (foldN x)) ∧ w = w' := by
  have HF := Kp.mk (show (foldN x : Int) = if x < 0 then -2 * x - 1 else 2 * x from by unfold foldN; split <;> omega)
  by_cases h : x < 0
  · have t : decide (x < 0) = true := decide_eq_true h
    rw [if_pos h] at HF
    have e1 : IntKind.i64.wrap (-2 * x) = -2 * x := IntWalk.i64_in _ (by omega)
    have e2 : IntKind.i64.wrap (-2 * x - 1) = -2 * x - 1 := IntWalk.i64_in _ (by omega)
    go_enter Try.func46, Try.ntmps46
    go_wp2
    go_ret
    exact ⟨by rw [HF.out]; rfl, rfl⟩
  · have t : decide (x < 0) = false := decide_eq_false h
    rw [if_neg h] at HF
    have e1 : IntKind.i64.wrap (2 * x) = 2 * x := IntWalk.i64_in _ (by omega)
    go_enter Try.func46, Try.ntmps46
    go_wp2
    go_ret
    exact ⟨by rw [HF.out]; rfl, rfl⟩

theorem unfold_any (n : Nat) (w : World) (h : n < 268435456) :
    Calls Try.prog 83 #[.int .i64 n] w fun e w' => e = .returned (.int .i64 (unfN n)) ∧ w = w' := by
  have e0 : (n : Int).tmod 2 = ((n % 2 : Nat) : Int) := (Int.ofNat_tmod n 2).symm
  rcases Nat.mod_two_eq_zero_or_one n with ho | ho
  · have HU := Kp.mk (show unfN n = ((n / 2 : Nat) : Int) from by unfold unfN; rw [if_neg (by omega)]; omega)
    rw [ho] at e0
    have e1 : (n : Int).tdiv 2 = ((n / 2 : Nat) : Int) := (Int.ofNat_tdiv n 2).symm
    have e2 : IntKind.i64.wrap ((n / 2 : Nat) : Int) = ((n / 2 : Nat) : Int) := IntWalk.i64_in _ (by omega)
    go_enter Try.func83, Try.ntmps83
    go_wp2
    go_ret
    exact ⟨by rw [HU.out]; rfl, rfl⟩
  · obtain ⟨m, hm⟩ : ∃ m : Int, m = -(((n : Int) + 1) / 2) := ⟨_, rfl⟩
    have HU := Kp.mk (show unfN n = m from by unfold unfN; rw [if_pos ho, hm])
    rw [ho] at e0
    have e1 : (-((n : Int) + 1)).tdiv 2 = m := by rw [Int.neg_tdiv, hm, Int.tdiv_eq_ediv_of_nonneg (by omega)]
    have e2 : IntKind.i64.wrap (-((n : Int) + 1)) = -((n : Int) + 1) := IntWalk.i64_in _ (by omega)
    have e3 : IntKind.i64.wrap m = m := IntWalk.i64_in _ (by omega)
    clear hm
    go_enter Try.func83, Try.ntmps83
    go_wp2
    go_ret
    exact ⟨by rw [HU.out]; rfl, rfl⟩

set_option maxRecDepth 100000 in
set_option maxHeartbeats 4000000 in
theorem put_any (B : Nat) (a : Option Addr) (m c : Nat) (l : List Nat) (v : Nat) (w : World) (h : w.ownsRow B 5 1 (.slice a m c) m (byts l)) (hm : m ≤ 1000000000) (hv : v < 268435456) (hB : B ≤ w.heap.size) :
    Calls Try.prog 45 #[.slice a m c, .int .i64 v] w fun e w' => ∃ ra r rc, e = .returned (.slice ra r rc) ∧ Kp ((l ++ putL v).length = r) ∧ r ≤ m + 4 ∧ Kp (w'.ownsRow B 5 1 (.slice ra r rc) r (byts (l ++ putL v))) ∧ Kp (w.grownBy w' (blk a)) ∧ Kp (Since w a ra) ∧ Kp (Below B w w') := by
  have H := Kp.mk h
  have HL := Kp.mk (own_slb h).len
  have HB := Kp.mk hB
  clear h hB
  obtain ⟨wo, rfl⟩ : ∃ wo : World, wo = w := ⟨_, rfl⟩
  go_enter Try.func45, Try.ntmps45
  go_wp2
  go_loopw [0, 1] (fun s i wr => ∃ (k v' : Nat) (ra : Option Addr) (rc : Nat) (p : List Nat), i = .int .i64 v' ∧ s = .slice ra (m + k) rc ∧ k ≤ 3 ∧ v' * 128 ^ k ≤ v ∧ p.length = k ∧ Kp (putL v = p ++ putL v') ∧ Kp (wr.ownsRow B 5 1 (.slice ra (m + k) rc) (m + k) (byts (l ++ p))) ∧ Kp (wo.grownBy wr (blk a)) ∧ Kp (Since wo a ra) ∧ Kp (Below B wo wr)) (fun _ i _ => (intOf i).toNat)
  case atStart => exact ⟨0, v, a, c, [], rfl, rfl, by omega, by omega, rfl, ⟨rfl⟩, ⟨by simpa using H.out⟩, ⟨grown_refl _ _⟩, ⟨Since.refl _ _⟩, ⟨Below.refl _ _⟩⟩
  case round =>
    obtain ⟨k, v', ra, rc, p, rfl, rfl, hk, hv', hp, HP, HO, HGR, HSI, HBL⟩ := hrel
    have hsz : B ≤ wr.heap.size := Nat.le_trans HB.out HBL.out.size
    have hvle : v' ≤ v := Nat.le_trans (Nat.le_mul_of_pos_right v' (Nat.pow_pos (by omega))) hv'
    by_cases hge : 128 ≤ v'
    · have hk3 : k ≤ 2 := by
        by_cases h3 : k = 3
        · subst h3
          have : (128 : Nat) ^ 3 = 2097152 := by decide
          rw [this] at hv'; omega
        · omega
      have e0 : (v' : Int).tmod 128 = ((v' % 128 : Nat) : Int) := (Int.ofNat_tmod v' 128).symm
      have e1 : (v' : Int).tdiv 128 = ((v' / 128 : Nat) : Int) := (Int.ofNat_tdiv v' 128).symm
      have e2 : IntKind.i64.wrap ((v' / 128 : Nat) : Int) = ((v' / 128 : Nat) : Int) := IntWalk.i64_in _ (by omega)
      have e3 : IntKind.u8.wrap ((v' % 128 : Nat) : Int) = ((v' % 128 : Nat) : Int) := u8w _ (by omega)
      have e4 : IntKind.u8.wrap (((v' % 128 : Nat) : Int) + 128) = ((v' % 128 + 128 : Nat) : Int) := u8w (v' % 128 + 128) (by omega)
      have HPU := Kp.mk (show putL v = p ++ [v' % 128 + 128] ++ putL (v' / 128) from by rw [HP.out, putL_big (by omega)]; simp)
      have hnx : v' / 128 * 128 ^ (k + 1) ≤ v := by
        rw [Nat.pow_succ, Nat.mul_comm (128 ^ k), ← Nat.mul_assoc]
        exact Nat.le_trans (Nat.mul_le_mul_right _ (Nat.div_mul_le_self v' 128)) hv'
      have hlt : v' / 128 < v' := by omega
      generalize v' % 128 = x at *
      generalize v' / 128 = y at *
      have hge' : (128 : Int) ≤ v' := by omega
      go_wp2_with (at_builtin; refine wpList_pushS tBytes rfl _ _ rfl B ra (m + k) rc _ rfl HO.out 1 _ rfl rfl ?d1 ?d2 (by decide) hsz ?d4)
      case d1 => simp [Value.oneCell']
      case d2 => omega
      case d4 =>
        intro ya yc w4 ho4 hg4 hno4
        have HO4 := Kp.mk (show w4.ownsRow B 5 1 (.slice ya (m + (k + 1)) yc) (m + (k + 1)) (byts (l ++ (p ++ [x + 128]))) from by
          rw [← List.append_assoc, byts_append (l ++ p)]; exact ho4)
        have HB4 := Kp.mk (HBL.out.trans (below_of_grown hg4 hsz (fun q hq => (own_lt HO.out q hq).1)))
        have HG4 := Kp.mk (grown_since HGR.out HSI.out hg4)
        have HI4 := Kp.mk (HSI.out.next HGR.out.size hno4)
        clear ho4 hg4 hno4
        go_wp2
        go_roundw
        case rel => exact ⟨k + 1, y, ya, yc, p ++ [x + 128], rfl, rfl, by omega, hnx, by simp [hp], HPU, HO4, HG4, HI4, HB4⟩
        case measure => simp [intOf]; omega
    · have e3 : IntKind.u8.wrap (v' : Int) = (v' : Int) := u8w _ (by omega)
      have HPU := Kp.mk (show putL v = p ++ [v'] from by rw [HP.out, putL_small (by omega)])
      have hge' : ¬ (128 : Int) ≤ v' := by omega
      go_wp2_with (at_builtin; refine wpList_pushS tBytes rfl _ _ rfl B ra (m + k) rc _ rfl HO.out 1 _ rfl rfl ?d1 ?d2 (by decide) hsz ?d4)
      case d1 => simp [Value.oneCell']
      case d2 => omega
      case d4 =>
        intro ya yc w4 ho4 hg4 hno4
        have HO4 := Kp.mk (show w4.ownsRow B 5 1 (.slice ya (m + k + 1) yc) (m + k + 1) (byts (l ++ putL v)) from by
          rw [HPU.out, ← List.append_assoc, byts_append (l ++ p)]; exact ho4)
        have HB4 := Kp.mk (HBL.out.trans (below_of_grown hg4 hsz (fun q hq => (own_lt HO.out q hq).1)))
        have HG4 := Kp.mk (grown_since HGR.out HSI.out hg4)
        have HI4 := Kp.mk (HSI.out.next HGR.out.size hno4)
        clear ho4 hg4 hno4
        go_wp2
        go_ret
        exact ⟨ya, m + k + 1, yc, rfl, ⟨by rw [HPU.out, List.length_append, HL.out, List.length_append, hp]; rfl⟩, by omega, HO4, HG4, HI4, HB4⟩

set_option maxRecDepth 100000 in
set_option maxHeartbeats 4000000 in
theorem put0_any (B : Nat) (a : Option Addr) (m : Nat) (l : List Nat) (v : Nat) (w : World) (h : SlB w a m m l) (hm : m ≤ 1000000000) (hv : v < 268435456) (hB : B ≤ w.heap.size) :
    Calls Try.prog 45 #[.slice a m m, .int .i64 v] w fun e w' => ∃ ra r rc, e = .returned (.slice ra r rc) ∧ Kp ((l ++ putL v).length = r) ∧ r ≤ m + 4 ∧ Kp (w'.ownsRow B 5 1 (.slice ra r rc) r (byts (l ++ putL v))) ∧ Kp (Below B w w') := by
  have H := Kp.mk h
  have HL := Kp.mk h.len
  have HB := Kp.mk hB
  clear h hB
  obtain ⟨wo, rfl⟩ : ∃ wo : World, wo = w := ⟨_, rfl⟩
  go_enter Try.func45, Try.ntmps45
  go_wp2
  go_loopw [0, 1] (fun s i wr => ∃ (k v' : Nat) (ra : Option Addr) (rc : Nat) (p : List Nat), i = .int .i64 v' ∧ s = .slice ra (m + k) rc ∧ k ≤ 3 ∧ v' * 128 ^ k ≤ v ∧ p.length = k ∧ Kp (putL v = p ++ putL v') ∧ Kp ((k = 0 → a = ra ∧ m = rc ∧ p = [] ∧ SlB wr a m m l) ∧ (0 < k → wr.ownsRow B 5 1 (.slice ra (m + k) rc) (m + k) (byts (l ++ p)))) ∧ Kp (Below B wo wr)) (fun _ i _ => (intOf i).toNat)
  case atStart => exact ⟨0, v, a, m, [], rfl, rfl, by omega, by omega, rfl, ⟨rfl⟩, ⟨fun _ => ⟨rfl, rfl, rfl, H.out⟩, fun h => by omega⟩, ⟨Below.refl _ _⟩⟩
  case round =>
    obtain ⟨k, v', ra, rc, p, rfl, rfl, hk, hv', hp, HP, HO, HBL⟩ := hrel
    have hsz : B ≤ wr.heap.size := Nat.le_trans HB.out HBL.out.size
    have hvle : v' ≤ v := Nat.le_trans (Nat.le_mul_of_pos_right v' (Nat.pow_pos (by omega))) hv'
    by_cases hge : 128 ≤ v'
    · have hk3 : k ≤ 2 := by
        by_cases h3 : k = 3
        · subst h3
          have : (128 : Nat) ^ 3 = 2097152 := by decide
          rw [this] at hv'; omega
        · omega
      have e0 : (v' : Int).tmod 128 = ((v' % 128 : Nat) : Int) := (Int.ofNat_tmod v' 128).symm
      have e1 : (v' : Int).tdiv 128 = ((v' / 128 : Nat) : Int) := (Int.ofNat_tdiv v' 128).symm
      have e2 : IntKind.i64.wrap ((v' / 128 : Nat) : Int) = ((v' / 128 : Nat) : Int) := IntWalk.i64_in _ (by omega)
      have e3 : IntKind.u8.wrap ((v' % 128 : Nat) : Int) = ((v' % 128 : Nat) : Int) := u8w _ (by omega)
      have e4 : IntKind.u8.wrap (((v' % 128 : Nat) : Int) + 128) = ((v' % 128 + 128 : Nat) : Int) := u8w (v' % 128 + 128) (by omega)
      have HPU := Kp.mk (show putL v = p ++ [v' % 128 + 128] ++ putL (v' / 128) from by rw [HP.out, putL_big (by omega)]; simp)
      have hnx : v' / 128 * 128 ^ (k + 1) ≤ v := by
        rw [Nat.pow_succ, Nat.mul_comm (128 ^ k), ← Nat.mul_assoc]
        exact Nat.le_trans (Nat.mul_le_mul_right _ (Nat.div_mul_le_self v' 128)) hv'
      have hlt : v' / 128 < v' := by omega
      generalize v' % 128 = x at *
      generalize v' / 128 = y at *
      have hge' : (128 : Int) ≤ v' := by omega
      rcases Nat.eq_zero_or_pos k with hk0 | hk0
      · subst hk0
        obtain ⟨rfl, rfl, rfl, HS⟩ := HO.out.1 rfl
        go_wp2_with (at_builtin; refine wpList_pushFull tBytes rfl _ _ rfl B a m _ rfl HS 1 _ rfl rfl ?d1 (by decide) ?d2 (by decide) hsz ?d4)
        case d1 => simp [Value.oneCell']
        case d2 => omega
        case d4 =>
          intro ya yc w4 ho4 hb4
          have HO4 := Kp.mk (show w4.ownsRow B 5 1 (.slice ya (m + (0 + 1)) yc) (m + (0 + 1)) (byts (l ++ ([] ++ [x + 128]))) from by
            rw [← List.append_assoc, byts_append (l ++ []), List.append_nil]; exact ho4)
          have HB4 := Kp.mk (HBL.out.trans hb4)
          clear ho4 hb4
          go_wp2
          go_roundw
          case rel => exact ⟨0 + 1, y, ya, yc, [] ++ [x + 128], rfl, rfl, by omega, hnx, by simp [hp], HPU, ⟨fun h => by omega, fun _ => HO4.out⟩, HB4⟩
          case measure => simp [intOf]; omega
      · have HO1 := HO.out.2 hk0
        go_wp2_with (at_builtin; refine wpList_push tBytes rfl _ _ rfl B ra (m + k) rc _ rfl HO1 1 1 _ rfl rfl ?d1 (by decide) ?d2 (by decide) hsz ?d4)
        case d1 => simp [Value.oneCell']
        case d2 => omega
        case d4 =>
          intro ya yc w4 ho4 hb4
          have HO4 := Kp.mk (show w4.ownsRow B 5 1 (.slice ya (m + (k + 1)) yc) (m + (k + 1)) (byts (l ++ (p ++ [x + 128]))) from by
            rw [← List.append_assoc, byts_append (l ++ p)]; exact ho4)
          have HB4 := Kp.mk (HBL.out.trans hb4)
          clear ho4 hb4
          go_wp2
          go_roundw
          case rel => exact ⟨k + 1, y, ya, yc, p ++ [x + 128], rfl, rfl, by omega, hnx, by simp [hp], HPU, ⟨fun h => by omega, fun _ => HO4.out⟩, HB4⟩
          case measure => simp [intOf]; omega
    · have e3 : IntKind.u8.wrap (v' : Int) = (v' : Int) := u8w _ (by omega)
      have HPU := Kp.mk (show putL v = p ++ [v'] from by rw [HP.out, putL_small (by omega)])
      have hge' : ¬ (128 : Int) ≤ v' := by omega
      rcases Nat.eq_zero_or_pos k with hk0 | hk0
      · subst hk0
        obtain ⟨rfl, rfl, rfl, HS⟩ := HO.out.1 rfl
        go_wp2_with (at_builtin; refine wpList_pushFull tBytes rfl _ _ rfl B a m _ rfl HS 1 _ rfl rfl ?d1 (by decide) ?d2 (by decide) hsz ?d4)
        case d1 => simp [Value.oneCell']
        case d2 => omega
        case d4 =>
          intro ya yc w4 ho4 hb4
          have HO4 := Kp.mk (show w4.ownsRow B 5 1 (.slice ya (m + 1) yc) (m + 1) (byts (l ++ putL v)) from by
            rw [HPU.out, ← List.append_assoc, byts_append (l ++ []), List.append_nil]; exact ho4)
          have HB4 := Kp.mk (HBL.out.trans hb4)
          clear ho4 hb4
          go_wp2
          go_ret
          exact ⟨ya, m + 1, yc, rfl, ⟨by rw [HPU.out, List.length_append, HL.out, List.length_append, hp]; rfl⟩, by omega, HO4, HB4⟩
      · have HO1 := HO.out.2 hk0
        go_wp2_with (at_builtin; refine wpList_push tBytes rfl _ _ rfl B ra (m + k) rc _ rfl HO1 1 1 _ rfl rfl ?d1 (by decide) ?d2 (by decide) hsz ?d4)
        case d1 => simp [Value.oneCell']
        case d2 => omega
        case d4 =>
          intro ya yc w4 ho4 hb4
          have HO4 := Kp.mk (show w4.ownsRow B 5 1 (.slice ya (m + k + 1) yc) (m + k + 1) (byts (l ++ putL v)) from by
            rw [HPU.out, ← List.append_assoc, byts_append (l ++ p)]; exact ho4)
          have HB4 := Kp.mk (HBL.out.trans hb4)
          clear ho4 hb4
          go_wp2
          go_ret
          exact ⟨ya, m + k + 1, yc, rfl, ⟨by rw [HPU.out, List.length_append, HL.out, List.length_append, hp]; rfl⟩, by omega, HO4, HB4⟩

end Go.Proofs.Ytmfmknpkeniifaa
