import Derived.Test.YteeeikninigeoaaGreatDoorMg20
import Derived.Test.YteeeikninigeoaaGreatDoorMg5
import Derived.Test.YteeeikninigeoaaGreatDoorMg2
import Derived.Lib.SlBytesConst
/- Package image: the walks of fold, unfold, put and get. -/
namespace Go.Proofs.YteeeikninigeoaaGreatDoor
set_option linter.unusedVariables false
open Go.RowKit

theorem fold_any (x : Int) (w : World) (h1 : -1048576 ≤ x) (h2 : x ≤ 1048576) :
    Calls Tryz.prog 33 #[.int .i64 x] w fun e w' => e = .returned (.int .i64 (foldN x)) ∧ w = w' := by
  have HF := Kp.mk (show (foldN x : Int) = if x < 0 then -2 * x - 1 else 2 * x from by unfold foldN; split <;> omega)
  by_cases h : x < 0
  · have t : decide (x < 0) = true := decide_eq_true h
    rw [if_pos h] at HF
    have e1 : IntKind.i64.wrap (-2 * x) = -2 * x := IntWalk.i64_in _ (by omega)
    have e2 : IntKind.i64.wrap (-2 * x - 1) = -2 * x - 1 := IntWalk.i64_in _ (by omega)
    go_enter Tryz.func33, Tryz.ntmps33
    go_wp2
    go_ret
    exact ⟨by rw [HF.out]; rfl, rfl⟩
  · have t : decide (x < 0) = false := decide_eq_false h
    rw [if_neg h] at HF
    have e1 : IntKind.i64.wrap (2 * x) = 2 * x := IntWalk.i64_in _ (by omega)
    go_enter Tryz.func33, Tryz.ntmps33
    go_wp2
    go_ret
    exact ⟨by rw [HF.out]; rfl, rfl⟩

theorem unfold_any (n : Nat) (w : World) (h : n < 268435456) :
    Calls Tryz.prog 64 #[.int .i64 n] w fun e w' => e = .returned (.int .i64 (unfN n)) ∧ w = w' := by
  have e0 : (n : Int).tmod 2 = ((n % 2 : Nat) : Int) := (Int.ofNat_tmod n 2).symm
  rcases Nat.mod_two_eq_zero_or_one n with ho | ho
  · have HU := Kp.mk (show unfN n = ((n / 2 : Nat) : Int) from by unfold unfN; rw [if_neg (by omega)]; omega)
    rw [ho] at e0
    have e1 : (n : Int).tdiv 2 = ((n / 2 : Nat) : Int) := (Int.ofNat_tdiv n 2).symm
    have e2 : IntKind.i64.wrap ((n / 2 : Nat) : Int) = ((n / 2 : Nat) : Int) := IntWalk.i64_in _ (by omega)
    go_enter Tryz.func64, Tryz.ntmps64
    go_wp2
    go_ret
    exact ⟨by rw [HU.out]; rfl, rfl⟩
  · obtain ⟨m, hm⟩ : ∃ m : Int, m = -(((n : Int) + 1) / 2) := ⟨_, rfl⟩
    have HU := Kp.mk (show unfN n = m from by unfold unfN; rw [if_pos ho, hm])
    rw [ho] at e0
    have e1 : (-((n : Int) + 1)).tdiv 2 = m := by rw [Int.neg_tdiv, hm, Int.tdiv_eq_ediv_of_nonneg (by omega)]
    have e2 : IntKind.i64.wrap (-((n : Int) + 1)) = -((n : Int) + 1) := IntWalk.i64_in _ (by omega)
    have e3 : IntKind.i64.wrap m = m := IntWalk.i64_in _ (by omega)
    clear hm
    go_enter Tryz.func64, Tryz.ntmps64
    go_wp2
    go_ret
    exact ⟨by rw [HU.out]; rfl, rfl⟩

set_option maxRecDepth 100000 in
set_option maxHeartbeats 4000000 in
theorem put_any (B : Nat) (a : Option Addr) (m c : Nat) (l : List Nat) (v : Nat) (w : World) (h : w.ownsRow B 5 1 (.slice a m c) m (byts l)) (hm : m ≤ 1000000000) (hv : v < 268435456) (hB : B ≤ w.heap.size) :
    Calls Tryz.prog 32 #[.slice a m c, .int .i64 v] w fun e w' => ∃ ra r rc, e = .returned (.slice ra r rc) ∧ Kp ((l ++ putL v).length = r) ∧ r ≤ m + 4 ∧ Kp (w'.ownsRow B 5 1 (.slice ra r rc) r (byts (l ++ putL v))) ∧ Kp (w.grownBy w' (blk a)) ∧ Kp (Since w a ra) ∧ Kp (Below B w w') := by
  have H := Kp.mk h
  have HL := Kp.mk (own_slb h).len
  have HB := Kp.mk hB
  clear h hB
  obtain ⟨wo, rfl⟩ : ∃ wo : World, wo = w := ⟨_, rfl⟩
  go_enter Tryz.func32, Tryz.ntmps32
  go_wp2
  go_loopw [0, 1] (fun s i wr => ∃ (k v' : Nat) (ra : Option Addr) (rc : Nat) (p : List Nat), i = .int .i64 v' ∧ s = .slice ra (m + k) rc ∧ k ≤ 3 ∧ v' * 128 ^ k ≤ v ∧ p.length = k ∧ Kp (putL v = p ++ putL v') ∧ Kp (wr.ownsRow B 5 1 (.slice ra (m + k) rc) (m + k) (byts (l ++ p))) ∧ Kp (wo.grownBy wr (blk a)) ∧ Kp (Since wo a ra) ∧ Kp (Below B wo wr)) (fun _ i _ => (intOf i).toNat)
  case atStart => exact ⟨0, v, a, c, [], rfl, rfl, by omega, by omega, rfl, ⟨rfl⟩, ⟨by simpa using H.out⟩, ⟨grown_refl _ _⟩, ⟨Since.refl _ _⟩, ⟨Below.refl _ _⟩⟩
  case round =>
    obtain ⟨k, v', ra, rc, p, rfl, rfl, hk, hv', hp, HP, HO, HGR, HSI, HBL⟩ := hrel
    have hsz : B ≤ wr.heap.size := Nat.le_trans HB.out HBL.out.size
    have hvle : v' ≤ v := Nat.le_trans (Nat.le_mul_of_pos_right v' (Nat.pow_pos (by omega))) hv'
    by_cases hge : 128 ≤ v'
    · have hk3 : k ≤ 2 := by
        by_cases h3 : k = 3
        · subst h3
          have : (128 : Nat) ^ 3 = 2097152 := by decide
          rw [this] at hv'; omega
        · omega
      have e0 : (v' : Int).tmod 128 = ((v' % 128 : Nat) : Int) := (Int.ofNat_tmod v' 128).symm
      have e1 : (v' : Int).tdiv 128 = ((v' / 128 : Nat) : Int) := (Int.ofNat_tdiv v' 128).symm
      have e2 : IntKind.i64.wrap ((v' / 128 : Nat) : Int) = ((v' / 128 : Nat) : Int) := IntWalk.i64_in _ (by omega)
      have e3 : IntKind.u8.wrap ((v' % 128 : Nat) : Int) = ((v' % 128 : Nat) : Int) := u8w _ (by omega)
      have e4 : IntKind.u8.wrap (((v' % 128 : Nat) : Int) + 128) = ((v' % 128 + 128 : Nat) : Int) := u8w (v' % 128 + 128) (by omega)
      have HPU := Kp.mk (show putL v = p ++ [v' % 128 + 128] ++ putL (v' / 128) from by rw [HP.out, putL_big (by omega)]; simp)
      have hnx : v' / 128 * 128 ^ (k + 1) ≤ v := by
        rw [Nat.pow_succ, Nat.mul_comm (128 ^ k), ← Nat.mul_assoc]
        exact Nat.le_trans (Nat.mul_le_mul_right _ (Nat.div_mul_le_self v' 128)) hv'
      have hlt : v' / 128 < v' := by omega
      generalize v' % 128 = x at *
      generalize v' / 128 = y at *
      have hge' : (128 : Int) ≤ v' := by omega
      go_wp2_with (at_builtin; refine wpList_pushS tBytes rfl _ _ rfl B ra (m + k) rc _ rfl HO.out 1 _ rfl rfl ?d1 ?d2 (by decide) hsz ?d4)
      case d1 => simp [Value.oneCell']
      case d2 => omega
      case d4 =>
        intro ya yc w4 ho4 hg4 hno4
        have HO4 := Kp.mk (show w4.ownsRow B 5 1 (.slice ya (m + (k + 1)) yc) (m + (k + 1)) (byts (l ++ (p ++ [x + 128]))) from by
          rw [← List.append_assoc, byts_append (l ++ p)]; exact ho4)
        have HB4 := Kp.mk (HBL.out.trans (below_of_grown hg4 hsz (fun q hq => (own_lt HO.out q hq).1)))
        have HG4 := Kp.mk (grown_since HGR.out HSI.out hg4)
        have HI4 := Kp.mk (HSI.out.next HGR.out.size hno4)
        clear ho4 hg4 hno4
        go_wp2
        go_roundw
        case rel => exact ⟨k + 1, y, ya, yc, p ++ [x + 128], rfl, rfl, by omega, hnx, by simp [hp], HPU, HO4, HG4, HI4, HB4⟩
        case measure => simp [intOf]; omega
    · have e3 : IntKind.u8.wrap (v' : Int) = (v' : Int) := u8w _ (by omega)
      have HPU := Kp.mk (show putL v = p ++ [v'] from by rw [HP.out, putL_small (by omega)])
      have hge' : ¬ (128 : Int) ≤ v' := by omega
      go_wp2_with (at_builtin; refine wpList_pushS tBytes rfl _ _ rfl B ra (m + k) rc _ rfl HO.out 1 _ rfl rfl ?d1 ?d2 (by decide) hsz ?d4)
      case d1 => simp [Value.oneCell']
      case d2 => omega
      case d4 =>
        intro ya yc w4 ho4 hg4 hno4
        have HO4 := Kp.mk (show w4.ownsRow B 5 1 (.slice ya (m + k + 1) yc) (m + k + 1) (byts (l ++ putL v)) from by
          rw [HPU.out, ← List.append_assoc, byts_append (l ++ p)]; exact ho4)
        have HB4 := Kp.mk (HBL.out.trans (below_of_grown hg4 hsz (fun q hq => (own_lt HO.out q hq).1)))
        have HG4 := Kp.mk (grown_since HGR.out HSI.out hg4)
        have HI4 := Kp.mk (HSI.out.next HGR.out.size hno4)
        clear ho4 hg4 hno4
        go_wp2
        go_ret
        exact ⟨ya, m + k + 1, yc, rfl, ⟨by rw [HPU.out, List.length_append, HL.out, List.length_append, hp]; rfl⟩, by omega, HO4, HG4, HI4, HB4⟩

set_option maxRecDepth 100000 in
set_option maxHeartbeats 4000000 in
theorem put0_any (B : Nat) (a : Option Addr) (m : Nat) (l : List Nat) (v : Nat) (w : World) (h : SlB w a m m l) (hm : m ≤ 1000000000) (hv : v < 268435456) (hB : B ≤ w.heap.size) :
    Calls Tryz.prog 32 #[.slice a m m, .int .i64 v] w fun e w' => ∃ ra r rc, e = .returned (.slice ra r rc) ∧ Kp ((l ++ putL v).length = r) ∧ r ≤ m + 4 ∧ Kp (w'.ownsRow B 5 1 (.slice ra r rc) r (byts (l ++ putL v))) ∧ Kp (Below B w w') := by
  have H := Kp.mk h
  have HL := Kp.mk h.len
  have HB := Kp.mk hB
  clear h hB
  obtain ⟨wo, rfl⟩ : ∃ wo : World, wo = w := ⟨_, rfl⟩
  go_enter Tryz.func32, Tryz.ntmps32
  go_wp2
  go_loopw [0, 1] (fun s i wr => ∃ (k v' : Nat) (ra : Option Addr) (rc : Nat) (p : List Nat), i = .int .i64 v' ∧ s = .slice ra (m + k) rc ∧ k ≤ 3 ∧ v' * 128 ^ k ≤ v ∧ p.length = k ∧ Kp (putL v = p ++ putL v') ∧ Kp ((k = 0 → a = ra ∧ m = rc ∧ p = [] ∧ SlB wr a m m l) ∧ (0 < k → wr.ownsRow B 5 1 (.slice ra (m + k) rc) (m + k) (byts (l ++ p)))) ∧ Kp (Below B wo wr)) (fun _ i _ => (intOf i).toNat)
  case atStart => exact ⟨0, v, a, m, [], rfl, rfl, by omega, by omega, rfl, ⟨rfl⟩, ⟨fun _ => ⟨rfl, rfl, rfl, H.out⟩, fun h => by omega⟩, ⟨Below.refl _ _⟩⟩
  case round =>
    obtain ⟨k, v', ra, rc, p, rfl, rfl, hk, hv', hp, HP, HO, HBL⟩ := hrel
    have hsz : B ≤ wr.heap.size := Nat.le_trans HB.out HBL.out.size
    have hvle : v' ≤ v := Nat.le_trans (Nat.le_mul_of_pos_right v' (Nat.pow_pos (by omega))) hv'
    by_cases hge : 128 ≤ v'
    · have hk3 : k ≤ 2 := by
        by_cases h3 : k = 3
        · subst h3
          have : (128 : Nat) ^ 3 = 2097152 := by decide
          rw [this] at hv'; omega
        · omega
      have e0 : (v' : Int).tmod 128 = ((v' % 128 : Nat) : Int) := (Int.ofNat_tmod v' 128).symm
      have e1 : (v' : Int).tdiv 128 = ((v' / 128 : Nat) : Int) := (Int.ofNat_tdiv v' 128).symm
      have e2 : IntKind.i64.wrap ((v' / 128 : Nat) : Int) = ((v' / 128 : Nat) : Int) := IntWalk.i64_in _ (by omega)
      have e3 : IntKind.u8.wrap ((v' % 128 : Nat) : Int) = ((v' % 128 : Nat) : Int) := u8w _ (by omega)
      have e4 : IntKind.u8.wrap (((v' % 128 : Nat) : Int) + 128) = ((v' % 128 + 128 : Nat) : Int) := u8w (v' % 128 + 128) (by omega)
      have HPU := Kp.mk (show putL v = p ++ [v' % 128 + 128] ++ putL (v' / 128) from by rw [HP.out, putL_big (by omega)]; simp)
      have hnx : v' / 128 * 128 ^ (k + 1) ≤ v := by
        rw [Nat.pow_succ, Nat.mul_comm (128 ^ k), ← Nat.mul_assoc]
        exact Nat.le_trans (Nat.mul_le_mul_right _ (Nat.div_mul_le_self v' 128)) hv'
      have hlt : v' / 128 < v' := by omega
      generalize v' % 128 = x at *
      generalize v' / 128 = y at *
      have hge' : (128 : Int) ≤ v' := by omega
      rcases Nat.eq_zero_or_pos k with hk0 | hk0
      · subst hk0
        obtain ⟨rfl, rfl, rfl, HS⟩ := HO.out.1 rfl
        go_wp2_with (at_builtin; refine wpList_pushFull tBytes rfl _ _ rfl B a m _ rfl HS 1 _ rfl rfl ?d1 (by decide) ?d2 (by decide) hsz ?d4)
        case d1 => simp [Value.oneCell']
        case d2 => omega
        case d4 =>
          intro ya yc w4 ho4 hb4
          have HO4 := Kp.mk (show w4.ownsRow B 5 1 (.slice ya (m + (0 + 1)) yc) (m + (0 + 1)) (byts (l ++ ([] ++ [x + 128]))) from by
            rw [← List.append_assoc, byts_append (l ++ []), List.append_nil]; exact ho4)
          have HB4 := Kp.mk (HBL.out.trans hb4)
          clear ho4 hb4
          go_wp2
          go_roundw
          case rel => exact ⟨0 + 1, y, ya, yc, [] ++ [x + 128], rfl, rfl, by omega, hnx, by simp [hp], HPU, ⟨fun h => by omega, fun _ => HO4.out⟩, HB4⟩
          case measure => simp [intOf]; omega
      · have HO1 := HO.out.2 hk0
        go_wp2_with (at_builtin; refine wpList_push tBytes rfl _ _ rfl B ra (m + k) rc _ rfl HO1 1 1 _ rfl rfl ?d1 (by decide) ?d2 (by decide) hsz ?d4)
        case d1 => simp [Value.oneCell']
        case d2 => omega
        case d4 =>
          intro ya yc w4 ho4 hb4
          have HO4 := Kp.mk (show w4.ownsRow B 5 1 (.slice ya (m + (k + 1)) yc) (m + (k + 1)) (byts (l ++ (p ++ [x + 128]))) from by
            rw [← List.append_assoc, byts_append (l ++ p)]; exact ho4)
          have HB4 := Kp.mk (HBL.out.trans hb4)
          clear ho4 hb4
          go_wp2
          go_roundw
          case rel => exact ⟨k + 1, y, ya, yc, p ++ [x + 128], rfl, rfl, by omega, hnx, by simp [hp], HPU, ⟨fun h => by omega, fun _ => HO4.out⟩, HB4⟩
          case measure => simp [intOf]; omega
    · have e3 : IntKind.u8.wrap (v' : Int) = (v' : Int) := u8w _ (by omega)
      have HPU := Kp.mk (show putL v = p ++ [v'] from by rw [HP.out, putL_small (by omega)])
      have hge' : ¬ (128 : Int) ≤ v' := by omega
      rcases Nat.eq_zero_or_pos k with hk0 | hk0
      · subst hk0
        obtain ⟨rfl, rfl, rfl, HS⟩ := HO.out.1 rfl
        go_wp2_with (at_builtin; refine wpList_pushFull tBytes rfl _ _ rfl B a m _ rfl HS 1 _ rfl rfl ?d1 (by decide) ?d2 (by decide) hsz ?d4)
        case d1 => simp [Value.oneCell']
        case d2 => omega
        case d4 =>
          intro ya yc w4 ho4 hb4
          have HO4 := Kp.mk (show w4.ownsRow B 5 1 (.slice ya (m + 1) yc) (m + 1) (byts (l ++ putL v)) from by
            rw [HPU.out, ← List.append_assoc, byts_append (l ++ []), List.append_nil]; exact ho4)
          have HB4 := Kp.mk (HBL.out.trans hb4)
          clear ho4 hb4
          go_wp2
          go_ret
          exact ⟨ya, m + 1, yc, rfl, ⟨by rw [HPU.out, List.length_append, HL.out, List.length_append, hp]; rfl⟩, by omega, HO4, HB4⟩
      · have HO1 := HO.out.2 hk0
        go_wp2_with (at_builtin; refine wpList_push tBytes rfl _ _ rfl B ra (m + k) rc _ rfl HO1 1 1 _ rfl rfl ?d1 (by decide) ?d2 (by decide) hsz ?d4)
        case d1 => simp [Value.oneCell']
        case d2 => omega
        case d4 =>
          intro ya yc w4 ho4 hb4
          have HO4 := Kp.mk (show w4.ownsRow B 5 1 (.slice ya (m + k + 1) yc) (m + k + 1) (byts (l ++ putL v)) from by
            rw [HPU.out, ← List.append_assoc, byts_append (l ++ p)]; exact ho4)
          have HB4 := Kp.mk (HBL.out.trans hb4)
          clear ho4 hb4
          go_wp2
          go_ret
          exact ⟨ya, m + k + 1, yc, rfl, ⟨by rw [HPU.out, List.length_append, HL.out, List.length_append, hp]; rfl⟩, by omega, HO4, HB4⟩

end Go.Proofs.YteeeikninigeoaaGreatDoor

/- Package image: the walk of get. -/
namespace Go.Proofs.YteeeikninigeoaaGreatDoor
set_option linter.unusedVariables false
open Go.RowKit

theorem u8_and127 (x : Nat) (h : x < 256) : bits BinOp.and IntKind.u8 (x : Int) 127 = ((x % 128 : Nat) : Int) := by
  have h1 : (BitVec.ofInt 8 (x : Int)).toNat = x := by
    rw [BitVec.ofInt_natCast, BitVec.toNat_ofNat]; exact Nat.mod_eq_of_lt (by omega)
  have h2 : (BitVec.ofInt 8 (127 : Int)).toNat = 127 := by decide
  show IntKind.u8.wrap ((BitVec.ofInt 8 (x : Int) &&& BitVec.ofInt 8 (127 : Int)).toNat : Int) = _
  rw [BitVec.toNat_and, h1, h2, show 127 = 2 ^ 7 - 1 from rfl, Nat.and_two_pow_sub_one_eq_mod, show 2 ^ 7 = 128 from rfl, IntKind.wrap_u8']
  omega
theorem or_place (acc y i : Nat) (h : acc < 2 ^ i) : acc ||| y * 2 ^ i = acc + y * 2 ^ i := by
  rw [Nat.or_comm, Nat.mul_comm, ← Nat.two_pow_add_eq_or_of_lt h y, Nat.add_comm]
theorem getR_stop {f i acc x : Nat} {r : List Nat} (h : x < 128) (h2 : i = 0 ∨ 0 < x) : getR (f + 1) i acc (x :: r) = some (acc + x * 128 ^ i, r) := by rw [getR, if_pos h, if_pos h2]
theorem getR_bad {f i acc x : Nat} {r : List Nat} (h : x < 128) (h2 : ¬ (i = 0 ∨ 0 < x)) : getR (f + 1) i acc (x :: r) = none := by rw [getR, if_pos h, if_neg h2]
theorem getR_on {f i acc x : Nat} {r : List Nat} (h : ¬ x < 128) : getR (f + 1) i acc (x :: r) = getR f (i + 1) (acc + x % 128 * 128 ^ i) r := by rw [getR, if_neg h]
theorem getR_nil (f i acc : Nat) : getR f i acc [] = none := by cases f <;> rfl
theorem getR_none (i acc : Nat) (b : List Nat) : getR 0 i acc b = none := by rfl
attribute [local irreducible] getR

theorem slb_nil {w : World} {b off : Nat} : SlB w (some ⟨b, off, none⟩) 0 0 [] := ⟨rfl, Nat.le_refl _, Nat.zero_le _, (fun h => by cases h), fun i hi => by simp [byts] at hi⟩

set_option maxRecDepth 100000 in
set_option maxHeartbeats 4000000 in
theorem get_any (a : Option Addr) (n cap : Nat) (l : List Nat) (w : World) (h : SlB w a n cap l) (hb : ∀ x ∈ l, x < 256) :
    Calls Tryz.prog 63 #[.slice a n cap] w fun e w' => Below w.heap.size w w' ∧ ((∃ (v : Nat) (ra : Option Addr) (rn rc : Nat) (r : List Nat), e = .returned (.tuple #[.int .i64 v, .slice ra rn rc, .bool true]) ∧ Kp (getL l = some (v, r)) ∧ Kp (SlB w' ra rn rc r) ∧ Kp (blk ra = blk a)) ∨ (∃ (v : Int) (ra : Option Addr) (rn rc : Nat), e = .returned (.tuple #[.int .i64 v, .slice ra rn rc, .bool false]) ∧ Kp (getL l = none))) := by
  have H := Kp.mk h
  have HB := Kp.mk hb
  have HL := Kp.mk h.len
  have hcap : n ≤ cap := SlC.le h
  clear h hb
  obtain ⟨wo, rfl⟩ : ∃ wo : World, wo = w := ⟨_, rfl⟩
  go_enter Tryz.func63, Tryz.ntmps63
  go_wp2
  go_loopw [5, 6] (fun v i wr => ∃ (k acc : Nat), k ≤ 4 ∧ k ≤ n ∧ i = .int .i64 k ∧ v = .int .i64 acc ∧ acc < 128 ^ k ∧ Kp (getL l = getR (4 - k) k acc (l.drop k)) ∧ Kp (Below wo.heap.size wo wr)) (fun _ i _ => 4 - (intOf i).toNat)
  case atStart => exact ⟨0, 0, by omega, by omega, rfl, rfl, by simp, ⟨rfl⟩, ⟨Below.refl _ _⟩⟩
  case round =>
    obtain ⟨k, acc, hk4, hkn, rfl, rfl, hacc, HG, HBL⟩ := hrel
    by_cases hlt : k < n
    · by_cases hk : k < 4
      · have hkl : k < l.length := by rw [HL.out]; exact hlt
        obtain ⟨b, off, rfl, cx⟩ := byte_cell (SlB.below H.out HBL.out) k hlt
        have hx := HB.out (l.getD k 0) (by rw [getD_at _ _ hkl]; exact List.getElem_mem _)
        have hdrop : l.drop k = l.getD k 0 :: l.drop (k + 1) := by rw [getD_at _ _ hkl]; exact (List.getElem_cons_drop ..).symm
        rw [hdrop, show 4 - k = (3 - k) + 1 by omega] at HG
        have HDR := Kp.mk (SlB.drop H.out (show k + 1 ≤ n by omega))
        clear hdrop
        generalize l.getD k 0 = x at *
        have e1 := u8_and127 x hx
        have hor : Kp (acc ||| x % 128 * 2 ^ (7 * k) = acc + x % 128 * 128 ^ k) := ⟨by
          rw [or_place _ _ _ (by rw [Nat.pow_mul]; exact hacc), Nat.pow_mul]⟩
        have hnl : acc + x % 128 * 128 ^ k < 128 ^ (k + 1) := by
          have h1 : x % 128 * 128 ^ k ≤ 127 * 128 ^ k := Nat.mul_le_mul_right _ (by omega)
          rw [Nat.pow_succ]; omega
        obtain ⟨nv, hnv⟩ : ∃ nv, nv = acc + x % 128 * 128 ^ k := ⟨_, rfl⟩
        rw [← hnv] at hor hnl
        have HNV := Kp.mk hnv
        clear hnv
        have hcc : k + 1 = cap ∨ k + 1 < cap := by omega
        have HON := Kp.mk (fun h : ¬ x < 128 => getR_on (f := 3 - k) (i := k) (acc := acc) (r := l.drop (k + 1)) h)
        have HST := Kp.mk (fun (h : x < 128) (h2 : k = 0 ∨ 0 < x) => getR_stop (f := 3 - k) (i := k) (acc := acc) (r := l.drop (k + 1)) h h2)
        have HBD := Kp.mk (fun (h : x < 128) (h2 : ¬ (k = 0 ∨ 0 < x)) => getR_bad (f := 3 - k) (i := k) (acc := acc) (r := l.drop (k + 1)) h h2)
        rw [← HNV.out, ← HG.out] at HON
        rw [← HG.out] at HST HBD
        rcases (show k = 0 ∨ k = 1 ∨ k = 2 ∨ k = 3 by omega) with rfl | rfl | rfl | rfl
        · have e2 : bits BinOp.or IntKind.i64 (acc : Int) ((x : Int) % 128) = (nv : Int) := by
            have h1 := i64_or_nat acc (x % 128 * 1) (by omega) (by omega)
            have e : 2 ^ (7 * 0) = 1 := by decide
            rw [e] at hor
            rw [hor.out] at h1
            rw [← h1]
            congr 1
            try omega
          simp only [Nat.add_zero] at cx
          clear hor
          by_cases hs : x < 128
          · have ts : decide ((x : Int) < 128) = true := decide_eq_true (by omega)
            have lcx := later_cell cx
            have HOK := Kp.mk (show getL l = some (nv, l.drop (0 + 1)) from by rw [HST.out hs (.inl rfl)]; rw [HNV.out, Nat.mod_eq_of_lt hs])
            rcases hcc with hcc | hcc
            · obtain rfl : cap = 1 := by omega
              obtain rfl : n = 1 := by omega
              have HSL := Kp.mk (show ∀ W, Below wo.heap.size wo W → Kp (SlB W (some ⟨b, off, none⟩) 0 0 (l.drop (0 + 1))) from fun W hb => ⟨by rw [List.drop_of_length_le (by rw [HL.out]; omega)]; exact slb_nil⟩)
              go_wp2
              refine region_later (by kernel_rfl) (by kernel_rfl) ?_
              iterate 17 (go_big_quiet_step (fail))
              refine wpQuiet_nil ?_
              rintro w' ⟨xl, rfl⟩
              have HB6 := Kp.mk (HBL.out.trans (xl.le.mono HBL.out.size))
              clear lcx cx
              go_wp2
              refine bodyPost_ret (v := .tuple #[.int .i64 nv, .slice (some ⟨b, off, none⟩) 0 0, .bool true]) (by simp [results, Tryz.results63, go_sem]) rfl ?_
              exact ⟨HB6.out, .inl ⟨nv, _, _, _, _, rfl, HOK, HSL.out xl.val HB6.out, ⟨rfl⟩⟩⟩
            · have HSL := Kp.mk (show ∀ W, Below wo.heap.size wo W → Kp (SlB W (some ⟨b, off + 1, none⟩) (n - 1) (cap - 1) (l.drop (0 + 1))) from fun W hb => ⟨SlB.below HDR.out hb⟩)
              have hn1 : 1 ≤ n := by omega
              go_wp2
              refine region_later (by kernel_rfl) (by kernel_rfl) ?_
              iterate 17 (go_big_quiet_step (fail))
              refine wpQuiet_nil ?_
              rintro w' ⟨xl, rfl⟩
              have HB6 := Kp.mk (HBL.out.trans (xl.le.mono HBL.out.size))
              clear lcx cx
              go_wp2
              refine bodyPost_ret (v := .tuple #[.int .i64 nv, .slice (some ⟨b, off + 1, none⟩) (n - 1) (cap - 1), .bool true]) (by simp [results, Tryz.results63, go_sem]) rfl ?_
              exact ⟨HB6.out, .inl ⟨nv, _, _, _, _, rfl, HOK, HSL.out xl.val HB6.out, ⟨rfl⟩⟩⟩
          · have ts : decide ((x : Int) < 128) = false := decide_eq_false (by omega)
            have HG2 := Kp.mk (HON.out hs)
            go_wp2
            go_roundw
            case rel => exact ⟨1, nv, by omega, by omega, by first | rfl | go_num, rfl, hnl, HG2, HBL⟩
            case measure => simp [intOf]
        · have e2 : bits BinOp.or IntKind.i64 (acc : Int) ((x : Int) % 128 * 128) = (nv : Int) := by
            have h1 := i64_or_nat acc (x % 128 * 128) (by omega) (by omega)
            have e : 2 ^ (7 * 1) = 128 := by decide
            rw [e] at hor
            rw [hor.out] at h1
            rw [← h1]
            congr 1
            try omega
          skip
          clear hor
          by_cases hs : x < 128
          · have ts : decide ((x : Int) < 128) = true := decide_eq_true (by omega)
            have lcx := later_cell cx
            by_cases hx0 : 0 < x
            · have t0 : decide ((0 : Int) < x) = true := decide_eq_true (by omega)
              have HOK := Kp.mk (show getL l = some (nv, l.drop (1 + 1)) from by rw [HST.out hs (.inr hx0)]; rw [HNV.out, Nat.mod_eq_of_lt hs])
              rcases hcc with hcc | hcc
              · obtain rfl : cap = 2 := by omega
                obtain rfl : n = 2 := by omega
                have HSL := Kp.mk (show ∀ W, Below wo.heap.size wo W → Kp (SlB W (some ⟨b, off, none⟩) 0 0 (l.drop (1 + 1))) from fun W hb => ⟨by rw [List.drop_of_length_le (by rw [HL.out]; omega)]; exact slb_nil⟩)
                go_wp2
                refine region_later (by kernel_rfl) (by kernel_rfl) ?_
                iterate 17 (go_big_quiet_step (fail))
                refine wpQuiet_nil ?_
                rintro w' ⟨xl, rfl⟩
                have HB6 := Kp.mk (HBL.out.trans (xl.le.mono HBL.out.size))
                clear lcx cx
                go_wp2
                refine bodyPost_ret (v := .tuple #[.int .i64 nv, .slice (some ⟨b, off, none⟩) 0 0, .bool true]) (by simp [results, Tryz.results63, go_sem]) rfl ?_
                exact ⟨HB6.out, .inl ⟨nv, _, _, _, _, rfl, HOK, HSL.out xl.val HB6.out, ⟨rfl⟩⟩⟩
              · have HSL := Kp.mk (show ∀ W, Below wo.heap.size wo W → Kp (SlB W (some ⟨b, off + 2, none⟩) (n - 2) (cap - 2) (l.drop (1 + 1))) from fun W hb => ⟨SlB.below HDR.out hb⟩)
                have hn1 : 2 ≤ n := by omega
                go_wp2
                refine region_later (by kernel_rfl) (by kernel_rfl) ?_
                iterate 17 (go_big_quiet_step (fail))
                refine wpQuiet_nil ?_
                rintro w' ⟨xl, rfl⟩
                have HB6 := Kp.mk (HBL.out.trans (xl.le.mono HBL.out.size))
                clear lcx cx
                go_wp2
                refine bodyPost_ret (v := .tuple #[.int .i64 nv, .slice (some ⟨b, off + 2, none⟩) (n - 2) (cap - 2), .bool true]) (by simp [results, Tryz.results63, go_sem]) rfl ?_
                exact ⟨HB6.out, .inl ⟨nv, _, _, _, _, rfl, HOK, HSL.out xl.val HB6.out, ⟨rfl⟩⟩⟩
            · have t0 : decide ((0 : Int) < x) = false := decide_eq_false (by omega)
              have HOK := Kp.mk (HBD.out hs (by omega))
              rcases hcc with hcc | hcc
              · obtain rfl : cap = 2 := by omega
                obtain rfl : n = 2 := by omega
                go_wp2
                refine region_later (by kernel_rfl) (by kernel_rfl) ?_
                iterate 17 (go_big_quiet_step (fail))
                refine wpQuiet_nil ?_
                rintro w' ⟨xl, rfl⟩
                have HB6 := Kp.mk (HBL.out.trans (xl.le.mono HBL.out.size))
                clear lcx cx
                go_wp2
                refine bodyPost_ret (v := .tuple #[.int .i64 nv, .slice (some ⟨b, off, none⟩) 0 0, .bool false]) (by simp [results, Tryz.results63, go_sem]) rfl ?_
                exact ⟨HB6.out, .inr ⟨nv, _, _, _, rfl, HOK⟩⟩
              · have hn1 : 2 ≤ n := by omega
                go_wp2
                refine region_later (by kernel_rfl) (by kernel_rfl) ?_
                iterate 17 (go_big_quiet_step (fail))
                refine wpQuiet_nil ?_
                rintro w' ⟨xl, rfl⟩
                have HB6 := Kp.mk (HBL.out.trans (xl.le.mono HBL.out.size))
                clear lcx cx
                go_wp2
                refine bodyPost_ret (v := .tuple #[.int .i64 nv, .slice (some ⟨b, off + 2, none⟩) (n - 2) (cap - 2), .bool false]) (by simp [results, Tryz.results63, go_sem]) rfl ?_
                exact ⟨HB6.out, .inr ⟨nv, _, _, _, rfl, HOK⟩⟩
          · have ts : decide ((x : Int) < 128) = false := decide_eq_false (by omega)
            have HG2 := Kp.mk (HON.out hs)
            go_wp2
            go_roundw
            case rel => exact ⟨2, nv, by omega, by omega, by first | rfl | go_num, rfl, hnl, HG2, HBL⟩
            case measure => simp [intOf]
        · have e2 : bits BinOp.or IntKind.i64 (acc : Int) ((x : Int) % 128 * 16384) = (nv : Int) := by
            have h1 := i64_or_nat acc (x % 128 * 16384) (by omega) (by omega)
            have e : 2 ^ (7 * 2) = 16384 := by decide
            rw [e] at hor
            rw [hor.out] at h1
            rw [← h1]
            congr 1
            try omega
          skip
          clear hor
          by_cases hs : x < 128
          · have ts : decide ((x : Int) < 128) = true := decide_eq_true (by omega)
            have lcx := later_cell cx
            by_cases hx0 : 0 < x
            · have t0 : decide ((0 : Int) < x) = true := decide_eq_true (by omega)
              have HOK := Kp.mk (show getL l = some (nv, l.drop (2 + 1)) from by rw [HST.out hs (.inr hx0)]; rw [HNV.out, Nat.mod_eq_of_lt hs])
              rcases hcc with hcc | hcc
              · obtain rfl : cap = 3 := by omega
                obtain rfl : n = 3 := by omega
                have HSL := Kp.mk (show ∀ W, Below wo.heap.size wo W → Kp (SlB W (some ⟨b, off, none⟩) 0 0 (l.drop (2 + 1))) from fun W hb => ⟨by rw [List.drop_of_length_le (by rw [HL.out]; omega)]; exact slb_nil⟩)
                go_wp2
                refine region_later (by kernel_rfl) (by kernel_rfl) ?_
                iterate 17 (go_big_quiet_step (fail))
                refine wpQuiet_nil ?_
                rintro w' ⟨xl, rfl⟩
                have HB6 := Kp.mk (HBL.out.trans (xl.le.mono HBL.out.size))
                clear lcx cx
                go_wp2
                refine bodyPost_ret (v := .tuple #[.int .i64 nv, .slice (some ⟨b, off, none⟩) 0 0, .bool true]) (by simp [results, Tryz.results63, go_sem]) rfl ?_
                exact ⟨HB6.out, .inl ⟨nv, _, _, _, _, rfl, HOK, HSL.out xl.val HB6.out, ⟨rfl⟩⟩⟩
              · have HSL := Kp.mk (show ∀ W, Below wo.heap.size wo W → Kp (SlB W (some ⟨b, off + 3, none⟩) (n - 3) (cap - 3) (l.drop (2 + 1))) from fun W hb => ⟨SlB.below HDR.out hb⟩)
                have hn1 : 3 ≤ n := by omega
                go_wp2
                refine region_later (by kernel_rfl) (by kernel_rfl) ?_
                iterate 17 (go_big_quiet_step (fail))
                refine wpQuiet_nil ?_
                rintro w' ⟨xl, rfl⟩
                have HB6 := Kp.mk (HBL.out.trans (xl.le.mono HBL.out.size))
                clear lcx cx
                go_wp2
                refine bodyPost_ret (v := .tuple #[.int .i64 nv, .slice (some ⟨b, off + 3, none⟩) (n - 3) (cap - 3), .bool true]) (by simp [results, Tryz.results63, go_sem]) rfl ?_
                exact ⟨HB6.out, .inl ⟨nv, _, _, _, _, rfl, HOK, HSL.out xl.val HB6.out, ⟨rfl⟩⟩⟩
            · have t0 : decide ((0 : Int) < x) = false := decide_eq_false (by omega)
              have HOK := Kp.mk (HBD.out hs (by omega))
              rcases hcc with hcc | hcc
              · obtain rfl : cap = 3 := by omega
                obtain rfl : n = 3 := by omega
                go_wp2
                refine region_later (by kernel_rfl) (by kernel_rfl) ?_
                iterate 17 (go_big_quiet_step (fail))
                refine wpQuiet_nil ?_
                rintro w' ⟨xl, rfl⟩
                have HB6 := Kp.mk (HBL.out.trans (xl.le.mono HBL.out.size))
                clear lcx cx
                go_wp2
                refine bodyPost_ret (v := .tuple #[.int .i64 nv, .slice (some ⟨b, off, none⟩) 0 0, .bool false]) (by simp [results, Tryz.results63, go_sem]) rfl ?_
                exact ⟨HB6.out, .inr ⟨nv, _, _, _, rfl, HOK⟩⟩
              · have hn1 : 3 ≤ n := by omega
                go_wp2
                refine region_later (by kernel_rfl) (by kernel_rfl) ?_
                iterate 17 (go_big_quiet_step (fail))
                refine wpQuiet_nil ?_
                rintro w' ⟨xl, rfl⟩
                have HB6 := Kp.mk (HBL.out.trans (xl.le.mono HBL.out.size))
                clear lcx cx
                go_wp2
                refine bodyPost_ret (v := .tuple #[.int .i64 nv, .slice (some ⟨b, off + 3, none⟩) (n - 3) (cap - 3), .bool false]) (by simp [results, Tryz.results63, go_sem]) rfl ?_
                exact ⟨HB6.out, .inr ⟨nv, _, _, _, rfl, HOK⟩⟩
          · have ts : decide ((x : Int) < 128) = false := decide_eq_false (by omega)
            have HG2 := Kp.mk (HON.out hs)
            go_wp2
            go_roundw
            case rel => exact ⟨3, nv, by omega, by omega, by first | rfl | go_num, rfl, hnl, HG2, HBL⟩
            case measure => simp [intOf]
        · have e2 : bits BinOp.or IntKind.i64 (acc : Int) ((x : Int) % 128 * 2097152) = (nv : Int) := by
            have h1 := i64_or_nat acc (x % 128 * 2097152) (by omega) (by omega)
            have e : 2 ^ (7 * 3) = 2097152 := by decide
            rw [e] at hor
            rw [hor.out] at h1
            rw [← h1]
            congr 1
            try omega
          skip
          clear hor
          by_cases hs : x < 128
          · have ts : decide ((x : Int) < 128) = true := decide_eq_true (by omega)
            have lcx := later_cell cx
            by_cases hx0 : 0 < x
            · have t0 : decide ((0 : Int) < x) = true := decide_eq_true (by omega)
              have HOK := Kp.mk (show getL l = some (nv, l.drop (3 + 1)) from by rw [HST.out hs (.inr hx0)]; rw [HNV.out, Nat.mod_eq_of_lt hs])
              rcases hcc with hcc | hcc
              · obtain rfl : cap = 4 := by omega
                obtain rfl : n = 4 := by omega
                have HSL := Kp.mk (show ∀ W, Below wo.heap.size wo W → Kp (SlB W (some ⟨b, off, none⟩) 0 0 (l.drop (3 + 1))) from fun W hb => ⟨by rw [List.drop_of_length_le (by rw [HL.out]; omega)]; exact slb_nil⟩)
                go_wp2
                refine region_later (by kernel_rfl) (by kernel_rfl) ?_
                iterate 17 (go_big_quiet_step (fail))
                refine wpQuiet_nil ?_
                rintro w' ⟨xl, rfl⟩
                have HB6 := Kp.mk (HBL.out.trans (xl.le.mono HBL.out.size))
                clear lcx cx
                go_wp2
                refine bodyPost_ret (v := .tuple #[.int .i64 nv, .slice (some ⟨b, off, none⟩) 0 0, .bool true]) (by simp [results, Tryz.results63, go_sem]) rfl ?_
                exact ⟨HB6.out, .inl ⟨nv, _, _, _, _, rfl, HOK, HSL.out xl.val HB6.out, ⟨rfl⟩⟩⟩
              · have HSL := Kp.mk (show ∀ W, Below wo.heap.size wo W → Kp (SlB W (some ⟨b, off + 4, none⟩) (n - 4) (cap - 4) (l.drop (3 + 1))) from fun W hb => ⟨SlB.below HDR.out hb⟩)
                have hn1 : 4 ≤ n := by omega
                go_wp2
                refine region_later (by kernel_rfl) (by kernel_rfl) ?_
                iterate 17 (go_big_quiet_step (fail))
                refine wpQuiet_nil ?_
                rintro w' ⟨xl, rfl⟩
                have HB6 := Kp.mk (HBL.out.trans (xl.le.mono HBL.out.size))
                clear lcx cx
                go_wp2
                refine bodyPost_ret (v := .tuple #[.int .i64 nv, .slice (some ⟨b, off + 4, none⟩) (n - 4) (cap - 4), .bool true]) (by simp [results, Tryz.results63, go_sem]) rfl ?_
                exact ⟨HB6.out, .inl ⟨nv, _, _, _, _, rfl, HOK, HSL.out xl.val HB6.out, ⟨rfl⟩⟩⟩
            · have t0 : decide ((0 : Int) < x) = false := decide_eq_false (by omega)
              have HOK := Kp.mk (HBD.out hs (by omega))
              rcases hcc with hcc | hcc
              · obtain rfl : cap = 4 := by omega
                obtain rfl : n = 4 := by omega
                go_wp2
                refine region_later (by kernel_rfl) (by kernel_rfl) ?_
                iterate 17 (go_big_quiet_step (fail))
                refine wpQuiet_nil ?_
                rintro w' ⟨xl, rfl⟩
                have HB6 := Kp.mk (HBL.out.trans (xl.le.mono HBL.out.size))
                clear lcx cx
                go_wp2
                refine bodyPost_ret (v := .tuple #[.int .i64 nv, .slice (some ⟨b, off, none⟩) 0 0, .bool false]) (by simp [results, Tryz.results63, go_sem]) rfl ?_
                exact ⟨HB6.out, .inr ⟨nv, _, _, _, rfl, HOK⟩⟩
              · have hn1 : 4 ≤ n := by omega
                go_wp2
                refine region_later (by kernel_rfl) (by kernel_rfl) ?_
                iterate 17 (go_big_quiet_step (fail))
                refine wpQuiet_nil ?_
                rintro w' ⟨xl, rfl⟩
                have HB6 := Kp.mk (HBL.out.trans (xl.le.mono HBL.out.size))
                clear lcx cx
                go_wp2
                refine bodyPost_ret (v := .tuple #[.int .i64 nv, .slice (some ⟨b, off + 4, none⟩) (n - 4) (cap - 4), .bool false]) (by simp [results, Tryz.results63, go_sem]) rfl ?_
                exact ⟨HB6.out, .inr ⟨nv, _, _, _, rfl, HOK⟩⟩
          · have ts : decide ((x : Int) < 128) = false := decide_eq_false (by omega)
            have HG2 := Kp.mk (HON.out hs)
            go_wp2
            go_roundw
            case rel => exact ⟨4, nv, by omega, by omega, by first | rfl | go_num, rfl, hnl, HG2, HBL⟩
            case measure => simp [intOf]
      · have hk4' : k = 4 := by omega
        subst hk4'
        have HN := Kp.mk (show getL l = none from by rw [HG.out]; exact getR_none _ _ _)
        go_wp2
        refine bodyPost_ret (v := .tuple #[.int .i64 0, .slice none 0 0, .bool false]) (by simp [results, Tryz.results63, go_sem]) rfl ?_
        exact ⟨HBL.out, .inr ⟨0, none, 0, 0, rfl, HN⟩⟩
    · obtain rfl : k = n := by omega
      have HN := Kp.mk (show getL l = none from by rw [HG.out, List.drop_of_length_le (by rw [HL.out]; exact Nat.le_refl _)]; exact getR_nil _ _ _)
      go_wp2
      refine bodyPost_ret (v := .tuple #[.int .i64 0, .slice none 0 0, .bool false]) (by simp [results, Tryz.results63, go_sem]) rfl ?_
      exact ⟨HBL.out, .inr ⟨0, none, 0, 0, rfl, HN⟩⟩

end Go.Proofs.YteeeikninigeoaaGreatDoor

/- Package image: the walk of points. -/
namespace Go.Proofs.YteeeikninigeoaaGreatDoor
set_option linter.unusedVariables false
open Go.RowKit

set_option maxHeartbeats 2000000 in
theorem eqb_any (a b : Option Addr) (n c c' : Nat) (l l' : List Nat) (w : World) (h : SlB w a n c l) (h' : SlB w b n c' l') (hn : n ≤ 1000000) :
    Calls Tryz.prog 62 #[.slice a n c, .slice b n c'] w fun e w' => e = .returned (.bool (decide (l = l'))) ∧ Below w.heap.size w w' := by
  have H := Kp.mk h
  have H' := Kp.mk h'
  have HL := Kp.mk h.len
  have HL' := Kp.mk h'.len
  obtain ⟨r, hr⟩ : ∃ r, r = decide (l = l') := ⟨_, rfl⟩
  rw [← hr]
  have HR := Kp.mk hr
  clear h h' hr
  obtain ⟨wo, rfl⟩ : ∃ wo : World, wo = w := ⟨_, rfl⟩
  go_enter Tryz.func62, Tryz.ntmps62
  go_wp2
  go_loopw [13] (fun i wr => ∃ k : Nat, k ≤ n ∧ i = .int .i64 k ∧ Kp (l.take k = l'.take k) ∧ Kp (Below wo.heap.size wo wr)) (fun i _ => n - (intOf i).toNat)
  case atStart => exact ⟨0, Nat.zero_le _, rfl, ⟨by simp⟩, ⟨Below.refl _ _⟩⟩
  case round =>
    obtain ⟨k, hk, rfl, HT, HB⟩ := hrel
    by_cases hlt : k < n
    · obtain ⟨b1, o1, rfl, c1⟩ := byte_cell (SlB.below H.out HB.out) k hlt
      obtain ⟨b2, o2, rfl, c2⟩ := byte_cell (SlB.below H'.out HB.out) k hlt
      have HE := Kp.mk (show l.getD k 0 = l'.getD k 0 → l.take (k + 1) = l'.take (k + 1) from fun e => by
        rw [List.take_succ_eq_append_getElem (by rw [HL.out]; exact hlt), List.take_succ_eq_append_getElem (by rw [HL'.out]; exact hlt), HT.out, ← getD_at l 0 (by rw [HL.out]; exact hlt), ← getD_at l' 0 (by rw [HL'.out]; exact hlt), e])
      have HNE := Kp.mk (show l.getD k 0 ≠ l'.getD k 0 → r = false from fun e => by rw [HR.out]; exact decide_eq_false (fun e' => e (by rw [e'])))
      generalize l.getD k 0 = x at *
      generalize l'.getD k 0 = y at *
      have l1 := later_cell c1
      have l2 := later_cell c2
      by_cases hxy : x = y
      · have HE2 := Kp.mk (HE.out hxy)
        have tx : ((x : Int) != (y : Int)) = false := by simp [hxy]
        clear HE HNE hxy
        go_wp2
        refine region_later (by kernel_rfl) (by kernel_rfl) ?_
        iterate 9 (go_big_quiet_step (fail))
        refine wpQuiet_nil ?_
        rintro w' ⟨xl, rfl⟩
        have HB6 := Kp.mk (HB.out.trans (xl.le.mono HB.out.size))
        clear l1 l2 c1 c2
        go_wp2
        go_roundw
        case rel => exact ⟨k + 1, by omega, by go_num, HE2, HB6⟩
        case measure => simp [intOf]; omega
      · have hF := HNE.out hxy
        have tx : ((x : Int) != (y : Int)) = true := by simp; omega
        clear HE HNE hxy HR
        subst hF
        go_wp2
        refine region_later (by kernel_rfl) (by kernel_rfl) ?_
        iterate 9 (go_big_quiet_step (fail))
        refine wpQuiet_nil ?_
        rintro w' ⟨xl, rfl⟩
        have HB6 := Kp.mk (HB.out.trans (xl.le.mono HB.out.size))
        clear l1 l2 c1 c2
        go_wp2
        go_ret
        exact ⟨rfl, HB6.out⟩
    · obtain rfl : k = n := by omega
      have hT : r = true := by
        rw [HR.out]
        refine decide_eq_true ?_
        have := HT.out
        rwa [List.take_of_length_le (by rw [HL.out]; exact Nat.le_refl _), List.take_of_length_le (by rw [HL'.out]; exact Nat.le_refl _)] at this
      clear HR
      subst hT
      go_wp2
      go_ret
      exact ⟨rfl, HB.out⟩

/-- What comes behind numbers that were read. -/
def contL (xs : List Nat) (o : Option (List Nat × List Nat)) : Option (List Nat × List Nat) := o.map fun p => (xs ++ p.1, p.2)
theorem contL_nil (o : Option (List Nat × List Nat)) : contL [] o = o := by cases o <;> simp [contL]
theorem contL_step {xs : List Nat} {m v : Nat} {r r1 : List Nat} (h : getL r = some (v, r1)) : contL xs (numsL (m + 1) r) = contL (xs ++ [v]) (numsL m r1) := by
  simp only [numsL, h]
  cases numsL m r1 with
  | none => rfl
  | some p => obtain ⟨l, r'⟩ := p; simp [contL]
theorem contL_none {xs : List Nat} {m : Nat} {r : List Nat} (h : getL r = none) : contL xs (numsL (m + 1) r) = none := by
  rw [numsL, h]; rfl
theorem contL_end (xs r : List Nat) : contL xs (numsL 0 r) = some (xs, r) := by simp [numsL, contL]
attribute [irreducible] contL
/-- The cells of points of which the first numbers are read. -/
def outC (xs : List Nat) (c : Nat) : List Value := ints (xs.map unfN) ++ List.replicate (3 * c - xs.length) (.int .i64 0)
theorem outC_length (xs : List Nat) (c : Nat) (h : xs.length ≤ 3 * c) : (outC xs c).length = 3 * c := by simp [outC, ints]; omega
theorem outC_nil (c : Nat) : outC [] c = List.replicate (3 * c) (.int .i64 0) := by simp [outC, ints]
theorem outC_set (xs : List Nat) (c v : Nat) (h : xs.length < 3 * c) : (outC xs c).set xs.length (.int .i64 (unfN v)) = outC (xs ++ [v]) c := by
  unfold outC
  rw [List.set_append_right _ _ (by simp [ints])]
  simp only [ints, List.length_map, Nat.sub_self, List.map_append, List.length_append, List.length_singleton, List.append_assoc]
  congr 1
  obtain ⟨d, hd⟩ : ∃ d, 3 * c - xs.length = d + 1 := ⟨3 * c - xs.length - 1, by omega⟩
  rw [hd, show 3 * c - (xs.length + 1) = d by omega, List.replicate_succ]
  simp
theorem outC_end (xs : List Nat) (c : Nat) (h : xs.length = 3 * c) : outC xs c = ints (xs.map unfN) := by simp [outC, h]
theorem outC_at (xs : List Nat) (c i : Nat) (h : xs.length ≤ i) (hi : i < 3 * c) : (outC xs c)[i]? = some (.int .i64 0) := by
  unfold outC
  rw [List.getElem?_append_right (by simp [ints]; exact h)]
  rw [List.getElem?_replicate, if_pos (by simp [ints]; omega)]
attribute [irreducible] outC

theorem made3 (c : Nat) : (madeCells (Value.agg #[.int .i64 0, .int .i64 0, .int .i64 0]).cells (c * 3)).toList = List.replicate (3 * c) (.int .i64 0) := by
  apply List.ext_getElem
  · simp [madeCells]; omega
  · intro i h1 h2
    simp only [madeCells, Array.toList_map, List.getElem_map, Array.toList_range, List.getElem_range, List.getElem_replicate]
    show (#[Value.int .i64 0, .int .i64 0, .int .i64 0] : Array Value)[i % 3]! = _
    have : i % 3 = 0 ∨ i % 3 = 1 ∨ i % 3 = 2 := by omega
    rcases this with e | e | e <;> rw [e] <;> rfl

set_option maxRecDepth 100000 in
set_option maxHeartbeats 8000000 in
theorem imgPoints_any (a : Option Addr) (n cap : Nat) (l : List Nat) (w : World) (h : SlB w a n cap l) (hb : ∀ x ∈ l, x < 256) (h5 : 5 ≤ n) :
    Calls Tryz.prog 35 #[.slice a n cap] w fun e w' => Below w.heap.size w w' ∧ ((∃ (ra : Option Addr) (c rc : Nat) (xs : List Nat), e = .returned (.tuple #[.slice ra c rc, .bool true]) ∧ c ≤ 150 ∧ Kp (parseL l = some (xs, [])) ∧ Kp (xs.length = 3 * c) ∧ Kp (w'.ownsRow w.heap.size 63 3 (.slice ra c rc) c (ints (xs.map unfN)))) ∨ (∃ (ra : Option Addr) (rn rc : Nat), e = .returned (.tuple #[.slice ra rn rc, .bool false]) ∧ Kp (∀ xs, parseL l ≠ some (xs, [])))) := by
  obtain ⟨b, off, rfl, _⟩ := byte_cell h 0 (by omega)
  have h4 : 4 ≤ n := by omega
  have H := Kp.mk h
  have HBLT := Kp.mk (show b < w.heap.size from SlC.blt h (by rw [byts_length, h.len]; omega))
  have HB := Kp.mk hb
  have hcap : n ≤ cap := SlC.le h
  have H4 := Kp.mk (show SlB w (some ⟨b, off, none⟩) 4 cap (l.take 4) from by
    have := SlC.front h h4
    rw [Nat.mul_one, byts_take] at this; exact this)
  have kc : (convert 49 49 (.slice (some ⟨w.heap.size, 0, none⟩) 4 4)).run Tryz.prog (w.alloc (.cells #[.int .u8 68, .int .u8 65, .int .u8 77, .int .u8 49] 5)) = .ok (.slice (some ⟨w.heap.size, 0, none⟩) 4 4) (w.alloc (.cells #[.int .u8 68, .int .u8 65, .int .u8 77, .int .u8 49] 5 (4, 5))) :=
    Lib.run_convert_bytes_const (P := Tryz.prog) w 49 5 #[.int .u8 68, .int .u8 65, .int .u8 77, .int .u8 49] 4 4 Tryz.underlying49 Tryz.underlying5
  have hbC : Below w.heap.size w (w.alloc (.cells #[.int .u8 68, .int .u8 65, .int .u8 77, .int .u8 49] 5 (4, 5))) := below_alloc (Nat.le_refl _) _
  have s0 : SlB (w.alloc (.cells #[.int .u8 68, .int .u8 65, .int .u8 77, .int .u8 49] 5 (4, 5))) (some ⟨w.heap.size, 0, none⟩) 4 4 headL := by
    refine ⟨rfl, Nat.le_refl _, by decide, (fun h => by cases h), fun i hi => ⟨w.heap.size, 0, rfl, ?_⟩⟩
    rw [Nat.zero_add, World.cell?_alloc_mark]
    have hi9 : i < 4 := hi
    match i, hi9 with
    | 0, _ => rfl | 1, _ => rfl | 2, _ => rfl | 3, _ => rfl
  have CE := Kp.mk (eqb_any _ _ 4 cap 4 (l.take 4) headL _ (SlB.below H4.out hbC) s0 (by omega))
  have HBC := Kp.mk hbC
  have HPH := Kp.mk (show ¬ l.take 4 = headL → ∀ xs, parseL l ≠ some (xs, []) from fun hne xs e => by unfold parseL at e; rw [if_neg hne] at e; cases e)
  have HPN := Kp.mk (show l.take 4 = headL → getL (l.drop 4) = none → ∀ xs, parseL l ≠ some (xs, []) from fun he hg xs e => by unfold parseL at e; rw [if_pos he, hg] at e; cases e)
  have HPC := Kp.mk (show l.take 4 = headL → ∀ c r, getL (l.drop 4) = some (c, r) → ¬ c ≤ 150 → ∀ xs, parseL l ≠ some (xs, []) from fun he c r hg hc xs e => by unfold parseL at e; rw [if_pos he, hg] at e; simp only [if_neg hc] at e; cases e)
  have HPG := Kp.mk (show l.take 4 = headL → ∀ c r, getL (l.drop 4) = some (c, r) → c ≤ 150 → parseL l = numsL (3 * c) r from fun he c r hg hc => by unfold parseL; rw [if_pos he, hg]; simp only [if_pos hc])
  have HD4 := Kp.mk (SlB.drop h h4)
  have HBD := Kp.mk (show ∀ x ∈ l.drop 4, x < 256 from fun x hx => hb x (List.mem_of_mem_drop hx))
  clear h hb s0 hbC
  go_enter Tryz.func35, Tryz.ntmps35
  by_cases hhd : l.take 4 = headL
  · rw [decide_eq_true hhd] at CE
    clear HPH
    have HPN := Kp.mk (HPN.out hhd)
    have HPC := Kp.mk (HPC.out hhd)
    have HPG := Kp.mk (HPG.out hhd)
    clear hhd
    go_wp2_with fail
    refine CE.out.mono ?_
    rintro e w1 ⟨rfl, hb1⟩
    have HB1 := Kp.mk (below_step HBC.out hb1)
    clear CE kc hb1
    generalize l.drop 4 = l4 at *
    have hc5 : 4 < cap := by omega
    have CG := Kp.mk (get_any _ _ _ l4 w1 (SlB.below HD4.out HB1.out) HBD.out)
    go_wp2_with fail
    refine CG.out.mono ?_
    rintro e w2 ⟨hb2, ⟨c, ra, rn, rc, r, rfl, HG, HS, HKB⟩ | ⟨c, ra, rn, rc, rfl, HG⟩⟩
    · have HB2 := Kp.mk (below_step HB1.out hb2)
      clear CG hb2
      by_cases hc : c ≤ 150
      · have HPG := Kp.mk (HPG.out c r HG.out hc)
        have HR := Kp.mk (getL_inv HBD.out HG.out)
        have HRB := Kp.mk (show ∀ x ∈ r, x < 256 from fun x hx => HBD.out x (by rw [HR.out.1]; simp [hx]))
        clear HPN HPC HG HR
        obtain ⟨B, hB⟩ : ∃ B, B = w2.heap.size := ⟨_, rfl⟩
        have HBE := Kp.mk hB
        have hBle : B ≤ w2.heap.size := by omega
        clear hB
        have tc : decide ((150 : Int) < c) = false := decide_eq_false (by omega)
        go_wp2_with (at_make; refine wpList_mk tPts rfl _ _ rfl B c rfl rfl ?m1 (by decide) hBle ?m2)
        case m1 => omega
        case m2 =>
          intro oa oc w3 ho3 hb3
          have HO3 := Kp.mk (show w3.ownsRow B 63 3 (.slice oa c oc) c (outC [] c) from by
            rw [outC_nil]
            rw [← made3]; exact ho3)
          have HB3 := Kp.mk (below_step HB2.out (by rw [← HBE.out]; exact hb3))
          have HS3 := Kp.mk (SlB.below HS.out (by rw [← HBE.out]; exact hb3))
          have HB3le : w.heap.size ≤ B := by rw [HBE.out]; exact HB2.out.size
          have hb3' : B ≤ w3.heap.size := Nat.le_trans hBle hb3.size
          clear ho3 hb3 HS HB2 HB1 HD4 HBD H4 HBC H
          obtain ⟨wo, rfl⟩ : ∃ wo : World, wo = w3 := ⟨_, rfl⟩
          go_wp2
          go_loopw [5, 37] (fun s i wr => ∃ (k : Nat) (ra : Option Addr) (rn rc : Nat) (r xs : List Nat), k ≤ c ∧ i = .int .i64 k ∧ s = .slice ra rn rc ∧ Kp (SlB wr ra rn rc r) ∧ Kp (blk ra = some b) ∧ Kp (∀ x ∈ r, x < 256) ∧ Kp (xs.length = 3 * k) ∧ Kp (parseL l = contL xs (numsL (3 * c - 3 * k) r)) ∧ Kp (wr.ownsRow B 63 3 (.slice oa c oc) c (outC xs c)) ∧ Kp (Below w.heap.size w wr)) (fun _ i _ => c - (intOf i).toNat)
          case atStart => exact ⟨0, ra, rn, rc, r, [], Nat.zero_le _, rfl, rfl, HS3, HKB, HRB, ⟨rfl⟩, ⟨by rw [contL_nil]; exact HPG.out⟩, HO3, HB3⟩
          case round =>
            clear HPG HRB HS3 HO3 HB3 HKB
            obtain ⟨k, ra, rn, rc, r, xs, hk, rfl, rfl, HS, HKB, HRB, HXL, HPG, HO, HBW⟩ := hrel
            by_cases hlt : k < c
            · obtain ⟨g, rfl, hg1, hg2⟩ := own_some HO.out (by omega)
              go_wp2
              go_region_held3 (fun _ => True) (first | trivial | go_keep) (fail)
              have HBX := Kp.mk (Box.new wr #[.pointer (some ⟨g, k * 3, none⟩), .pointer (some ⟨g, k * 3 + 1, none⟩), .pointer (some ⟨g, k * 3 + 2, none⟩)] 121)
              have hba : Below wr.heap.size wr (wr.alloc (.cells #[.pointer (some ⟨g, k * 3, none⟩), .pointer (some ⟨g, k * 3 + 1, none⟩), .pointer (some ⟨g, k * 3 + 2, none⟩)] 121)) := below_alloc (Nat.le_refl _) _
              have HS5 := Kp.mk (SlB.below HS.out hba.drew)
              have HO5 := Kp.mk (own_below HO.out hba.drew)
              have HB5 := Kp.mk (below_step HBW.out hba.drew)
              have HBX5 := Kp.mk (show Box (wr.alloc (.cells #[.pointer (some ⟨g, k * 3, none⟩), .pointer (some ⟨g, k * 3 + 1, none⟩), .pointer (some ⟨g, k * 3 + 2, none⟩)] 121)).drew wr.heap.size #[.pointer (some ⟨g, k * 3, none⟩), .pointer (some ⟨g, k * 3 + 1, none⟩), .pointer (some ⟨g, k * 3 + 2, none⟩)] 121 from HBX.out)
              have hgne : g ≠ wr.heap.size := by omega
              have hwb : w.heap.size ≤ g := by have := HB3le; omega
              clear HBX hba HS HO HBW
              generalize (wr.alloc (.cells #[.pointer (some ⟨g, k * 3, none⟩), .pointer (some ⟨g, k * 3 + 1, none⟩), .pointer (some ⟨g, k * 3 + 2, none⟩)] 121)).drew = wp at *
              generalize wr.heap.size = pb at *
              have hk3 : 3 * k + 3 ≤ 3 * c := by omega
              go_wp2
              go_loopw [5, 54] (fun s i wr => ∃ (j : Nat) (ra : Option Addr) (rn rc : Nat) (r xs : List Nat), j ≤ 3 ∧ i = .int .i64 j ∧ s = .slice ra rn rc ∧ Kp (SlB wr ra rn rc r) ∧ Kp (blk ra = some b) ∧ Kp (∀ x ∈ r, x < 256) ∧ Kp (xs.length = 3 * k + j) ∧ Kp (parseL l = contL xs (numsL (3 * c - (3 * k + j)) r)) ∧ Kp (wr.ownsRow B 63 3 (.slice (some ⟨g, 0, none⟩) c oc) c (outC xs c)) ∧ Kp (Below w.heap.size w wr) ∧ Kp (Box wr pb #[.pointer (some ⟨g, k * 3, none⟩), .pointer (some ⟨g, k * 3 + 1, none⟩), .pointer (some ⟨g, k * 3 + 2, none⟩)] 121)) (fun _ i _ => 3 - (intOf i).toNat)
              case atStart => exact ⟨0, ra, rn, rc, r, xs, by omega, rfl, rfl, HS5, HKB, HRB, ⟨by rw [HXL.out]; rfl⟩, HPG, HO5, HB5, HBX5⟩
              case round =>
                clear HS5 HKB HRB HXL HPG HO5 HB5 HBX5
                obtain ⟨j, ra, rn, rc, r, xs, hj, rfl, rfl, HS, HKB, HRB, HXL, HPG, HO, HBW, HBX⟩ := hrel
                by_cases hlt3 : j < 3
                · have CG := Kp.mk (get_any ra rn rc r wr HS.out HRB.out)
                  have hNE := Kp.mk (show 3 * c - (3 * k + j) = (3 * c - (3 * k + j + 1)) + 1 by omega)
                  rcases (show j = 0 ∨ j = 1 ∨ j = 2 by omega) with rfl | rfl | rfl
                  · have bx := HBX.out.cell 0 rfl
                    go_wp2_with fail
                    refine CG.out.mono ?_
                    rintro e w5 ⟨hb5, ⟨v, ta, tn, tc', r', rfl, HG, HS', HK'⟩ | ⟨v, ta, tn, tc', rfl, HG⟩⟩
                    · have hv := Kp.mk (getL_inv HRB.out HG.out)
                      have HO5 := Kp.mk (own_below HO.out hb5)
                      have HB5 := Kp.mk (below_step HBW.out hb5)
                      have HBX5 := Kp.mk (HBX.out.below hb5)
                      have CU := Kp.mk (fun W => unfold_any v W hv.out.2)
                      have HP5 := Kp.mk (show parseL l = contL (xs ++ [v]) (numsL (3 * c - (3 * k + 0 + 1)) r') from by rw [HPG.out, hNE.out]; exact contL_step HG.out)
                      have HRB5 := Kp.mk (show ∀ x ∈ r', x < 256 from fun x hx => HRB.out x (by rw [hv.out.1]; simp [hx]))
                      have cg : w5.cell? ⟨g, k * 3, none⟩ = some (.int .i64 0) := by
                        rw [HO5.out.cellAt (k * 3) (by omega), outC_at xs c _ (by rw [HXL.out]; omega) (by omega)]
                      have fg := HO5.out.frozenAt (k * 3)
                      have HO6 := Kp.mk (show (w5.setCell ⟨g, k * 3, none⟩ (.int .i64 (unfN v))).ownsRow B 63 3 (.slice (some ⟨g, 0, none⟩) c oc) c (outC (xs ++ [v]) c) from by
                        rw [← outC_set xs c v (by rw [HXL.out]; omega), HXL.out, show 3 * k + 0 = k * 3 by omega]
                        exact (HO5.out.stored (k * 3) (.int .i64 (unfN v))).1)
                      have HK6 := Kp.mk (show blk ta = some b from by rw [HK'.out, HKB.out])
                      have hg6 := grown_set w5 g (k * 3) (.int .i64 (unfN v))
                      have HS6 := Kp.mk (show SlB (w5.setCell ⟨g, k * 3, none⟩ (.int .i64 (unfN v))) ta tn tc' r' from SlC.keep HS'.out hg6 (fun q hq e => by cases hq; rw [HK6.out] at e; cases e; have := HBLT.out; omega))
                      have HB6 := Kp.mk (HB5.out.trans (below_of_grown hg6 HB5.out.size (fun q hq => by cases hq; exact hwb)))
                      have HBX6 := Kp.mk (box_far (o := k * 3) (v := .int .i64 (unfN v)) HBX5.out hgne)
                      clear hg6 CG HG hv HO HO5 HB5 HBX5 HS HS' hb5
                      go_wp2_with (go_at_call 64; refine (CU.out _).mono ?_; rintro e w' ⟨rfl, rfl⟩)
                      go_roundw
                      case rel => exact ⟨1, ta, tn, tc', r', xs ++ [v], by omega, by first | rfl | go_num, rfl, HS6, HK6, HRB5, ⟨by rw [List.length_append, HXL.out]; rfl⟩, HP5, HO6, HB6, HBX6⟩
                      case measure => simp [intOf]
                    · have HB5 := Kp.mk (below_step HBW.out hb5)
                      have HP := Kp.mk (show ∀ ys, parseL l ≠ some (ys, []) from fun ys e => by
                        rw [HPG.out, hNE.out, contL_none HG.out] at e; cases e)
                      clear CG HG HO HS HPG
                      go_wp2
                      refine bodyPost_ret (v := .tuple #[.slice none 0 0, .bool false]) (by simp [results, Tryz.results35, go_sem]) rfl ?_
                      exact ⟨HB5.out, .inr ⟨none, 0, 0, rfl, HP⟩⟩
                  · have bx := HBX.out.cell 1 rfl
                    go_wp2_with fail
                    refine CG.out.mono ?_
                    rintro e w5 ⟨hb5, ⟨v, ta, tn, tc', r', rfl, HG, HS', HK'⟩ | ⟨v, ta, tn, tc', rfl, HG⟩⟩
                    · have hv := Kp.mk (getL_inv HRB.out HG.out)
                      have HO5 := Kp.mk (own_below HO.out hb5)
                      have HB5 := Kp.mk (below_step HBW.out hb5)
                      have HBX5 := Kp.mk (HBX.out.below hb5)
                      have CU := Kp.mk (fun W => unfold_any v W hv.out.2)
                      have HP5 := Kp.mk (show parseL l = contL (xs ++ [v]) (numsL (3 * c - (3 * k + 1 + 1)) r') from by rw [HPG.out, hNE.out]; exact contL_step HG.out)
                      have HRB5 := Kp.mk (show ∀ x ∈ r', x < 256 from fun x hx => HRB.out x (by rw [hv.out.1]; simp [hx]))
                      have cg : w5.cell? ⟨g, k * 3 + 1, none⟩ = some (.int .i64 0) := by
                        rw [HO5.out.cellAt (k * 3 + 1) (by omega), outC_at xs c _ (by rw [HXL.out]; omega) (by omega)]
                      have fg := HO5.out.frozenAt (k * 3 + 1)
                      have HO6 := Kp.mk (show (w5.setCell ⟨g, k * 3 + 1, none⟩ (.int .i64 (unfN v))).ownsRow B 63 3 (.slice (some ⟨g, 0, none⟩) c oc) c (outC (xs ++ [v]) c) from by
                        rw [← outC_set xs c v (by rw [HXL.out]; omega), HXL.out, show 3 * k + 1 = k * 3 + 1 by omega]
                        exact (HO5.out.stored (k * 3 + 1) (.int .i64 (unfN v))).1)
                      have HK6 := Kp.mk (show blk ta = some b from by rw [HK'.out, HKB.out])
                      have hg6 := grown_set w5 g (k * 3 + 1) (.int .i64 (unfN v))
                      have HS6 := Kp.mk (show SlB (w5.setCell ⟨g, k * 3 + 1, none⟩ (.int .i64 (unfN v))) ta tn tc' r' from SlC.keep HS'.out hg6 (fun q hq e => by cases hq; rw [HK6.out] at e; cases e; have := HBLT.out; omega))
                      have HB6 := Kp.mk (HB5.out.trans (below_of_grown hg6 HB5.out.size (fun q hq => by cases hq; exact hwb)))
                      have HBX6 := Kp.mk (box_far (o := k * 3 + 1) (v := .int .i64 (unfN v)) HBX5.out hgne)
                      clear hg6 CG HG hv HO HO5 HB5 HBX5 HS HS' hb5
                      go_wp2_with (go_at_call 64; refine (CU.out _).mono ?_; rintro e w' ⟨rfl, rfl⟩)
                      go_roundw
                      case rel => exact ⟨2, ta, tn, tc', r', xs ++ [v], by omega, by first | rfl | go_num, rfl, HS6, HK6, HRB5, ⟨by rw [List.length_append, HXL.out]; rfl⟩, HP5, HO6, HB6, HBX6⟩
                      case measure => simp [intOf]
                    · have HB5 := Kp.mk (below_step HBW.out hb5)
                      have HP := Kp.mk (show ∀ ys, parseL l ≠ some (ys, []) from fun ys e => by
                        rw [HPG.out, hNE.out, contL_none HG.out] at e; cases e)
                      clear CG HG HO HS HPG
                      go_wp2
                      refine bodyPost_ret (v := .tuple #[.slice none 0 0, .bool false]) (by simp [results, Tryz.results35, go_sem]) rfl ?_
                      exact ⟨HB5.out, .inr ⟨none, 0, 0, rfl, HP⟩⟩
                  · have bx := HBX.out.cell 2 rfl
                    go_wp2_with fail
                    refine CG.out.mono ?_
                    rintro e w5 ⟨hb5, ⟨v, ta, tn, tc', r', rfl, HG, HS', HK'⟩ | ⟨v, ta, tn, tc', rfl, HG⟩⟩
                    · have hv := Kp.mk (getL_inv HRB.out HG.out)
                      have HO5 := Kp.mk (own_below HO.out hb5)
                      have HB5 := Kp.mk (below_step HBW.out hb5)
                      have HBX5 := Kp.mk (HBX.out.below hb5)
                      have CU := Kp.mk (fun W => unfold_any v W hv.out.2)
                      have HP5 := Kp.mk (show parseL l = contL (xs ++ [v]) (numsL (3 * c - (3 * k + 2 + 1)) r') from by rw [HPG.out, hNE.out]; exact contL_step HG.out)
                      have HRB5 := Kp.mk (show ∀ x ∈ r', x < 256 from fun x hx => HRB.out x (by rw [hv.out.1]; simp [hx]))
                      have cg : w5.cell? ⟨g, k * 3 + 2, none⟩ = some (.int .i64 0) := by
                        rw [HO5.out.cellAt (k * 3 + 2) (by omega), outC_at xs c _ (by rw [HXL.out]; omega) (by omega)]
                      have fg := HO5.out.frozenAt (k * 3 + 2)
                      have HO6 := Kp.mk (show (w5.setCell ⟨g, k * 3 + 2, none⟩ (.int .i64 (unfN v))).ownsRow B 63 3 (.slice (some ⟨g, 0, none⟩) c oc) c (outC (xs ++ [v]) c) from by
                        rw [← outC_set xs c v (by rw [HXL.out]; omega), HXL.out, show 3 * k + 2 = k * 3 + 2 by omega]
                        exact (HO5.out.stored (k * 3 + 2) (.int .i64 (unfN v))).1)
                      have HK6 := Kp.mk (show blk ta = some b from by rw [HK'.out, HKB.out])
                      have hg6 := grown_set w5 g (k * 3 + 2) (.int .i64 (unfN v))
                      have HS6 := Kp.mk (show SlB (w5.setCell ⟨g, k * 3 + 2, none⟩ (.int .i64 (unfN v))) ta tn tc' r' from SlC.keep HS'.out hg6 (fun q hq e => by cases hq; rw [HK6.out] at e; cases e; have := HBLT.out; omega))
                      have HB6 := Kp.mk (HB5.out.trans (below_of_grown hg6 HB5.out.size (fun q hq => by cases hq; exact hwb)))
                      have HBX6 := Kp.mk (box_far (o := k * 3 + 2) (v := .int .i64 (unfN v)) HBX5.out hgne)
                      clear hg6 CG HG hv HO HO5 HB5 HBX5 HS HS' hb5
                      go_wp2_with (go_at_call 64; refine (CU.out _).mono ?_; rintro e w' ⟨rfl, rfl⟩)
                      go_roundw
                      case rel => exact ⟨3, ta, tn, tc', r', xs ++ [v], by omega, by first | rfl | go_num, rfl, HS6, HK6, HRB5, ⟨by rw [List.length_append, HXL.out]; rfl⟩, HP5, HO6, HB6, HBX6⟩
                      case measure => simp [intOf]
                    · have HB5 := Kp.mk (below_step HBW.out hb5)
                      have HP := Kp.mk (show ∀ ys, parseL l ≠ some (ys, []) from fun ys e => by
                        rw [HPG.out, hNE.out, contL_none HG.out] at e; cases e)
                      clear CG HG HO HS HPG
                      go_wp2
                      refine bodyPost_ret (v := .tuple #[.slice none 0 0, .bool false]) (by simp [results, Tryz.results35, go_sem]) rfl ?_
                      exact ⟨HB5.out, .inr ⟨none, 0, 0, rfl, HP⟩⟩
                · obtain rfl : j = 3 := by omega
                  have HX7 := Kp.mk (show xs.length = 3 * (k + 1) by rw [HXL.out]; omega)
                  have HP7 := Kp.mk (show parseL l = contL xs (numsL (3 * c - 3 * (k + 1)) r) from by rw [HPG.out, show 3 * (k + 1) = 3 * k + 3 by omega])
                  go_wp2
                  go_roundw
                  case rel => exact ⟨k + 1, ra, rn, rc, r, xs, by omega, by go_num, rfl, HS, HKB, HRB, HX7, HP7, HO, HBW⟩
                  case measure => simp [intOf]; omega
            · obtain rfl : k = c := by omega
              rw [Nat.sub_self, contL_end] at HPG
              have hrn := HS.out.len
              by_cases h0 : rn = 0
              · subst h0
                have hr : r = [] := List.length_eq_zero_iff.1 hrn
                rw [hr] at HPG
                have HOF := Kp.mk (show wr.ownsRow w.heap.size 63 3 (.slice oa k oc) k (ints (xs.map unfN)) from by
                  rw [← outC_end xs k HXL.out]
                  exact own_base HO.out (by have := HBE.out; have := HB3le; omega))
                clear HO HS hrn hr
                go_wp2
                refine bodyPost_ret (v := .tuple #[.slice oa k oc, .bool true]) (by simp [results, Tryz.results35, go_sem]) rfl ?_
                exact ⟨HBW.out, .inl ⟨oa, k, oc, xs, rfl, hc, HPG, HXL, HOF⟩⟩
              · have HP := Kp.mk (show ∀ ys, parseL l ≠ some (ys, []) from fun ys e => by
                  rw [HPG.out] at e
                  simp only [Option.some.injEq, Prod.mk.injEq] at e
                  rw [e.2] at hrn; exact h0 hrn.symm)
                have t0 : ((rn : Int) == 0) = false := by rw [beq_eq_false_iff_ne]; omega
                clear HO HS hrn HPG
                go_wp2
                refine bodyPost_ret (v := .tuple #[.slice oa k oc, .bool false]) (by simp [results, Tryz.results35, go_sem]) rfl ?_
                exact ⟨HBW.out, .inr ⟨oa, k, oc, rfl, HP⟩⟩
      · have tc : decide ((150 : Int) < c) = true := decide_eq_true (by omega)
        have HP := Kp.mk (HPC.out c r HG.out hc)
        go_wp2
        refine bodyPost_ret (v := .tuple #[.slice none 0 0, .bool false]) (by simp [results, Tryz.results35, go_sem]) rfl ?_
        exact ⟨HB2.out, .inr ⟨none, 0, 0, rfl, HP⟩⟩
    · have HB2 := Kp.mk (below_step HB1.out hb2)
      have HP := Kp.mk (HPN.out HG.out)
      go_wp2
      refine bodyPost_ret (v := .tuple #[.slice none 0 0, .bool false]) (by simp [results, Tryz.results35, go_sem]) rfl ?_
      exact ⟨HB2.out, .inr ⟨none, 0, 0, rfl, HP⟩⟩
  · rw [decide_eq_false hhd] at CE
    have HP := Kp.mk (HPH.out hhd)
    clear HPH HPN HPC HPG hhd
    go_wp2_with fail
    refine CE.out.mono ?_
    rintro e w1 ⟨rfl, hb1⟩
    have HB1 := Kp.mk (below_step HBC.out hb1)
    go_wp2
    refine bodyPost_ret (v := .tuple #[.slice none 0 0, .bool false]) (by simp [results, Tryz.results35, go_sem]) rfl ?_
    exact ⟨HB1.out, .inr ⟨none, 0, 0, rfl, HP⟩⟩

end Go.Proofs.YteeeikninigeoaaGreatDoor

