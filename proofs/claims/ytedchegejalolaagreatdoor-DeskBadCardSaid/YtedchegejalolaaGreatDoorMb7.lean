import Derived.Test.YtedchegejalolaaGreatDoorMb0
import Derived.Test.YtedchegejalolaaGreatDoorMb6
/- Bit operations of int on naturals. -/
namespace Go.Proofs.YtedchegejalolaaGreatDoor
set_option linter.unusedVariables false

theorem ofInt64 (a : Nat) (ha : a < 9223372036854775808) : (BitVec.ofInt 64 (a : Int)).toNat = a := by
  rw [BitVec.ofInt_natCast, BitVec.toNat_ofNat]; exact Nat.mod_eq_of_lt (by omega)
theorem i64_or_nat (a b : Nat) (ha : a < 9223372036854775808) (hb : b < 9223372036854775808) : bits BinOp.or IntKind.i64 (a : Int) (b : Int) = ((a ||| b : Nat) : Int) := by
  have hx : a ||| b < 2 ^ 63 := Nat.or_lt_two_pow (by omega) (by omega)
  show IntKind.i64.wrap ((BitVec.ofInt 64 (a : Int) ||| BitVec.ofInt 64 (b : Int)).toNat : Int) = _
  rw [BitVec.toNat_or, ofInt64 a ha, ofInt64 b hb, IntKind.wrap_i64]
  omega
theorem i64_and_nat (a b : Nat) (ha : a < 9223372036854775808) (hb : b < 9223372036854775808) : bits BinOp.and IntKind.i64 (a : Int) (b : Int) = ((a &&& b : Nat) : Int) := by
  have hx : a &&& b ≤ a := Nat.and_le_left
  show IntKind.i64.wrap ((BitVec.ofInt 64 (a : Int) &&& BitVec.ofInt 64 (b : Int)).toNat : Int) = _
  rw [BitVec.toNat_and, ofInt64 a ha, ofInt64 b hb, IntKind.wrap_i64]
  omega

end Go.Proofs.YtedchegejalolaaGreatDoor

/- Slices of bytes: rows of a call's own, what is written into them. -/
namespace Go.Proofs.YtedchegejalolaaGreatDoor
set_option linter.unusedVariables false
open Go.RowKit

theorem info_byte : (Tryz.prog.info? 5).map (fun i => (i.zero, i.size, i.bytes)) = some (some (.int .u8 0), 1, 1) := by kernel_rfl
theorem tBytes : ElemTy Tryz.prog 46 5 1 1 (.int .u8 0) :=
  ⟨Tryz.underlying46, by obtain ⟨i0, hi, h0, h1, h2⟩ := info_parts info_byte; exact ⟨i0, hi, h0, h1, h2⟩, rfl, by decide⟩
theorem byts_append (a b : List Nat) : byts (a ++ b) = byts a ++ byts b := by simp [byts]
theorem own_slb {w : World} {B n c : Nat} {a : Option Addr} {l : List Nat} (h : w.ownsRow B 5 1 (.slice a n c) n (byts l)) : SlB w a n c l := own_slc h
theorem SlB.len {w : World} {a : Option Addr} {n cap : Nat} {l : List Nat} (h : SlB w a n cap l) : l.length = n := by
  have := SlC.hlen h
  rw [byts_length, Nat.mul_one] at this; exact this
theorem SlB.below {w w' : World} {a : Option Addr} {n cap : Nat} {l : List Nat} (h : SlB w a n cap l) (hb : Below w.heap.size w w') : SlB w' a n cap l := SlC.below h hb
theorem byte_cell {w : World} {a : Option Addr} {n cap : Nat} {l : List Nat} (h : SlB w a n cap l) (i : Nat) (hi : i < n) : ∃ b off, a = some ⟨b, off, none⟩ ∧ w.cell? ⟨b, off + i, none⟩ = some (.int .u8 ((l.getD i 0 : Nat) : Int)) := by
  have hl := h.len
  obtain ⟨b, off, ha, hc⟩ := h.at i (by omega)
  exact ⟨b, off, ha, by rw [hc, getD_at _ _ (by omega)]⟩
/-- A slice from place k on. -/
theorem SlB.drop {w : World} {b off n cap k : Nat} {l : List Nat} (h : SlB w (some ⟨b, off, none⟩) n cap l) (hk : k ≤ n) : SlB w (some ⟨b, off + k, none⟩) (n - k) (cap - k) (l.drop k) := by
  have hl := h.len
  refine ⟨by rw [byts_length, List.length_drop]; omega, by have := SlC.le h; omega, by have := SlC.capm h; omega, (fun h => by cases h), fun i hi => ?_⟩
  rw [byts_length, List.length_drop] at hi
  obtain ⟨b', off', e, hc⟩ := h.at (k + i) (by omega)
  cases e
  refine ⟨b, off + k, rfl, ?_⟩
  rw [show off + k + i = off + (k + i) by omega, hc]
  simp [byts]
/-- A row that is a's, or lies in a block that was made since. -/
def Since (w : World) (a ra : Option Addr) : Prop := blk ra = blk a ∨ ∀ k, blk ra = some k → w.heap.size ≤ k
theorem Since.refl (w : World) (a : Option Addr) : Since w a a := .inl rfl
theorem Since.next {w wr : World} {a ra ra' : Option Addr} (h : Since w a ra) (hle : w.heap.size ≤ wr.heap.size) (hn : NewOr wr ra ra') : Since w a ra' := by
  unfold Since at *
  rcases hn with e | ⟨g, e, hg⟩
  · rw [e]; exact h
  · refine .inr fun k hk => ?_
    rw [e] at hk
    cases hk
    omega
theorem grown_since {w wr w' : World} {a ra : Option Addr} (h : w.grownBy wr (blk a)) (hs : Since w a ra) (k : wr.grownBy w' (blk ra)) : w.grownBy w' (blk a) :=
  ⟨k.os.trans h.os, k.tape.trans h.tape, k.output.trans h.output, Nat.le_trans h.size k.size, fun i hi hr => (k.block i (Nat.lt_of_lt_of_le hi h.size) (fun e => by
    rcases hs with hs | hs
    · rw [hs] at e; exact hr e
    · have := hs i e.symm; omega)).trans (h.block i hi hr)⟩
theorem u8w (a : Nat) (h : a < 256) : IntKind.u8.wrap (a : Int) = (a : Int) := by rw [IntKind.wrap_u8']; omega

/-- 'append(s, x..)' where s has no room left: whoever owns it. -/
theorem wpList_pushFull {P : Program} {t e : TypeId} {size bytes : Nat} {z : Value} (T : ElemTy P t e size bytes z)
    {ops : Array Oper} {rest : List Oper} {o : Oper} {a : Act} {Q : Exit → Act → World → Prop} {w : World} (hgd : o.guard = none) (s x : Operand)
    (ho : o.op = .call { callee := .builtin .append, args := #[s, x], argTypes := #[t, t] })
    (B : Nat) (sa : Option Addr) (n : Nat) (xs : List Value) (hs : a.eval s = .slice sa n n) (hsl : SlC w sa n n size xs)
    (m : Nat) (cs : Array Value) (hx : a.eval x = .slice (some ⟨w.heap.size, 0, none⟩) m m) (hl : cs.size = m * size) (h1 : ∀ u ∈ cs.toList, u.oneCell' = true) (hm : 0 < m)
    (hbytes : (n + m) * bytes ≤ 140737488355328) (hbp : 0 < bytes) (hB : B ≤ w.heap.size)
    (h : ∀ sa' cap' w', w'.ownsRow B e size (.slice sa' (n + m) cap') (n + m) (xs ++ cs.toList) → Below B w w' → wpList P ops Q rest (a.put o.dst (.slice sa' (n + m) cap')) w') :
    wpList P ops Q (o :: rest) a (w.alloc (.cells cs e)) := by
  obtain ⟨i, hi, hz, hsz, hby⟩ := T.info
  have hnm : n + m ≤ maxLen := by
    have : n + m ≤ (n + m) * bytes := Nat.le_mul_of_pos_right _ hbp
    simp only [maxLen]; omega
  have hba : Below w.heap.size w (w.alloc (.cells cs e)) := below_alloc (Nat.le_refl _) _
  have hsl2 := hsl.below hba
  refine wpList_append_grows (w.alloc (.cells cs e)) hgd s x t ho e i z size bytes T.und hi hz hsz hby T.zs T.pos sa n n xs hs (fun h => by have := hsl2.nil h; omega) hsl.hlen ?_ ⟨w.heap.size, 0, none⟩ m m cs.toList hx (by simpa using hl) (cells_new w cs e) h1 (by omega) hnm hbytes ?_
  · intro b hb
    subst hb
    exact hsl2.news
  · intro v' w' hown' hg
    have hv : ∃ sa' cap', v' = .slice sa' (n + m) cap' := by
      rcases hown'.2 with ⟨h, h0⟩ | ⟨g, cap, cur, hv, hgs, _⟩
      · omega
      · exact ⟨_, _, hv⟩
    obtain ⟨sa', cap', rfl⟩ := hv
    refine h sa' cap' w' (own_base hown' (by simp; omega)) ((hba.mono hB).trans (grown_below hg (by simp; omega) (fun k hk => by cases hk)))

end Go.Proofs.YtedchegejalolaaGreatDoor

/- Package image: the walks of fold, unfold, put and get. -/
namespace Go.Proofs.YtedchegejalolaaGreatDoor
set_option linter.unusedVariables false
open Go.RowKit

theorem fold_any (x : Int) (w : World) (h1 : -1048576 ≤ x) (h2 : x ≤ 1048576) :
    Calls Tryz.prog 60 #[.int .i64 x] w fun e w' => e = .returned (.int .i64 (foldN x)) ∧ w = w' := by
  have HF := Kp.mk (show (foldN x : Int) = if x < 0 then -2 * x - 1 else 2 * x from by unfold foldN; split <;> omega)
  by_cases h : x < 0
  · have t : decide (x < 0) = true := decide_eq_true h
    rw [if_pos h] at HF
    have e1 : IntKind.i64.wrap (-2 * x) = -2 * x := IntWalk.i64_in _ (by omega)
    have e2 : IntKind.i64.wrap (-2 * x - 1) = -2 * x - 1 := IntWalk.i64_in _ (by omega)
    go_enter Tryz.func60, Tryz.ntmps60
    go_wp2
    go_ret
    exact ⟨by rw [HF.out]; rfl, rfl⟩
  · have t : decide (x < 0) = false := decide_eq_false h
    rw [if_neg h] at HF
    have e1 : IntKind.i64.wrap (2 * x) = 2 * x := IntWalk.i64_in _ (by omega)
    go_enter Tryz.func60, Tryz.ntmps60
    go_wp2
    go_ret
    exact ⟨by rw [HF.out]; rfl, rfl⟩

set_option maxRecDepth 100000 in
set_option maxHeartbeats 4000000 in
theorem put_any (B : Nat) (a : Option Addr) (m c : Nat) (l : List Nat) (v : Nat) (w : World) (h : w.ownsRow B 5 1 (.slice a m c) m (byts l)) (hm : m ≤ 1000000000) (hv : v < 268435456) (hB : B ≤ w.heap.size) :
    Calls Tryz.prog 59 #[.slice a m c, .int .i64 v] w fun e w' => ∃ ra r rc, e = .returned (.slice ra r rc) ∧ Kp ((l ++ putL v).length = r) ∧ r ≤ m + 4 ∧ Kp (w'.ownsRow B 5 1 (.slice ra r rc) r (byts (l ++ putL v))) ∧ Kp (w.grownBy w' (blk a)) ∧ Kp (Since w a ra) ∧ Kp (Below B w w') := by
  have H := Kp.mk h
  have HL := Kp.mk (own_slb h).len
  have HB := Kp.mk hB
  clear h hB
  obtain ⟨wo, rfl⟩ : ∃ wo : World, wo = w := ⟨_, rfl⟩
  go_enter Tryz.func59, Tryz.ntmps59
  go_wp2
  go_loopw [0, 1] (fun s i wr => ∃ (k v' : Nat) (ra : Option Addr) (rc : Nat) (p : List Nat), i = .int .i64 v' ∧ s = .slice ra (m + k) rc ∧ k ≤ 3 ∧ v' * 128 ^ k ≤ v ∧ p.length = k ∧ Kp (putL v = p ++ putL v') ∧ Kp (wr.ownsRow B 5 1 (.slice ra (m + k) rc) (m + k) (byts (l ++ p))) ∧ Kp (wo.grownBy wr (blk a)) ∧ Kp (Since wo a ra) ∧ Kp (Below B wo wr)) (fun _ i _ => (intOf i).toNat)
  case atStart => exact ⟨0, v, a, c, [], rfl, rfl, by omega, by omega, rfl, ⟨rfl⟩, ⟨by simpa using H.out⟩, ⟨grown_refl _ _⟩, ⟨Since.refl _ _⟩, ⟨Below.refl _ _⟩⟩
  case round =>
    obtain ⟨k, v', ra, rc, p, rfl, rfl, hk, hv', hp, HP, HO, HGR, HSI, HBL⟩ := hrel
    have hsz : B ≤ wr.heap.size := Nat.le_trans HB.out HBL.out.size
    have hvle : v' ≤ v := Nat.le_trans (Nat.le_mul_of_pos_right v' (Nat.pow_pos (by omega))) hv'
    by_cases hge : 128 ≤ v'
    · have hk3 : k ≤ 2 := by
        by_cases h3 : k = 3
        · subst h3
          have : (128 : Nat) ^ 3 = 2097152 := by decide
          rw [this] at hv'; omega
        · omega
      have e0 : (v' : Int).tmod 128 = ((v' % 128 : Nat) : Int) := (Int.ofNat_tmod v' 128).symm
      have e1 : (v' : Int).tdiv 128 = ((v' / 128 : Nat) : Int) := (Int.ofNat_tdiv v' 128).symm
      have e2 : IntKind.i64.wrap ((v' / 128 : Nat) : Int) = ((v' / 128 : Nat) : Int) := IntWalk.i64_in _ (by omega)
      have e3 : IntKind.u8.wrap ((v' % 128 : Nat) : Int) = ((v' % 128 : Nat) : Int) := u8w _ (by omega)
      have e4 : IntKind.u8.wrap (((v' % 128 : Nat) : Int) + 128) = ((v' % 128 + 128 : Nat) : Int) := u8w (v' % 128 + 128) (by omega)
      have HPU := Kp.mk (show putL v = p ++ [v' % 128 + 128] ++ putL (v' / 128) from by rw [HP.out, putL_big (by omega)]; simp)
      have hnx : v' / 128 * 128 ^ (k + 1) ≤ v := by
        rw [Nat.pow_succ, Nat.mul_comm (128 ^ k), ← Nat.mul_assoc]
        exact Nat.le_trans (Nat.mul_le_mul_right _ (Nat.div_mul_le_self v' 128)) hv'
      have hlt : v' / 128 < v' := by omega
      generalize v' % 128 = x at *
      generalize v' / 128 = y at *
      have hge' : (128 : Int) ≤ v' := by omega
      go_wp2_with (at_builtin; refine wpList_pushS tBytes rfl _ _ rfl B ra (m + k) rc _ rfl HO.out 1 _ rfl rfl ?d1 ?d2 (by decide) hsz ?d4)
      case d1 => simp [Value.oneCell']
      case d2 => omega
      case d4 =>
        intro ya yc w4 ho4 hg4 hno4
        have HO4 := Kp.mk (show w4.ownsRow B 5 1 (.slice ya (m + (k + 1)) yc) (m + (k + 1)) (byts (l ++ (p ++ [x + 128]))) from by
          rw [← List.append_assoc, byts_append (l ++ p)]; exact ho4)
        have HB4 := Kp.mk (HBL.out.trans (below_of_grown hg4 hsz (fun q hq => (own_lt HO.out q hq).1)))
        have HG4 := Kp.mk (grown_since HGR.out HSI.out hg4)
        have HI4 := Kp.mk (HSI.out.next HGR.out.size hno4)
        clear ho4 hg4 hno4
        go_wp2
        go_roundw
        case rel => exact ⟨k + 1, y, ya, yc, p ++ [x + 128], rfl, rfl, by omega, hnx, by simp [hp], HPU, HO4, HG4, HI4, HB4⟩
        case measure => simp [intOf]; omega
    · have e3 : IntKind.u8.wrap (v' : Int) = (v' : Int) := u8w _ (by omega)
      have HPU := Kp.mk (show putL v = p ++ [v'] from by rw [HP.out, putL_small (by omega)])
      have hge' : ¬ (128 : Int) ≤ v' := by omega
      go_wp2_with (at_builtin; refine wpList_pushS tBytes rfl _ _ rfl B ra (m + k) rc _ rfl HO.out 1 _ rfl rfl ?d1 ?d2 (by decide) hsz ?d4)
      case d1 => simp [Value.oneCell']
      case d2 => omega
      case d4 =>
        intro ya yc w4 ho4 hg4 hno4
        have HO4 := Kp.mk (show w4.ownsRow B 5 1 (.slice ya (m + k + 1) yc) (m + k + 1) (byts (l ++ putL v)) from by
          rw [HPU.out, ← List.append_assoc, byts_append (l ++ p)]; exact ho4)
        have HB4 := Kp.mk (HBL.out.trans (below_of_grown hg4 hsz (fun q hq => (own_lt HO.out q hq).1)))
        have HG4 := Kp.mk (grown_since HGR.out HSI.out hg4)
        have HI4 := Kp.mk (HSI.out.next HGR.out.size hno4)
        clear ho4 hg4 hno4
        go_wp2
        go_ret
        exact ⟨ya, m + k + 1, yc, rfl, ⟨by rw [HPU.out, List.length_append, HL.out, List.length_append, hp]; rfl⟩, by omega, HO4, HG4, HI4, HB4⟩

set_option maxRecDepth 100000 in
set_option maxHeartbeats 4000000 in
theorem put0_any (B : Nat) (a : Option Addr) (m : Nat) (l : List Nat) (v : Nat) (w : World) (h : SlB w a m m l) (hm : m ≤ 1000000000) (hv : v < 268435456) (hB : B ≤ w.heap.size) :
    Calls Tryz.prog 59 #[.slice a m m, .int .i64 v] w fun e w' => ∃ ra r rc, e = .returned (.slice ra r rc) ∧ Kp ((l ++ putL v).length = r) ∧ r ≤ m + 4 ∧ Kp (w'.ownsRow B 5 1 (.slice ra r rc) r (byts (l ++ putL v))) ∧ Kp (Below B w w') := by
  have H := Kp.mk h
  have HL := Kp.mk h.len
  have HB := Kp.mk hB
  clear h hB
  obtain ⟨wo, rfl⟩ : ∃ wo : World, wo = w := ⟨_, rfl⟩
  go_enter Tryz.func59, Tryz.ntmps59
  go_wp2
  go_loopw [0, 1] (fun s i wr => ∃ (k v' : Nat) (ra : Option Addr) (rc : Nat) (p : List Nat), i = .int .i64 v' ∧ s = .slice ra (m + k) rc ∧ k ≤ 3 ∧ v' * 128 ^ k ≤ v ∧ p.length = k ∧ Kp (putL v = p ++ putL v') ∧ Kp ((k = 0 → a = ra ∧ m = rc ∧ p = [] ∧ SlB wr a m m l) ∧ (0 < k → wr.ownsRow B 5 1 (.slice ra (m + k) rc) (m + k) (byts (l ++ p)))) ∧ Kp (Below B wo wr)) (fun _ i _ => (intOf i).toNat)
  case atStart => exact ⟨0, v, a, m, [], rfl, rfl, by omega, by omega, rfl, ⟨rfl⟩, ⟨fun _ => ⟨rfl, rfl, rfl, H.out⟩, fun h => by omega⟩, ⟨Below.refl _ _⟩⟩
  case round =>
    obtain ⟨k, v', ra, rc, p, rfl, rfl, hk, hv', hp, HP, HO, HBL⟩ := hrel
    have hsz : B ≤ wr.heap.size := Nat.le_trans HB.out HBL.out.size
    have hvle : v' ≤ v := Nat.le_trans (Nat.le_mul_of_pos_right v' (Nat.pow_pos (by omega))) hv'
    by_cases hge : 128 ≤ v'
    · have hk3 : k ≤ 2 := by
        by_cases h3 : k = 3
        · subst h3
          have : (128 : Nat) ^ 3 = 2097152 := by decide
          rw [this] at hv'; omega
        · omega
      have e0 : (v' : Int).tmod 128 = ((v' % 128 : Nat) : Int) := (Int.ofNat_tmod v' 128).symm
      have e1 : (v' : Int).tdiv 128 = ((v' / 128 : Nat) : Int) := (Int.ofNat_tdiv v' 128).symm
      have e2 : IntKind.i64.wrap ((v' / 128 : Nat) : Int) = ((v' / 128 : Nat) : Int) := IntWalk.i64_in _ (by omega)
      have e3 : IntKind.u8.wrap ((v' % 128 : Nat) : Int) = ((v' % 128 : Nat) : Int) := u8w _ (by omega)
      have e4 : IntKind.u8.wrap (((v' % 128 : Nat) : Int) + 128) = ((v' % 128 + 128 : Nat) : Int) := u8w (v' % 128 + 128) (by omega)
      have HPU := Kp.mk (show putL v = p ++ [v' % 128 + 128] ++ putL (v' / 128) from by rw [HP.out, putL_big (by omega)]; simp)
      have hnx : v' / 128 * 128 ^ (k + 1) ≤ v := by
        rw [Nat.pow_succ, Nat.mul_comm (128 ^ k), ← Nat.mul_assoc]
        exact Nat.le_trans (Nat.mul_le_mul_right _ (Nat.div_mul_le_self v' 128)) hv'
      have hlt : v' / 128 < v' := by omega
      generalize v' % 128 = x at *
      generalize v' / 128 = y at *
      have hge' : (128 : Int) ≤ v' := by omega
      rcases Nat.eq_zero_or_pos k with hk0 | hk0
      · subst hk0
        obtain ⟨rfl, rfl, rfl, HS⟩ := HO.out.1 rfl
        go_wp2_with (at_builtin; refine wpList_pushFull tBytes rfl _ _ rfl B a m _ rfl HS 1 _ rfl rfl ?d1 (by decide) ?d2 (by decide) hsz ?d4)
        case d1 => simp [Value.oneCell']
        case d2 => omega
        case d4 =>
          intro ya yc w4 ho4 hb4
          have HO4 := Kp.mk (show w4.ownsRow B 5 1 (.slice ya (m + (0 + 1)) yc) (m + (0 + 1)) (byts (l ++ ([] ++ [x + 128]))) from by
            rw [← List.append_assoc, byts_append (l ++ []), List.append_nil]; exact ho4)
          have HB4 := Kp.mk (HBL.out.trans hb4)
          clear ho4 hb4
          go_wp2
          go_roundw
          case rel => exact ⟨0 + 1, y, ya, yc, [] ++ [x + 128], rfl, rfl, by omega, hnx, by simp [hp], HPU, ⟨fun h => by omega, fun _ => HO4.out⟩, HB4⟩
          case measure => simp [intOf]; omega
      · have HO1 := HO.out.2 hk0
        go_wp2_with (at_builtin; refine wpList_push tBytes rfl _ _ rfl B ra (m + k) rc _ rfl HO1 1 1 _ rfl rfl ?d1 (by decide) ?d2 (by decide) hsz ?d4)
        case d1 => simp [Value.oneCell']
        case d2 => omega
        case d4 =>
          intro ya yc w4 ho4 hb4
          have HO4 := Kp.mk (show w4.ownsRow B 5 1 (.slice ya (m + (k + 1)) yc) (m + (k + 1)) (byts (l ++ (p ++ [x + 128]))) from by
            rw [← List.append_assoc, byts_append (l ++ p)]; exact ho4)
          have HB4 := Kp.mk (HBL.out.trans hb4)
          clear ho4 hb4
          go_wp2
          go_roundw
          case rel => exact ⟨k + 1, y, ya, yc, p ++ [x + 128], rfl, rfl, by omega, hnx, by simp [hp], HPU, ⟨fun h => by omega, fun _ => HO4.out⟩, HB4⟩
          case measure => simp [intOf]; omega
    · have e3 : IntKind.u8.wrap (v' : Int) = (v' : Int) := u8w _ (by omega)
      have HPU := Kp.mk (show putL v = p ++ [v'] from by rw [HP.out, putL_small (by omega)])
      have hge' : ¬ (128 : Int) ≤ v' := by omega
      rcases Nat.eq_zero_or_pos k with hk0 | hk0
      · subst hk0
        obtain ⟨rfl, rfl, rfl, HS⟩ := HO.out.1 rfl
        go_wp2_with (at_builtin; refine wpList_pushFull tBytes rfl _ _ rfl B a m _ rfl HS 1 _ rfl rfl ?d1 (by decide) ?d2 (by decide) hsz ?d4)
        case d1 => simp [Value.oneCell']
        case d2 => omega
        case d4 =>
          intro ya yc w4 ho4 hb4
          have HO4 := Kp.mk (show w4.ownsRow B 5 1 (.slice ya (m + 1) yc) (m + 1) (byts (l ++ putL v)) from by
            rw [HPU.out, ← List.append_assoc, byts_append (l ++ []), List.append_nil]; exact ho4)
          have HB4 := Kp.mk (HBL.out.trans hb4)
          clear ho4 hb4
          go_wp2
          go_ret
          exact ⟨ya, m + 1, yc, rfl, ⟨by rw [HPU.out, List.length_append, HL.out, List.length_append, hp]; rfl⟩, by omega, HO4, HB4⟩
      · have HO1 := HO.out.2 hk0
        go_wp2_with (at_builtin; refine wpList_push tBytes rfl _ _ rfl B ra (m + k) rc _ rfl HO1 1 1 _ rfl rfl ?d1 (by decide) ?d2 (by decide) hsz ?d4)
        case d1 => simp [Value.oneCell']
        case d2 => omega
        case d4 =>
          intro ya yc w4 ho4 hb4
          have HO4 := Kp.mk (show w4.ownsRow B 5 1 (.slice ya (m + k + 1) yc) (m + k + 1) (byts (l ++ putL v)) from by
            rw [HPU.out, ← List.append_assoc, byts_append (l ++ p)]; exact ho4)
          have HB4 := Kp.mk (HBL.out.trans hb4)
          clear ho4 hb4
          go_wp2
          go_ret
          exact ⟨ya, m + k + 1, yc, rfl, ⟨by rw [HPU.out, List.length_append, HL.out, List.length_append, hp]; rfl⟩, by omega, HO4, HB4⟩

end Go.Proofs.YtedchegejalolaaGreatDoor

/- Package image: the walk of get. -/
namespace Go.Proofs.YtedchegejalolaaGreatDoor
set_option linter.unusedVariables false
open Go.RowKit

end Go.Proofs.YtedchegejalolaaGreatDoor

