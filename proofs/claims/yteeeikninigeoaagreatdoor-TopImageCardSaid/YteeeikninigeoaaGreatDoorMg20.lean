import Derived.Test.YteeeikninigeoaaGreatDoorMg19
import Derived.Test.YteeeikninigeoaaGreatDoorMg13
/- Package image: the plain facts. A byte that is changed changes the sum; what is read is what was written. -/
namespace Go.Proofs.YteeeikninigeoaaGreatDoor
set_option linter.unusedVariables false

theorem xor_rc {a b c : Nat} (h : a ^^^ c = b ^^^ c) : a = b := by
  have := congrArg (· ^^^ c) h
  simpa [Nat.xor_assoc] using this
theorem xor_lc {a b c : Nat} (h : c ^^^ a = c ^^^ b) : a = b := xor_rc (c := c) (by rw [Nat.xor_comm a, Nat.xor_comm b]; exact h)
theorem crc1_inj {a b : Nat} (ha : a < 4294967296) (hb : b < 4294967296) (h : crc1 a = crc1 b) : a = b := by
  have t : ∀ n, n < 4294967296 → (crc1 n).testBit 31 = decide (n % 2 = 1) := fun n hn => by
    unfold crc1
    rw [Nat.testBit_xor]
    have h1 : (n / 2).testBit 31 = false := Nat.testBit_lt_two_pow (by omega)
    rw [h1]
    by_cases h2 : n % 2 = 1
    · rw [if_pos h2, decide_eq_true h2]; decide
    · rw [if_neg h2, decide_eq_false h2]; decide
  have h1 := t a ha
  have h2 := t b hb
  rw [h] at h1
  have h3 : (a % 2 = 1) = (b % 2 = 1) := by
    have := h1.symm.trans h2
    simpa using this
  unfold crc1 at h
  have h4 : (if a % 2 = 1 then 3988292384 else 0) = (if b % 2 = 1 then 3988292384 else 0) := by simp only [h3]
  rw [h4] at h
  have h5 : a / 2 = b / 2 := xor_rc h
  rcases Nat.mod_two_eq_zero_or_one a with e | e <;> rcases Nat.mod_two_eq_zero_or_one b with e' | e' <;> simp [e, e'] at h3 <;> omega
theorem crcN_inj (k : Nat) {a b : Nat} (ha : a < 4294967296) (hb : b < 4294967296) (h : crcN k a = crcN k b) : a = b := by
  induction k with
  | zero => rw [crcN_zero, crcN_zero] at h; exact h
  | succ k ih => rw [crcN_succ, crcN_succ] at h; exact ih (crc1_inj (crcN_lt k a ha) (crcN_lt k b hb) h)
theorem crcB_inj1 {a b x : Nat} (ha : a < 4294967296) (hb : b < 4294967296) (hx : x < 256) (h : crcB a x = crcB b x) : a = b := by
  rw [crcB_eq, crcB_eq] at h
  exact xor_rc (crcN_inj 8 (Nat.xor_lt_two_pow (n := 32) ha (by omega)) (Nat.xor_lt_two_pow (n := 32) hb (by omega)) h)
theorem crcB_inj2 {a x y : Nat} (ha : a < 4294967296) (hx : x < 256) (hy : y < 256) (h : crcB a x = crcB a y) : x = y := by
  rw [crcB_eq, crcB_eq] at h
  exact xor_lc (crcN_inj 8 (Nat.xor_lt_two_pow (n := 32) ha (by omega)) (Nat.xor_lt_two_pow (n := 32) ha (by omega)) h)
theorem fold_lt (l : List Nat) : ∀ n, (∀ x ∈ l, x < 256) → n < 4294967296 → l.foldl crcB n < 4294967296 := by
  induction l with
  | nil => intro n _ hn; exact hn
  | cons x l ih => intro n hl hn; exact ih _ (fun y hy => hl y (List.mem_cons_of_mem _ hy)) (crcB_lt n x hn (hl x (by simp)))
theorem fold_inj (l : List Nat) : ∀ a b, (∀ x ∈ l, x < 256) → a < 4294967296 → b < 4294967296 → l.foldl crcB a = l.foldl crcB b → a = b := by
  induction l with
  | nil => intro a b _ _ _ h; exact h
  | cons x l ih =>
    intro a b hl ha hb h
    have hx := hl x (by simp)
    exact crcB_inj1 ha hb hx (ih _ _ (fun y hy => hl y (List.mem_cons_of_mem _ hy)) (crcB_lt a x ha hx) (crcB_lt b x hb hx) h)
/-- A byte that is changed changes the sum. -/
theorem crc_set {l : List Nat} {k y : Nat} (hl : ∀ x ∈ l, x < 256) (hk : k < l.length) (hy : y < 256) (hne : y ≠ l[k]) : crc (l.set k y) ≠ crc l := by
  intro h
  have b1 := crcL_lt l hl
  have b2 := crcL_lt (l.set k y) (fun x hx => by
    rcases List.mem_or_eq_of_mem_set hx with h | h
    · exact hl x h
    · omega)
  have e : crcL (l.set k y) = crcL l := by unfold crc at h; omega
  unfold crcL at e
  have e1 : l = l.take k ++ l[k] :: l.drop (k + 1) := by rw [List.getElem_cons_drop, List.take_append_drop]
  have e2 : l.set k y = l.take k ++ y :: l.drop (k + 1) := List.set_eq_take_append_cons_drop .. |>.trans (by rw [if_pos hk])
  rw [e2] at e
  have e3 : l.foldl crcB 4294967295 = (l.take k ++ l[k] :: l.drop (k + 1)).foldl crcB 4294967295 := congrArg _ e1
  have hx256 : l[k] < 256 := hl _ (List.getElem_mem _)
  rw [e3] at e
  generalize l[k] = x at *
  rw [List.foldl_append, List.foldl_append, List.foldl_cons, List.foldl_cons] at e
  have hs := fold_lt (l.take k) 4294967295 (fun x hx => hl x (List.mem_of_mem_take hx)) (by omega)
  have := fold_inj _ _ _ (fun x hx => hl x (List.mem_of_mem_drop hx)) (crcB_lt _ _ hs hy) (crcB_lt _ _ hs hx256) e
  exact hne (crcB_inj2 hs hy hx256 this)

/-- A number in as few bytes as can be. -/
def putL (n : Nat) : List Nat := if n < 128 then [n] else (n % 128 + 128) :: putL (n / 128)
termination_by n
theorem putL_small {n : Nat} (h : n < 128) : putL n = [n] := by rw [putL, if_pos h]
theorem putL_big {n : Nat} (h : ¬ n < 128) : putL n = (n % 128 + 128) :: putL (n / 128) := by rw [putL, if_neg h]
theorem putL_lt (n : Nat) : ∀ x ∈ putL n, x < 256 := by
  induction n using putL.induct with
  | case1 n h => intro x hx; rw [putL_small h] at hx; simp at hx; omega
  | case2 n h ih =>
    intro x hx
    rw [putL_big h] at hx
    rcases List.mem_cons.1 hx with rfl | hx
    · omega
    · exact ih x hx
theorem putL_pos (n : Nat) : 0 < (putL n).length := by rw [putL]; split <;> simp
/-- A number read at place i of its bytes, at most f more. -/
def getR : Nat → Nat → Nat → List Nat → Option (Nat × List Nat)
  | 0, _, _, _ => none
  | _ + 1, _, _, [] => none
  | f + 1, i, acc, x :: r => if x < 128 then (if i = 0 ∨ 0 < x then some (acc + x * 128 ^ i, r) else none) else getR f (i + 1) (acc + x % 128 * 128 ^ i) r
def getL (b : List Nat) : Option (Nat × List Nat) := getR 4 0 0 b
theorem getR_put (r : List Nat) : ∀ f i acc m, m < 128 ^ f → ((i = 0 ∧ 0 < f) ∨ 0 < m) → getR f i acc (putL m ++ r) = some (acc + m * 128 ^ i, r) := by
  intro f
  induction f with
  | zero => intro i acc m hm h; exfalso; simp at hm; omega
  | succ f ih =>
    intro i acc m hm h
    by_cases h1 : m < 128
    · rw [putL_small h1, List.singleton_append, getR, if_pos h1, if_pos (by omega)]
    · rw [putL_big h1, List.cons_append, getR, if_neg (by omega), ih (i + 1) _ (m / 128) (by rw [Nat.pow_succ] at hm; omega) (.inr (by omega))]
      congr 2
      have e : (m % 128 + 128) % 128 = m % 128 := by omega
      rw [e, Nat.pow_succ]
      have e2 : m = 128 * (m / 128) + m % 128 := (Nat.div_add_mod m 128).symm
      generalize 128 ^ i = P
      generalize m / 128 = q at *
      generalize m % 128 = s at *
      subst e2
      grind
theorem getR_inv : ∀ f i acc b v r, (∀ x ∈ b, x < 256) → getR f i acc b = some (v, r) → ∃ m, v = acc + m * 128 ^ i ∧ b = putL m ++ r ∧ m < 128 ^ f ∧ (i = 0 ∨ 0 < m) := by
  intro f
  induction f with
  | zero => intro i acc b v r _ h; simp [getR] at h
  | succ f ih =>
    intro i acc b v r hb h
    cases b with
    | nil => simp [getR] at h
    | cons x b =>
      rw [getR] at h
      have hx := hb x (by simp)
      by_cases h1 : x < 128
      · rw [if_pos h1] at h
        by_cases h2 : i = 0 ∨ 0 < x
        · rw [if_pos h2] at h
          simp only [Option.some.injEq, Prod.mk.injEq] at h
          obtain ⟨rfl, rfl⟩ := h
          refine ⟨x, rfl, by rw [putL_small h1]; rfl, ?_, h2⟩
          have : 128 ^ 1 ≤ 128 ^ (f + 1) := Nat.pow_le_pow_right (by omega) (by omega)
          omega
        · rw [if_neg h2] at h; cases h
      · rw [if_neg h1] at h
        obtain ⟨m, h2, h3, h4, h5⟩ := ih _ _ _ _ _ (fun y hy => hb y (List.mem_cons_of_mem _ hy)) h
        have hm : 0 < m := by omega
        refine ⟨128 * m + x % 128, ?_, ?_, ?_, .inr (by omega)⟩
        · rw [h2, Nat.pow_succ]
          generalize 128 ^ i = P
          generalize x % 128 = s
          grind
        · rw [putL_big (by omega), show (128 * m + x % 128) % 128 + 128 = x by omega, show (128 * m + x % 128) / 128 = m by omega, List.cons_append, ← h3]
        · rw [Nat.pow_succ]; omega
theorem getL_put (m : Nat) (r : List Nat) (h : m < 268435456) : getL (putL m ++ r) = some (m, r) := by
  unfold getL
  rw [getR_put r 4 0 0 m h (.inl ⟨rfl, by omega⟩)]
  simp
theorem getL_inv {b r : List Nat} {v : Nat} (hb : ∀ x ∈ b, x < 256) (h : getL b = some (v, r)) : b = putL v ++ r ∧ v < 268435456 := by
  obtain ⟨m, h1, h2, h3, _⟩ := getR_inv 4 0 0 b v r hb h
  have : v = m := by rw [h1]; simp
  subst this
  exact ⟨h2, h3⟩
/-- m numbers, one behind the other. -/
def numsL : Nat → List Nat → Option (List Nat × List Nat)
  | 0, b => some ([], b)
  | m + 1, b => match getL b with
    | none => none
    | some (n, r) => match numsL m r with
      | none => none
      | some (l, r') => some (n :: l, r')
def encN (l : List Nat) : List Nat := l.flatMap putL
theorem numsL_enc (r : List Nat) : ∀ l : List Nat, (∀ x ∈ l, x < 268435456) → numsL l.length (encN l ++ r) = some (l, r) := by
  intro l
  induction l with
  | nil => intro _; rfl
  | cons x l ih =>
    intro h
    have e : encN (x :: l) ++ r = putL x ++ (encN l ++ r) := by simp [encN]
    rw [e, List.length_cons, numsL, getL_put x _ (h x (by simp))]
    simp only [ih (fun y hy => h y (List.mem_cons_of_mem _ hy))]
theorem numsL_inv : ∀ m (b l r : List Nat), (∀ x ∈ b, x < 256) → numsL m b = some (l, r) → b = encN l ++ r ∧ l.length = m ∧ ∀ x ∈ l, x < 268435456 := by
  intro m
  induction m with
  | zero => intro b l r _ h; simp [numsL] at h; obtain ⟨rfl, rfl⟩ := h; exact ⟨rfl, rfl, by simp⟩
  | succ m ih =>
    intro b l r hb h
    rw [numsL] at h
    cases hg : getL b with
    | none => rw [hg] at h; cases h
    | some p =>
      obtain ⟨n, r1⟩ := p
      rw [hg] at h
      obtain ⟨e1, e2⟩ := getL_inv hb hg
      simp only at h
      cases hn : numsL m r1 with
      | none => rw [hn] at h; cases h
      | some q =>
        obtain ⟨l1, r2⟩ := q
        rw [hn] at h
        simp only [Option.some.injEq, Prod.mk.injEq] at h
        obtain ⟨rfl, rfl⟩ := h
        obtain ⟨e3, e4, e5⟩ := ih r1 l1 r2 (fun x hx => hb x (by rw [e1]; simp [hx])) hn
        refine ⟨by rw [e1, e3]; simp [encN], by simp [e4], fun x hx => ?_⟩
        rcases List.mem_cons.1 hx with rfl | hx
        · exact e2
        · exact e5 x hx
/-- The head of an image. -/
def headL : List Nat := [68, 65, 77, 49]
/-- The numbers of the points, out of bytes. -/
def parseL (b : List Nat) : Option (List Nat × List Nat) :=
  if b.take 4 = headL then
    match getL (b.drop 4) with
    | none => none
    | some (c, r) => if c ≤ 150 then numsL (3 * c) r else none
  else none
def encI (l : List Nat) : List Nat := headL ++ (putL (l.length / 3) ++ encN l)
theorem parseL_enc (l r : List Nat) (c : Nat) (hl : l.length = 3 * c) (hc : c ≤ 150) (h : ∀ x ∈ l, x < 268435456) : parseL (encI l ++ r) = some (l, r) := by
  unfold parseL encI
  rw [show l.length / 3 = c by omega]
  rw [if_pos (by simp [headL])]
  have e : (headL ++ (putL c ++ encN l) ++ r).drop 4 = putL c ++ (encN l ++ r) := by simp [headL]
  rw [e, getL_put c _ (by omega)]
  simp only [if_pos hc, ← hl]
  exact numsL_enc r l h
theorem parseL_inv {b l r : List Nat} (hb : ∀ x ∈ b, x < 256) (h : parseL b = some (l, r)) : b = encI l ++ r ∧ (∃ c, l.length = 3 * c ∧ c ≤ 150) ∧ ∀ x ∈ l, x < 268435456 := by
  unfold parseL at h
  by_cases h0 : b.take 4 = headL
  · rw [if_pos h0] at h
    cases hg : getL (b.drop 4) with
    | none => rw [hg] at h; cases h
    | some p =>
      obtain ⟨c, r1⟩ := p
      rw [hg] at h
      simp only at h
      by_cases hc : c ≤ 150
      · rw [if_pos hc] at h
        obtain ⟨e1, e2⟩ := getL_inv (fun x hx => hb x (List.mem_of_mem_drop hx)) hg
        obtain ⟨e3, e4, e5⟩ := numsL_inv _ _ _ _ (fun x hx => hb x (List.mem_of_mem_drop (i := 4) (by rw [e1]; simp [hx]))) h
        refine ⟨?_, ⟨c, e4, hc⟩, e5⟩
        have : b = b.take 4 ++ b.drop 4 := (List.take_append_drop 4 b).symm
        rw [this, h0, e1, e3]
        unfold encI
        rw [e4, show 3 * c / 3 = c by omega]
        simp
      · rw [if_neg hc] at h; cases h
  · rw [if_neg h0] at h; cases h
/-- Of the bytes of points no less than all can be read. -/
theorem parse_cut {l b t : List Nat} {c : Nat} (hl : l.length = 3 * c) (hc : c ≤ 150) (h : ∀ x ∈ l, x < 268435456) (e : b ++ t = encI l) (ht : t ≠ []) (hb : ∀ x ∈ b, x < 256) (l' : List Nat) : parseL b ≠ some (l', []) := by
  intro hp
  obtain ⟨e1, ⟨c', e2, e3⟩, e4⟩ := parseL_inv hb hp
  have h1 := parseL_enc l' t c' e2 e3 e4
  have h2 := parseL_enc l [] c hl hc h
  rw [List.append_nil, ← e] at h2
  rw [List.append_nil] at e1
  rw [e1, h1] at h2
  simp only [Option.some.injEq, Prod.mk.injEq] at h2
  exact ht h2.2
/-- Numbers of either sign as numbers, and back. -/
def foldN (x : Int) : Nat := if x < 0 then (-2 * x - 1).toNat else (2 * x).toNat
def unfN (n : Nat) : Int := if n % 2 = 1 then -(((n : Int) + 1) / 2) else (n : Int) / 2
theorem unf_fold (x : Int) : unfN (foldN x) = x := by unfold unfN foldN; split <;> split <;> omega
theorem fold_unf (n : Nat) : foldN (unfN n) = n := by unfold unfN foldN; split <;> split <;> omega

end Go.Proofs.YteeeikninigeoaaGreatDoor

/- image.Sum: what it computes. -/
namespace Go.Proofs.YteeeikninigeoaaGreatDoor
set_option linter.unusedVariables false
open Go.RowKit

/-- A list of bytes as cells. -/
def byts (l : List Nat) : List Value := l.map fun (n : Nat) => .int .u8 (n : Int)
def SlB (w : World) (a : Option Addr) (len cap : Nat) (l : List Nat) : Prop := SlC w a len cap 1 (byts l)
theorem byts_length (l : List Nat) : (byts l).length = l.length := by simp [byts]
theorem SlB.at {w : World} {a : Option Addr} {len cap : Nat} {l : List Nat} (h : SlB w a len cap l) (i : Nat) (hi : i < l.length) : ∃ b off, a = some ⟨b, off, none⟩ ∧ w.cell? ⟨b, off + i, none⟩ = some (.int .u8 (l[i] : Nat)) := by
  obtain ⟨b, off, ha, hc⟩ := SlC.cell h i (by rw [byts_length]; exact hi)
  exact ⟨b, off, ha, by rw [hc]; simp [byts]⟩

theorem u32wrap (a : Nat) (c : Int) (hc : c = a) (ha : a < 4294967296) : IntKind.u32.wrap c = (a : Int) := by
  subst hc
  rw [IntKind.wrap_u32']; omega

set_option maxHeartbeats 1000000 in
theorem sum_any (a : Option Addr) (len cap : Nat) (l : List Nat) (w : World) (h : SlB w a len cap l) (hn : l.length = len) (hl : len ≤ 9223372036854775806) (hb : ∀ x ∈ l, x < 256) :
    Calls Tryz.prog 34 #[.slice a len cap] w fun e w' => e = .returned (.int .i64 (crc l)) ∧ w = w' := by
  have H := Kp.mk h
  have HB := Kp.mk hb
  have HN := Kp.mk hn
  clear h hb hn
  go_enter Tryz.func34, Tryz.ntmps34
  go_wp2
  go_loop [3, 9] (fun nv i => ∃ k : Nat, ∃ n : Nat, k ≤ len ∧ i = .int .i64 k ∧ nv = .int .u32 n ∧ Kp (n = (l.take k).foldl crcB 4294967295) ∧ n < 4294967296) (fun _ i => len - (intOf i).toNat)
  case atStart => exact ⟨0, 4294967295, Nat.zero_le _, rfl, rfl, ⟨rfl⟩, by omega⟩
  case round =>
    obtain ⟨k, n, hk, rfl, rfl, hN, hn⟩ := hrel
    by_cases hlt : k < len
    · have hkl : k < l.length := by rw [HN.out]; exact hlt
      obtain ⟨b, off, rfl, c1⟩ := H.out.at k hkl
      have hx := HB.out l[k] (List.getElem_mem hkl)
      obtain ⟨x, hxe⟩ : ∃ x, x = l[k] := ⟨_, rfl⟩
      rw [← hxe] at c1 hx
      have HX := Kp.mk hxe
      clear hxe
      have e1 : bits BinOp.xor IntKind.u32 (n : Int) (x : Int) = ((n ^^^ x : Nat) : Int) := u32_xor_nat n x hn (by omega)
      have hnx : n ^^^ x < 4294967296 := Nat.xor_lt_two_pow (n := 32) hn (by omega)
      have hstep : Kp ((l.take (k + 1)).foldl crcB 4294967295 = crcN 8 (n ^^^ x)) := by
        refine ⟨?_⟩
        rw [List.take_succ_eq_append_getElem hkl, List.foldl_append, ← hN.out, ← HX.out]
        exact crcB_eq n x
      generalize n ^^^ x = m at *
      go_wp2
      go_loop [3, 17] (fun nv i => ∃ j : Nat, ∃ v : Nat, j ≤ 8 ∧ i = .int .i64 j ∧ nv = .int .u32 v ∧ Kp (v = crcN j m) ∧ v < 4294967296) (fun _ i => 8 - (intOf i).toNat)
      case atStart => exact ⟨0, m, by omega, rfl, rfl, ⟨(crcN_zero m).symm⟩, hnx⟩
      case round =>
        obtain ⟨j, v, hj, rfl, rfl, hV, hv⟩ := hrel
        by_cases hj8 : j < 8
        · have e1 : bits BinOp.and IntKind.u32 (v : Int) 1 = ((v % 2 : Nat) : Int) := by
            rw [show (1 : Int) = ((1 : Nat) : Int) from rfl, u32_and_nat v 1 hv (by omega), Nat.and_one_is_mod]
          rcases Nat.mod_two_eq_zero_or_one v with ho | ho
          · rw [ho] at e1
            have hn2 := Kp.mk (crcN_even j m v hV.out ho)
            clear ho
            go_wp2
            go_round
            case rel => exact ⟨j + 1, v / 2, by omega, by go_num, by go_num, hn2, by omega⟩
            case measure => simp [intOf]; omega
          · rw [ho] at e1
            have hn2 := Kp.mk (crcN_odd j m v hV.out ho)
            have e2 : bits BinOp.xor IntKind.u32 ((v : Int) / 2) 3988292384 = (((v / 2) ^^^ 3988292384 : Nat) : Int) := by
              rw [show (v : Int) / 2 = ((v / 2 : Nat) : Int) by omega]
              exact u32_xor_nat (v / 2) 3988292384 (by omega) (by omega)
            have hlt3 : (v / 2) ^^^ 3988292384 < 4294967296 := Nat.xor_lt_two_pow (n := 32) (by omega) (by omega)
            generalize (v / 2) ^^^ 3988292384 = u at *
            clear ho
            go_wp2
            go_round
            case rel => exact ⟨j + 1, u, by omega, by go_num, rfl, hn2, hlt3⟩
            case measure => simp [intOf]; omega
        · obtain rfl : j = 8 := by omega
          go_wp2
          go_round
          case rel => exact ⟨k + 1, v, by omega, by go_num, rfl, ⟨by rw [hV.out, hstep.out]⟩, hv⟩
          case measure => simp [intOf]; omega
    · obtain rfl : k = len := by omega
      have hfin : Kp (crc l = 4294967295 - n) := ⟨crc_eq l n (by rw [hN.out, List.take_of_length_le (by rw [HN.out]; exact Nat.le_refl _)])⟩
      have e1 : bits BinOp.xor IntKind.u32 IntKind.u32.max (n : Int) = ((4294967295 - n : Nat) : Int) := by
        rw [ones_sub n hn]
        exact u32_xor_nat 4294967295 n (by omega) hn
      obtain ⟨m, hM⟩ : ∃ m, m = 4294967295 - n := ⟨_, rfl⟩
      rw [← hM] at e1
      have hml : m < 4294967296 := by omega
      have HM := Kp.mk hM
      clear hM
      go_wp2
      go_ret
      exact ⟨ret_int (by rw [hfin.out, ← HM.out]; exact IntWalk.wrap64_in _ ⟨by omega, by omega⟩), rfl⟩

end Go.Proofs.YteeeikninigeoaaGreatDoor

/- Slices of bytes: rows of a call's own, what is written into them. -/
namespace Go.Proofs.YteeeikninigeoaaGreatDoor
set_option linter.unusedVariables false
open Go.RowKit

theorem info_byte : (Tryz.prog.info? 5).map (fun i => (i.zero, i.size, i.bytes)) = some (some (.int .u8 0), 1, 1) := by kernel_rfl
theorem tBytes : ElemTy Tryz.prog 49 5 1 1 (.int .u8 0) :=
  ⟨Tryz.underlying49, by obtain ⟨i0, hi, h0, h1, h2⟩ := info_parts info_byte; exact ⟨i0, hi, h0, h1, h2⟩, rfl, by decide⟩
theorem byts_append (a b : List Nat) : byts (a ++ b) = byts a ++ byts b := by simp [byts]
theorem byts_one (l : List Nat) : ∀ u ∈ byts l, u.oneCell' = true := by simp [byts, Value.oneCell']
theorem byts_take (l : List Nat) (n : Nat) : (byts l).take n = byts (l.take n) := by simp [byts]
theorem byts_set (l : List Nat) (i x : Nat) : (byts l).set i (.int .u8 (x : Int)) = byts (l.set i x) := by simp [byts, List.map_set]
theorem own_slb {w : World} {B n c : Nat} {a : Option Addr} {l : List Nat} (h : w.ownsRow B 5 1 (.slice a n c) n (byts l)) : SlB w a n c l := own_slc h
theorem SlB.len {w : World} {a : Option Addr} {n cap : Nat} {l : List Nat} (h : SlB w a n cap l) : l.length = n := by
  have := SlC.hlen h
  rw [byts_length, Nat.mul_one] at this; exact this
theorem SlB.below {w w' : World} {a : Option Addr} {n cap : Nat} {l : List Nat} (h : SlB w a n cap l) (hb : Below w.heap.size w w') : SlB w' a n cap l := SlC.below h hb
theorem byte_cell {w : World} {a : Option Addr} {n cap : Nat} {l : List Nat} (h : SlB w a n cap l) (i : Nat) (hi : i < n) : ∃ b off, a = some ⟨b, off, none⟩ ∧ w.cell? ⟨b, off + i, none⟩ = some (.int .u8 ((l.getD i 0 : Nat) : Int)) := by
  have hl := h.len
  obtain ⟨b, off, ha, hc⟩ := h.at i (by omega)
  exact ⟨b, off, ha, by rw [hc, getD_at _ _ (by omega)]⟩
/-- A slice from place k on. -/
theorem SlB.drop {w : World} {b off n cap k : Nat} {l : List Nat} (h : SlB w (some ⟨b, off, none⟩) n cap l) (hk : k ≤ n) : SlB w (some ⟨b, off + k, none⟩) (n - k) (cap - k) (l.drop k) := by
  have hl := h.len
  refine ⟨by rw [byts_length, List.length_drop]; omega, by have := SlC.le h; omega, by have := SlC.capm h; omega, (fun h => by cases h), fun i hi => ?_⟩
  rw [byts_length, List.length_drop] at hi
  obtain ⟨b', off', e, hc⟩ := h.at (k + i) (by omega)
  cases e
  refine ⟨b, off + k, rfl, ?_⟩
  rw [show off + k + i = off + (k + i) by omega, hc]
  simp [byts]
/-- A row that is a's, or lies in a block that was made since. -/
def Since (w : World) (a ra : Option Addr) : Prop := blk ra = blk a ∨ ∀ k, blk ra = some k → w.heap.size ≤ k
theorem Since.refl (w : World) (a : Option Addr) : Since w a a := .inl rfl
theorem Since.next {w wr : World} {a ra ra' : Option Addr} (h : Since w a ra) (hle : w.heap.size ≤ wr.heap.size) (hn : NewOr wr ra ra') : Since w a ra' := by
  unfold Since at *
  rcases hn with e | ⟨g, e, hg⟩
  · rw [e]; exact h
  · refine .inr fun k hk => ?_
    rw [e] at hk
    cases hk
    omega
theorem grown_since {w wr w' : World} {a ra : Option Addr} (h : w.grownBy wr (blk a)) (hs : Since w a ra) (k : wr.grownBy w' (blk ra)) : w.grownBy w' (blk a) :=
  ⟨k.os.trans h.os, k.tape.trans h.tape, k.output.trans h.output, Nat.le_trans h.size k.size, fun i hi hr => (k.block i (Nat.lt_of_lt_of_le hi h.size) (fun e => by
    rcases hs with hs | hs
    · rw [hs] at e; exact hr e
    · have := hs i e.symm; omega)).trans (h.block i hi hr)⟩
theorem u8w (a : Nat) (h : a < 256) : IntKind.u8.wrap (a : Int) = (a : Int) := by rw [IntKind.wrap_u8']; omega

/-- 'append(s, x..)' where s has no room left: whoever owns it. -/
theorem wpList_pushFull {P : Program} {t e : TypeId} {size bytes : Nat} {z : Value} (T : ElemTy P t e size bytes z)
    {ops : Array Oper} {rest : List Oper} {o : Oper} {a : Act} {Q : Exit → Act → World → Prop} {w : World} (hgd : o.guard = none) (s x : Operand)
    (ho : o.op = .call { callee := .builtin .append, args := #[s, x], argTypes := #[t, t] })
    (B : Nat) (sa : Option Addr) (n : Nat) (xs : List Value) (hs : a.eval s = .slice sa n n) (hsl : SlC w sa n n size xs)
    (m : Nat) (cs : Array Value) (hx : a.eval x = .slice (some ⟨w.heap.size, 0, none⟩) m m) (hl : cs.size = m * size) (h1 : ∀ u ∈ cs.toList, u.oneCell' = true) (hm : 0 < m)
    (hbytes : (n + m) * bytes ≤ 140737488355328) (hbp : 0 < bytes) (hB : B ≤ w.heap.size)
    (h : ∀ sa' cap' w', w'.ownsRow B e size (.slice sa' (n + m) cap') (n + m) (xs ++ cs.toList) → Below B w w' → wpList P ops Q rest (a.put o.dst (.slice sa' (n + m) cap')) w') :
    wpList P ops Q (o :: rest) a (w.alloc (.cells cs e)) := by
  obtain ⟨i, hi, hz, hsz, hby⟩ := T.info
  have hnm : n + m ≤ maxLen := by
    have : n + m ≤ (n + m) * bytes := Nat.le_mul_of_pos_right _ hbp
    simp only [maxLen]; omega
  have hba : Below w.heap.size w (w.alloc (.cells cs e)) := below_alloc (Nat.le_refl _) _
  have hsl2 := hsl.below hba
  refine wpList_append_grows (w.alloc (.cells cs e)) hgd s x t ho e i z size bytes T.und hi hz hsz hby T.zs T.pos sa n n xs hs (fun h => by have := hsl2.nil h; omega) hsl.hlen ?_ ⟨w.heap.size, 0, none⟩ m m cs.toList hx (by simpa using hl) (cells_new w cs e) h1 (by omega) hnm hbytes ?_
  · intro b hb
    subst hb
    exact hsl2.news
  · intro v' w' hown' hg
    have hv : ∃ sa' cap', v' = .slice sa' (n + m) cap' := by
      rcases hown'.2 with ⟨h, h0⟩ | ⟨g, cap, cur, hv, hgs, _⟩
      · omega
      · exact ⟨_, _, hv⟩
    obtain ⟨sa', cap', rfl⟩ := hv
    refine h sa' cap' w' (own_base hown' (by simp; omega)) ((hba.mono hB).trans (grown_below hg (by simp; omega) (fun k hk => by cases hk)))

end Go.Proofs.YteeeikninigeoaaGreatDoor

