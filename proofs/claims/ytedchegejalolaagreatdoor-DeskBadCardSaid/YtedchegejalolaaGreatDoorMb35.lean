import Derived.Test.YtedchegejalolaaGreatDoorMb2
import Derived.Test.YtedchegejalolaaGreatDoorMb34
import Derived.Test.YtedchegejalolaaGreatDoorMb0
import Derived.Test.YtedchegejalolaaGreatDoorMb1
import Derived.Test.YtedchegejalolaaGreatDoorMb4
import Derived.Lib.SlBytesRow
/- desk: chores. -/
namespace Go.Proofs.YtedchegejalolaaGreatDoor.Dk
set_option linter.unusedVariables false
open Go.RowKit Go.ChangeShapes Go.WideShapes Go.Deep

/-- A chore. -/
structure Ch where
  k : Int
  x : Int
  y : Int
  w : Int
  a : Int
  b : Int
  c : Int
  d : Int
instance : Inhabited Ch := ⟨⟨0, 0, 0, 0, 0, 0, 0, 0⟩⟩
def chL (x : Ch) : List Value := [.int .i64 x.k, .int .i64 x.x, .int .i64 x.y, .int .i64 x.w, .int .i64 x.a, .int .i64 x.b, .int .i64 x.c, .int .i64 x.d]
theorem chL_len (x : Ch) : (chL x).length = 8 := rfl
structure Ch.Wf (h : Ch) : Prop where
  k : (Lit.int .i64 h.k).wf = true
  x : (Lit.int .i64 h.x).wf = true
  y : (Lit.int .i64 h.y).wf = true
  w : (Lit.int .i64 h.w).wf = true
  a : (Lit.int .i64 h.a).wf = true
  b : (Lit.int .i64 h.b).wf = true
  c : (Lit.int .i64 h.c).wf = true
  d : (Lit.int .i64 h.d).wf = true
theorem chores_in {w : World} {a : Option Addr} {len cap : Nat} {zs : List Int} (h : IsFlat 8 w a len cap zs) : ∃ L : List Ch, SlF chL 8 w a len cap L ∧ (∀ x ∈ L, x.Wf) ∧ len ≤ maxLen := by
  obtain ⟨h1, h2, h3, h4⟩ := flat_slc (by omega) h
  have key : ∀ (n : Nat) (zs : List Int), zs.length = n * 8 → (∀ n ∈ zs, (Lit.int .i64 n).wf = true) → ∃ L : List Ch, flat chL L = ints zs ∧ ∀ x ∈ L, x.Wf := by
    intro n
    induction n with
    | zero =>
      intro zs hz _
      obtain rfl : zs = [] := List.length_eq_zero_iff.1 (by omega)
      exact ⟨[], rfl, by simp⟩
    | succ n ih =>
      intro zs hz hw
      obtain ⟨c0, c1, c2, c3, c4, c5, c6, c7, e⟩ := list_of8 (l := zs.take 8) (by rw [List.length_take]; omega)
      have e2 : zs = c0 :: c1 :: c2 :: c3 :: c4 :: c5 :: c6 :: c7 :: zs.drop 8 := by
        conv => lhs; rw [← List.take_append_drop 8 zs, e]
        rfl
      generalize zs.drop 8 = zt at e2
      subst e2
      obtain ⟨L, hL, hwL⟩ := ih zt (by simp at hz; omega) (fun n hn => hw n (by simp [hn]))
      refine ⟨⟨c0, c1, c2, c3, c4, c5, c6, c7⟩ :: L, ?_, fun x hx => ?_⟩
      · have : flat chL (⟨c0, c1, c2, c3, c4, c5, c6, c7⟩ :: L) = chL ⟨c0, c1, c2, c3, c4, c5, c6, c7⟩ ++ flat chL L := by simp [flat]
        rw [this, hL]; rfl
      · rcases List.mem_cons.1 hx with rfl | hx
        · exact ⟨hw c0 (by simp), hw c1 (by simp), hw c2 (by simp), hw c3 (by simp), hw c4 (by simp), hw c5 (by simp), hw c6 (by simp), hw c7 (by simp)⟩
        · exact hwL x hx
  obtain ⟨L, hL, hw⟩ := key len zs h4 h2
  exact ⟨L, by unfold SlF; rw [hL]; exact h1, hw, h3⟩

end Go.Proofs.YtedchegejalolaaGreatDoor.Dk

/- desk: the commands that are refused; the loading of what was saved; the commands of chores. -/
namespace Go.Proofs.YtedchegejalolaaGreatDoor.Dk
set_option linter.unusedVariables false
open Go.RowKit Qk

theorem isNum_dig (u : Nat) (h : u < 10) : IsNum [UInt8.ofNat (48 + u)] (u : Int) := by
  have := (num3 (x := (u : Int)) (by omega) (by omega)).num
  rwa [Lib.itoa_nonneg, Lib.decDigits_one h] at this
theorem odd0 : (badC [112, 117, 116, 32, 49, 32, 50]).Ok :=
  bad_with putK [49, 32, 50] rfl (by decide) (by decide) (by decide) _ 0 hf_put eg_put (fun db W hT hB =>
    put_bad db [[49], [50]] (by simp) (by decide) (by decide) (by decide) (numBad_few [[49], [50]] [1, 2] 3 rfl (fun i hi => by
      have hi2 : i = 0 ∨ i = 1 := by simp at hi; omega
      rcases hi2 with rfl | rfl
      · exact isNum_dig 1 (by omega)
      · exact isNum_dig 2 (by omega)) (by decide) (by decide)) W hT hB)
theorem odd1 : (badC [112, 117, 116, 32, 48, 49, 32, 50, 32, 51]).Ok :=
  bad_with putK [48, 49, 32, 50, 32, 51] rfl (by decide) (by decide) (by decide) _ 0 hf_put eg_put (fun db W hT hB =>
    put_bad db [[48, 49], [50], [51]] (by simp) (by decide) (by decide) (by decide) (numBad_odd [48, 49] 1 [[50], [51]] 3 (by decide) (by
      rw [show (1 : Int) = ((1 : Nat) : Int) from rfl, Lib.itoa_nonneg, Lib.decDigits_one (by omega)]; decide) (by omega) (by decide) (by decide)) W hT hB)
theorem odd2 : (badC [100, 114, 111, 112, 32]).Ok :=
  bad_line dropK [] true (cut_hit dropK [] (by decide)) (by decide) (by decide) (by decide) (by decide)
theorem odd3 : (badC [97, 115, 107, 32, 119]).Ok :=
  bad_with askK [119] rfl (by decide) (by decide) (by decide) _ 1 hf_ask eg_ask (fun db W hT hB => (ask_bad db [119] W (parse_w W hT)).mono fun e w' ⟨he, hb⟩ => ⟨he, hb.out⟩)
theorem odd4 : (badC [99, 111, 117, 110, 116, 32, 49, 32, 50, 32, 51]).Ok :=
  bad_with countK [49, 32, 50, 32, 51] rfl (by decide) (by decide) (by decide) _ 2 hf_count eg_count (fun db W hT hB =>
    count_bad db [[49], [50], [51]] (by simp) (by decide) (by decide) (by decide) (numBad_few [[49], [50], [51]] [1, 2, 3] 4 rfl (fun i hi => by
      have hi2 : i = 0 ∨ i = 1 ∨ i = 2 := by simp at hi; omega
      rcases hi2 with rfl | rfl | rfl
      · exact isNum_dig 1 (by omega)
      · exact isNum_dig 2 (by omega)
      · exact isNum_dig 3 (by omega)) (by decide) (by decide)) W hT hB)
theorem odd5 : (badC [108, 111, 97, 100, 32, 48]).Ok :=
  bad_with loadK [48] rfl (by decide) (by decide) (by decide) _ 3 hf_load eg_load (fun db W hT hB => (load_odd db [48] 0 rfl (by omega) W).mono fun e w' ⟨he, hb⟩ => ⟨he, hb.out⟩)
theorem odd6 : (badC [115, 107, 121, 32, 115, 107, 121]).Ok :=
  bad_line skyK skyK true (cut_hit skyK skyK (by decide)) (by decide) (by decide) (by decide) (by decide)
theorem odd7 : (badC []).Ok :=
  bad_line [] [] false (cut_none [] (by decide)) (by decide) (by decide) (by decide) (by decide)
theorem odd8 : (badC [97, 115, 107, 32, 105, 110, 32, 49, 32, 50, 32, 51, 32, 52, 32, 53]).Ok :=
  bad_with askK [105, 110, 32, 49, 32, 50, 32, 51, 32, 52, 32, 53] rfl (by decide) (by decide) (by decide) _ 1 hf_ask eg_ask (fun db W hT hB => (ask_bad db _ W (parse_five W hT)).mono fun e w' ⟨he, hb⟩ => ⟨he, hb.out⟩)
theorem oddBad : (badC [98, 97, 100]).Ok :=
  bad_line [98, 97, 100] [] false (cut_none [98, 97, 100] (by decide)) (by decide) (by decide) (by decide) (by decide)
def load44 (d : Int) : Cmd := badC (loadK ++ 32 :: ([52, 52] ++ Lib.itoa d))
theorem hex44 : ∀ i : Fin 100, 10 ≤ i.val → [52, 52] ++ decT i.val = hexT [68, 16 * (i.val / 10) + i.val % 10] ∧ 16 * (i.val / 10) + i.val % 10 < 256 := by decide
theorem load44_ok (d : Nat) (hd : d < 99) : (load44 d).Ok := by
  have hn := num3 (x := (d : Int)) (by omega) (by omega)
  have hl := hn.len
  have e : Lib.itoa (d : Int) = decT d := by rw [Lib.itoa_nonneg, decT_eq (by omega)]
  have hnl : (10 : UInt8) ∉ loadK ++ 32 :: ([52, 52] ++ Lib.itoa (d : Int)) := fun h => by
    rcases List.mem_append.1 h with h | h
    · revert h; decide
    · rcases List.mem_cons.1 h with h | h
      · revert h; decide
      · rcases List.mem_append.1 h with h | h
        · revert h; decide
        · exact hn.no10 h
  have hlen : (loadK ++ 32 :: ([52, 52] ++ Lib.itoa (d : Int))).length ≤ 400 := by
    simp only [loadK, List.length_append, List.length_cons, List.length_nil]; omega
  refine bad_ok hnl hlen (fun k hk => ?_)
  refine runs_with k _ loadK ([52, 52] ++ Lib.itoa (d : Int)) rfl (by decide) (by simp only [loadK, List.length_append, List.length_cons, List.length_nil]; omega) _ 3 hf_load eg_load (fun L B db pc pa W hfit hD hB hT hBig => ?_)
  by_cases h10 : d < 10
  · refine same_of hD (load_odd db _ 1 ?_ (by omega) W)
    rw [e]
    unfold decT
    rw [if_pos h10]; rfl
  · obtain ⟨e2, e3⟩ := hex44 ⟨d, by omega⟩ (by show 10 ≤ d; omega)
    rw [e, e2]
    have := load_hex B db pc pa L [68, 16 * (d / 10) + d % 10] (fun x hx => by
      simp only [List.mem_cons, List.not_mem_nil, or_false] at hx
      rcases hx with rfl | rfl
      · omega
      · exact e3) 2 rfl (by omega) 5 [] (by decide) W hD hB hT (fun W a c hs => (loadShort_any a 2 c W (by omega)).mono fun e w' ⟨he, hw⟩ => by
        subst hw
        exact ⟨none, 0, 0, he, ⟨fun h => absurd h (by decide)⟩, ⟨Below.refl _ _⟩⟩)
    exact this
/-- The expressions that are asked. -/
def exW (k : Int) : Ex := .two true (.hv k) (.inn 0 0 9 9)
theorem itoa_dig (u : Nat) (h : u < 10) : Lib.itoa (u : Int) = [UInt8.ofNat (48 + u)] := by rw [Lib.itoa_nonneg, Lib.decDigits_one h]
theorem itoa_two' (u : Nat) (h1 : 10 ≤ u) (h : u < 100) : Lib.itoa (u : Int) = [UInt8.ofNat (48 + u / 10), UInt8.ofNat (48 + u % 10)] := by rw [Lib.itoa_nonneg, Lib.decDigits_two (by omega) h]
theorem exW_txt (k : Int) : (exW k).txt = [119, 32] ++ Lib.itoa k ++ [32, 124, 32, 105, 110, 32, 48, 32, 48, 32, 57, 32, 57] := by
  have i0 := itoa_dig 0 (by omega)
  have i9 := itoa_dig 9 (by omega)
  simp only [exW, Ex.txt, Ex.wrapT, Ex.rank, Ex.kind, Ex.ok, Ex.sepT, Ex.num]
  rw [show Lib.itoa 0 = [48] from i0, show Lib.itoa 9 = [57] from i9]
  simp
theorem askW_ok (k : Nat) (hk : k < 9) : (askC (exW k)).Ok := by
  have hn := num3 (x := (k : Int)) (by omega) (by omega)
  refine ask_ok ?_ (by show max 1 1 + 1 ≤ 2; decide) ?_
  · simp only [exW, Ex.small]; omega
  · rw [exW_txt]
    intro h
    rcases List.mem_append.1 h with h | h
    · rcases List.mem_append.1 h with h | h
      · revert h; decide
      · exact hn.no10 h
    · revert h; decide
/-- The command of a chore. -/
noncomputable def cmdOf (h : Ch) : Cmd :=
  if pick h.k 9 < 4 then putC (pick h.x 40 - 20) (pick h.y 40 - 20) (pick h.w 9)
  else if pick h.k 9 = 4 then dropC
  else if pick h.k 9 = 5 then countC (-9) (pick h.a 20 - 10) (pick h.b 20) 20
  else if pick h.k 9 = 6 then askC (exW (pick h.a 9))
  else if pick h.k 9 = 7 then (if pick h.a 4 = 0 then skyC else if pick h.a 4 = 1 then areaC else if pick h.a 4 = 2 then saveC else badC [98, 97, 100])
  else load44 (pick h.a 99)
theorem cmdOf_ok (h : Ch) : (cmdOf h).Ok := by
  unfold cmdOf
  obtain ⟨vx, ex, gx⟩ := pick_nat h.x 40 (by omega)
  obtain ⟨vy, ey, gy⟩ := pick_nat h.y 40 (by omega)
  obtain ⟨vw, ew, gw⟩ := pick_nat h.w 9 (by omega)
  obtain ⟨va, ea, ga⟩ := pick_nat h.a 20 (by omega)
  obtain ⟨vb, eb, gb⟩ := pick_nat h.b 20 (by omega)
  obtain ⟨va9, ea9, ga9⟩ := pick_nat h.a 9 (by omega)
  obtain ⟨va99, ea99, ga99⟩ := pick_nat h.a 99 (by omega)
  rw [ex, ey, ew, ea, eb, ea9, ea99]
  split
  · exact put_ok (num3 (by omega) (by omega)) (num3 (by omega) (by omega)) (num3 (by omega) (by omega))
  split
  · exact drop_ok
  split
  · exact count_ok (num3 (by omega) (by omega)) (num3 (by omega) (by omega)) (num3 (by omega) (by omega)) (num3 (by omega) (by omega))
  split
  · exact askW_ok va9 (by omega)
  split
  · split
    · exact sky_ok
    split
    · exact area_ok
    split
    · exact save_ok
    · exact oddBad
  · exact load44_ok va99 (by omega)

end Go.Proofs.YtedchegejalolaaGreatDoor.Dk

/- Num: numbers as text. -/
namespace Go.Proofs.YtedchegejalolaaGreatDoor.Dk
set_option linter.unusedVariables false
open Go.RowKit

set_option maxRecDepth 100000 in
set_option maxHeartbeats 4000000 in
theorem num_digit (n : Nat) (hn : n < 10) (w : World) : Calls Tryz.prog 11 #[.int .i64 (n : Int)] w fun e w' => e = .returned (str [UInt8.ofNat (48 + n)]) ∧ Kp (Below w.heap.size w w') := by
  have h1 : (n : Int) < 10 := by omega
  have h0 : ¬ (n : Int) < 0 := by omega
  have e1 : IntKind.i64.wrap (48 + (n : Int)) = 48 + (n : Int) := IntWalk.i64_in _ (by omega)
  have e2 : IntKind.u8.wrap (48 + (n : Int)) = 48 + (n : Int) := by unfold IntKind.wrap; simp [IntKind.bits, IntKind.signed]; omega
  have hcv : (convert 46 9 (.slice (some ⟨w.heap.size, 0, none⟩) 1 1)).run Tryz.prog (w.alloc (.cells #[.int .u8 (48 + (n : Int))] 5)) = .ok (.string ⟨#[UInt8.ofNat (48 + n)]⟩) (w.alloc (.cells #[.int .u8 (48 + (n : Int))] 5)) :=
    Lib.run_convert_whole (w.alloc (.cells #[.int .u8 (48 + (n : Int))] 5)) 46 5 9 Tryz.underlying46 Tryz.underlying5 Tryz.underlying9 w.heap.size 0 ⟨#[UInt8.ofNat (48 + n)]⟩ (fun i hi => by
      have hi0 : i = 0 := by
        have : (⟨#[UInt8.ofNat (48 + n)]⟩ : ByteArray).size = 1 := rfl
        omega
      subst hi0
      have hb := (Box.new w #[.int .u8 (48 + (n : Int))] 5).cell 0 rfl
      rw [hb]
      have : ((⟨#[UInt8.ofNat (48 + n)]⟩ : ByteArray)[0]'hi).toNat = 48 + n := by
        show (UInt8.ofNat (48 + n)).toNat = 48 + n
        rw [UInt8.toNat_ofNat']; omega
      rw [this]; simp) 1
  have HA := Kp.mk (below_alloc (Nat.le_refl w.heap.size) (.cells #[.int .u8 (48 + (n : Int))] 5))
  go_enter Tryz.func11, Tryz.ntmps11
  go_wp2
  go_ret
  exact ⟨rfl, HA⟩

set_option maxRecDepth 100000 in
set_option maxHeartbeats 4000000 in
theorem num_two (n : Nat) (h10 : 10 ≤ n) (hn : n < 100) (w : World) : Calls Tryz.prog 11 #[.int .i64 (n : Int)] w fun e w' => e = .returned (str [UInt8.ofNat (48 + n / 10), UInt8.ofNat (48 + n % 10)]) ∧ Kp (Below w.heap.size w w') := by
  obtain ⟨q, hq⟩ : ∃ q, n / 10 = q := ⟨_, rfl⟩
  obtain ⟨r, hr⟩ : ∃ r, n % 10 = r := ⟨_, rfl⟩
  rw [hq, hr]
  have hq9 : q < 10 := by omega
  have hr9 : r < 10 := by omega
  have h1 : ¬ (n : Int) < 10 := by omega
  have h0 : ¬ (n : Int) < 0 := by omega
  have C1 := Kp.mk (fun W => num_digit q hq9 W)
  have C2 := Kp.mk (fun W => num_digit r hr9 W)
  have e1 : (n : Int).tdiv 10 = (q : Int) := by rw [Int.tdiv_eq_ediv_of_nonneg (by omega)]; omega
  have e2 : (n : Int).tmod 10 = (r : Int) := by rw [Int.tmod_eq_emod_of_nonneg (by omega)]; omega
  have e3 : (n : Int) / 10 = (q : Int) := by omega
  have e4 : (n : Int) % 10 = (r : Int) := by omega
  have e5 : IntKind.i64.wrap (q : Int) = (q : Int) := IntWalk.i64_in _ (by omega)
  have e6 : IntKind.i64.wrap (r : Int) = (r : Int) := IntWalk.i64_in _ (by omega)
  clear hq hr
  have hadd : (⟨#[UInt8.ofNat (48 + q)]⟩ : ByteArray) ++ ⟨#[UInt8.ofNat (48 + r)]⟩ = ⟨#[UInt8.ofNat (48 + q), UInt8.ofNat (48 + r)]⟩ := str_add [UInt8.ofNat (48 + q)] [UInt8.ofNat (48 + r)]
  obtain ⟨A, hA⟩ : ∃ A, UInt8.ofNat (48 + q) = A := ⟨_, rfl⟩
  obtain ⟨C, hC⟩ : ∃ C, UInt8.ofNat (48 + r) = C := ⟨_, rfl⟩
  rw [hA] at C1 hadd ⊢
  rw [hC] at C2 hadd ⊢
  have s1 : (⟨#[A]⟩ : ByteArray).size ≤ 1 := by show (#[A] : Array UInt8).size ≤ 1; simp
  have s2 : (⟨#[C]⟩ : ByteArray).size ≤ 1 := by show (#[C] : Array UInt8).size ≤ 1; simp
  have s3 : (⟨#[A, C]⟩ : ByteArray).size ≤ 2 := by show (#[A, C] : Array UInt8).size ≤ 2; simp
  clear hA hC
  go_enter Tryz.func11, Tryz.ntmps11
  go_wp2_with fail
  refine (C1.out _).mono ?_
  rintro e w1 ⟨rfl, HB1⟩
  go_wp2_with fail
  refine (C2.out _).mono ?_
  rintro e w2 ⟨rfl, HB2⟩
  have HB := Kp.mk (below_step HB1.out HB2.out)
  clear C1 C2 HB1 HB2
  go_wp2
  go_ret
  exact ⟨rfl, HB⟩
theorem num_nat (n : Nat) (hn : n < 100) (w : World) : Calls Tryz.prog 11 #[.int .i64 (n : Int)] w fun e w' => e = .returned (str (Lib.itoa (n : Int))) ∧ Kp (Below w.heap.size w w') := by
  rw [Lib.itoa_nonneg]
  by_cases h : n < 10
  · rw [Lib.decDigits_one h]; exact num_digit n h w
  · rw [Lib.decDigits_two h hn]; exact num_two n (by omega) hn w
set_option maxRecDepth 100000 in
set_option maxHeartbeats 4000000 in
theorem num_neg (n : Nat) (h1 : 1 ≤ n) (hn : n < 100) (w : World) : Calls Tryz.prog 11 #[.int .i64 (-(n : Int))] w fun e w' => e = .returned (str (Lib.itoa (-(n : Int)))) ∧ Kp (Below w.heap.size w w') := by
  have C := Kp.mk (fun W => num_nat n hn W)
  rw [Lib.itoa_neg n h1]
  rw [Lib.itoa_nonneg] at C
  have hl : (Lib.decDigits n).length ≤ 2 := by
    by_cases h : n < 10
    · rw [Lib.decDigits_one h]; simp
    · rw [Lib.decDigits_two h hn]; simp
  have hadd : (⟨#[45]⟩ : ByteArray) ++ ⟨(Lib.decDigits n).toArray⟩ = ⟨(45 :: Lib.decDigits n).toArray⟩ := str_add [45] (Lib.decDigits n)
  have s1 : (⟨(Lib.decDigits n).toArray⟩ : ByteArray).size ≤ 2 := str_size hl
  have s3 : (⟨(45 :: Lib.decDigits n).toArray⟩ : ByteArray).size ≤ 3 := str_size (by simp; omega)
  obtain ⟨R, hR⟩ : ∃ R, 45 :: Lib.decDigits n = R := ⟨_, rfl⟩
  rw [hR] at hadd s3 ⊢
  clear hR
  generalize Lib.decDigits n = D at *
  have h0 : (-(n : Int)) < 0 := by omega
  have e1 : IntKind.i64.wrap (n : Int) = (n : Int) := IntWalk.i64_in _ (by omega)
  have e2 : IntKind.i64.wrap (-(-(n : Int))) = (n : Int) := by rw [Int.neg_neg]; exact e1
  have s0 : (⟨#[45]⟩ : ByteArray).size ≤ 1 := by decide
  go_enter Tryz.func11, Tryz.ntmps11
  go_wp2_with fail
  refine (C.out _).mono ?_
  rintro e w1 ⟨rfl, HB1⟩
  clear C
  go_wp2
  go_ret
  exact ⟨rfl, HB1⟩
/-- Num is the numeral. -/
theorem num_any (z : Int) (h1 : -100 < z) (h2 : z < 100) (w : World) : Calls Tryz.prog 11 #[.int .i64 z] w fun e w' => e = .returned (str (Lib.itoa z)) ∧ Kp (Below w.heap.size w w') := by
  rcases Int.lt_or_le z 0 with h | h
  · obtain ⟨u, rfl⟩ : ∃ u : Nat, z = -(u : Int) := ⟨z.natAbs, by omega⟩
    exact num_neg u (by omega) (by omega) w
  · obtain ⟨u, rfl⟩ : ∃ u : Nat, z = (u : Int) := ⟨z.toNat, by omega⟩
    exact num_nat u (by omega) w

end Go.Proofs.YtedchegejalolaaGreatDoor.Dk

/- desk: Lines: the lines of chores (printed by genlines.py). -/
namespace Go.Proofs.YtedchegejalolaaGreatDoor.Dk
set_option linter.unusedVariables false
open Go.RowKit

theorem cmd_put {ck cx cy cw ca cb cc cd : Int} (hk : pick ck 9 < 4) : (cmdOf ⟨ck, cx, cy, cw, ca, cb, cc, cd⟩).t = putK ++ 32 :: joinC 32 [Lib.itoa (pick cx 40 - 20), Lib.itoa (pick cy 40 - 20), Lib.itoa (pick cw 9)] := by
  unfold cmdOf; rw [if_pos hk]; rfl
theorem cmd_drop {ck cx cy cw ca cb cc cd : Int} (hk : pick ck 9 = 4) : (cmdOf ⟨ck, cx, cy, cw, ca, cb, cc, cd⟩).t = dropK := by
  unfold cmdOf; rw [if_neg (by show ¬ pick ck 9 < 4; omega), if_pos hk]; rfl
theorem cmd_count {ck cx cy cw ca cb cc cd : Int} (hk : pick ck 9 = 5) : (cmdOf ⟨ck, cx, cy, cw, ca, cb, cc, cd⟩).t = countK ++ 32 :: joinC 32 [[45, 57], Lib.itoa (pick ca 20 - 10), Lib.itoa (pick cb 20), [50, 48]] := by
  unfold cmdOf; rw [if_neg (by show ¬ pick ck 9 < 4; omega), if_neg (by show ¬ pick ck 9 = 4; omega), if_pos hk]
  unfold countC
  rw [show Lib.itoa (-9) = [45, 57] from by rw [show (-9 : Int) = -((9 : Nat) : Int) from rfl, Lib.itoa_neg 9 (by omega), Lib.decDigits_one (by omega)]; decide, show Lib.itoa 20 = [50, 48] from itoa_two' 20 (by omega) (by omega)]
theorem cmd_ask {ck cx cy cw ca cb cc cd : Int} (hk : pick ck 9 = 6) : (cmdOf ⟨ck, cx, cy, cw, ca, cb, cc, cd⟩).t = askK ++ 32 :: ([119, 32] ++ Lib.itoa (pick ca 9) ++ [32, 124, 32, 105, 110, 32, 48, 32, 48, 32, 57, 32, 57]) := by
  unfold cmdOf; rw [if_neg (by show ¬ pick ck 9 < 4; omega), if_neg (by show ¬ pick ck 9 = 4; omega), if_neg (by show ¬ pick ck 9 = 5; omega), if_pos hk]
  unfold askC
  rw [exW_txt]
theorem cmd_word {ck cx cy cw ca cb cc cd : Int} (hk : pick ck 9 = 7) : (cmdOf ⟨ck, cx, cy, cw, ca, cb, cc, cd⟩).t = if pick ca 4 = 0 then skyK else if pick ca 4 = 1 then areaK else if pick ca 4 = 2 then saveK else [98, 97, 100] := by
  unfold cmdOf; rw [if_neg (by show ¬ pick ck 9 < 4; omega), if_neg (by show ¬ pick ck 9 = 4; omega), if_neg (by show ¬ pick ck 9 = 5; omega), if_neg (by show ¬ pick ck 9 = 6; omega), if_pos hk]
  dsimp only
  split
  · rfl
  split
  · rfl
  split <;> rfl
theorem cmd_load {ck cx cy cw ca cb cc cd : Int} (hk : pick ck 9 = 8) : (cmdOf ⟨ck, cx, cy, cw, ca, cb, cc, cd⟩).t = loadK ++ 32 :: ([52, 52] ++ Lib.itoa (pick ca 99)) := by
  unfold cmdOf; rw [if_neg (by show ¬ pick ck 9 < 4; omega), if_neg (by show ¬ pick ck 9 = 4; omega), if_neg (by show ¬ pick ck 9 = 5; omega), if_neg (by show ¬ pick ck 9 = 6; omega), if_neg (by show ¬ pick ck 9 = 7; omega)]; rfl
theorem num_later {w : World} (z : Int) (h1 : -100 < z) (h2 : z < 100) (x : Later w) : Calls Tryz.prog 11 #[.int .i64 z] x.val fun e w' => e = .returned (str (Lib.itoa z)) ∧ Below x.val.heap.size x.val w' :=
  (num_any z h1 h2 x.val).mono fun e w' ⟨he, hb⟩ => ⟨he, hb.out⟩
theorem pick_later {w : World} (a n : Int) (h0 : 0 < n) (h1 : n ≤ 1000) (i1 : -9223372036854775808 ≤ a) (i2 : a ≤ 9223372036854775807) (v : Int) (hv : pick a n = v) (x : Later w) : Calls Tryz.prog 9 #[.int .i64 a, .int .i64 n] x.val fun e w' => e = .returned (.int .i64 v) ∧ Below x.val.heap.size x.val w' :=
  (picked_any a n x.val h0 (by omega) i1 i2).mono fun e w' ⟨he, hw⟩ => by
    subst hw; rw [hv] at he; exact ⟨he, Below.refl _ _⟩

set_option maxRecDepth 100000 in
set_option maxHeartbeats 32000000 in
theorem lines_any (la : Option Addr) (lc m : Nat) (C : List Ch) (n : Nat) (hn : n ≤ 25) (w : World) (h : SlF chL 8 w la m lc C) (hl : C.length = m) (hm : m ≤ maxLen) (hw : ∀ x ∈ C, x.Wf) :
    Calls Tryz.prog 6 #[.slice la m lc, .int .i64 (n : Int)] w fun e w' => e = .returned (str (textOf ((C.take n).map cmdOf))) ∧ Kp (Below w.heap.size w w') := by
  have H := Kp.mk h
  have HCL := Kp.mk hl
  have HWF := Kp.mk hw
  unfold maxLen at hm
  have hn25 : (n : Int) ≤ 25 := by omega
  clear h hl hw
  obtain ⟨w0, rfl⟩ : ∃ w0 : World, w0 = w := ⟨_, rfl⟩
  go_enter Tryz.func6, Tryz.ntmps6
  go_wp2
  go_loopw [5, 6] (fun sv iv wr => ∃ (k : Nat) (S : Wd), k ≤ m ∧ k ≤ n ∧ S.length ≤ 60 * k ∧ iv = .int .i64 k ∧ sv = str S ∧ Kp (S = textOf ((C.take k).map cmdOf)) ∧ Kp (Below w0.heap.size w0 wr)) (fun _ iv _ => m - (intOf iv).toNat)
  case atStart => exact ⟨0, [], Nat.zero_le _, Nat.zero_le _, Nat.le_refl _, rfl, rfl, ⟨rfl⟩, ⟨Below.refl _ _⟩⟩
  case round =>
    obtain ⟨k, S, hk, hkn, hS, rfl, rfl, HS, HB⟩ := hrel
    by_cases hlt : k < m
    · by_cases hltn : k < n
      · have hkC : k < C.length := by rw [HCL.out]; exact hlt
        have hLr := SlF.below H.out HB.out
        obtain ⟨lb, lo, rfl, hbw, co⟩ := hLr.at chL_len (by omega) k hkC
        have hwf := HWF.out _ (List.getElem_mem hkC)
        have HSN := Kp.mk (show textOf ((C.take (k + 1)).map cmdOf) = textOf ((C.take k).map cmdOf) ++ ((cmdOf C[k]).t ++ [10]) from by
          rw [List.take_succ_eq_append_getElem hkC, List.map_append, textOf_append]; simp [textOf])
        generalize C[k] = ch at *
        obtain ⟨ck, cx, cy, cw, ca, cb, cc, cd⟩ := ch
        obtain ⟨wk, wx, wy, ww, wa, wb, wc, wd⟩ := hwf
        simp only at wk wx wy ww wa wb wc wd
        obtain ⟨ik1, ik2⟩ := wf_bd wk
        obtain ⟨ix1, ix2⟩ := wf_bd wx
        obtain ⟨iy1, iy2⟩ := wf_bd wy
        obtain ⟨iw1, iw2⟩ := wf_bd ww
        obtain ⟨ia1, ia2⟩ := wf_bd wa
        obtain ⟨ib1, ib2⟩ := wf_bd wb
        have x0 : wr.cell? ⟨lb, lo + k * 8, none⟩ = some (.int .i64 ck) := co 0 (by omega)
        have x1 : wr.cell? ⟨lb, lo + k * 8 + 1, none⟩ = some (.int .i64 cx) := co 1 (by omega)
        have x2 : wr.cell? ⟨lb, lo + k * 8 + 2, none⟩ = some (.int .i64 cy) := co 2 (by omega)
        have x3 : wr.cell? ⟨lb, lo + k * 8 + 3, none⟩ = some (.int .i64 cw) := co 3 (by omega)
        have x4 : wr.cell? ⟨lb, lo + k * 8 + 4, none⟩ = some (.int .i64 ca) := co 4 (by omega)
        have x5 : wr.cell? ⟨lb, lo + k * 8 + 5, none⟩ = some (.int .i64 cb) := co 5 (by omega)
        have x6 : wr.cell? ⟨lb, lo + k * 8 + 6, none⟩ = some (.int .i64 cc) := co 6 (by omega)
        have x7 : wr.cell? ⟨lb, lo + k * 8 + 7, none⟩ = some (.int .i64 cd) := co 7 (by omega)
        have hal := below_alloc (Nat.le_refl wr.heap.size) (.cells #[.int .i64 ck, .int .i64 cx, .int .i64 cy, .int .i64 cw, .int .i64 ca, .int .i64 cb, .int .i64 cc, .int .i64 cd] 37)
        have hbn := Box.new wr #[.int .i64 ck, .int .i64 cx, .int .i64 cy, .int .i64 cw, .int .i64 ca, .int .i64 cb, .int .i64 cc, .int .i64 cd] 37
        obtain ⟨vk, ek, gk⟩ := pick_nat ck 9 (by omega)
        have CK := Kp.mk (fun W => picked_any ck 9 W (by omega) (by omega) ik1 ik2)
        rw [ek] at CK
        have HB1 := Kp.mk (below_step HB.out hal)
        have ewk : IntKind.i64.wrap ((k : Int) + 1) = (k : Int) + 1 := IntWalk.i64_in _ (by omega)
        have hS2 : S.length ≤ 1500 := by omega
        have sS : (⟨S.toArray⟩ : ByteArray).size ≤ 1500 := str_size hS2
        have HEK := Kp.mk ek
        clear HB hLr co wk wx wy ww wa wb wc wd ek
        go_upto_region 6 with (fail)
        obtain ⟨wq, hwq⟩ : ∃ wq, wr.alloc (.cells #[.int .i64 ck, .int .i64 cx, .int .i64 cy, .int .i64 cw, .int .i64 ca, .int .i64 cb, .int .i64 cc, .int .i64 cd] 37) = wq := ⟨_, rfl⟩
        rw [hwq] at hbn HB1 hal
        rw [hwq]
        obtain ⟨tb, htb⟩ : ∃ tb, wr.heap.size = tb := ⟨_, rfl⟩
        rw [htb] at hbn ⊢
        have HTB := Kp.mk htb
        have y0 : wq.cell? ⟨tb, 0, none⟩ = some (.int .i64 ck) := hbn.cell 0 rfl
        have y1 : wq.cell? ⟨tb, 1, none⟩ = some (.int .i64 cx) := hbn.cell 1 rfl
        have y2 : wq.cell? ⟨tb, 2, none⟩ = some (.int .i64 cy) := hbn.cell 2 rfl
        have y3 : wq.cell? ⟨tb, 3, none⟩ = some (.int .i64 cw) := hbn.cell 3 rfl
        have y4 : wq.cell? ⟨tb, 4, none⟩ = some (.int .i64 ca) := hbn.cell 4 rfl
        have y5 : wq.cell? ⟨tb, 5, none⟩ = some (.int .i64 cb) := hbn.cell 5 rfl
        clear x0 x1 x2 x3 x4 x5 x6 x7 hal hbn hwq htb
        have hk9 : vk = 0 ∨ vk = 1 ∨ vk = 2 ∨ vk = 3 ∨ vk = 4 ∨ vk = 5 ∨ vk = 6 ∨ vk = 7 ∨ vk = 8 := by omega
        rcases hk9 with rfl | rfl | rfl | rfl | rfl | rfl | rfl | rfl | rfl
        · obtain ⟨vx, ex, gx⟩ := pick_nat cx 40 (by omega)
          obtain ⟨vy, ey, gy⟩ := pick_nat cy 40 (by omega)
          obtain ⟨vw, ew, gw⟩ := pick_nat cw 9 (by omega)
          have HCM2 := Kp.mk (cmd_put (ck := ck) (cx := cx) (cy := cy) (cw := cw) (ca := ca) (cb := cb) (cc := cc) (cd := cd) (by rw [HEK.out]; decide))
          rw [ex, ey, ew] at HCM2
          have CPx := Kp.mk (fun X : Later wq => pick_later cx 40 (by omega) (by omega) ix1 ix2 _ ex X)
          have CNx := Kp.mk (fun X : Later wq => num_later ((vx : Int) - 20) (by omega) (by omega) X)
          have n3x := num3 (x := (vx : Int) - 20) (by omega) (by omega)
          have ewx : IntKind.i64.wrap ((vx : Int) - 20) = (vx : Int) - 20 := IntWalk.i64_in _ (by omega)
          have lix := n3x.len
          obtain ⟨Ix, hIx⟩ : ∃ I, Lib.itoa ((vx : Int) - 20) = I := ⟨_, rfl⟩
          rw [hIx] at CNx lix HCM2
          have six : (⟨Ix.toArray⟩ : ByteArray).size ≤ 3 := str_size lix
          clear n3x hIx ex
          have CPy := Kp.mk (fun X : Later wq => pick_later cy 40 (by omega) (by omega) iy1 iy2 _ ey X)
          have CNy := Kp.mk (fun X : Later wq => num_later ((vy : Int) - 20) (by omega) (by omega) X)
          have n3y := num3 (x := (vy : Int) - 20) (by omega) (by omega)
          have ewy : IntKind.i64.wrap ((vy : Int) - 20) = (vy : Int) - 20 := IntWalk.i64_in _ (by omega)
          have liy := n3y.len
          obtain ⟨Iy, hIy⟩ : ∃ I, Lib.itoa ((vy : Int) - 20) = I := ⟨_, rfl⟩
          rw [hIy] at CNy liy HCM2
          have siy : (⟨Iy.toArray⟩ : ByteArray).size ≤ 3 := str_size liy
          clear n3y hIy ey
          have CPw := Kp.mk (fun X : Later wq => pick_later cw 9 (by omega) (by omega) iw1 iw2 _ ew X)
          have CNw := Kp.mk (fun X : Later wq => num_later ((vw : Int)) (by omega) (by omega) X)
          have n3w := num3 (x := (vw : Int)) (by omega) (by omega)
          have liw := n3w.len
          obtain ⟨Iw, hIw⟩ : ∃ I, Lib.itoa ((vw : Int)) = I := ⟨_, rfl⟩
          rw [hIw] at CNw liw HCM2
          have siw : (⟨Iw.toArray⟩ : ByteArray).size ≤ 3 := str_size liw
          clear n3w hIw ew
          have sl1 : ((⟨#[112, 117, 116, 32]⟩ : ByteArray) : ByteArray).size ≤ 4 := by decide
          have sl2 : ((⟨#[32]⟩ : ByteArray) : ByteArray).size ≤ 1 := by decide
          have sl3 : ((⟨#[10]⟩ : ByteArray) : ByteArray).size ≤ 1 := by decide
          have hadd4 : ((⟨#[112, 117, 116, 32]⟩ : ByteArray) : ByteArray) ++ ⟨Ix.toArray⟩ = ⟨(([112, 117, 116, 32] : List UInt8) ++ Ix).toArray⟩ := str_add ([112, 117, 116, 32] : List UInt8) Ix
          obtain ⟨T4, hT4⟩ : ∃ T, ([112, 117, 116, 32] : List UInt8) ++ Ix = T := ⟨_, rfl⟩
          rw [hT4] at hadd4
          have lT4 : T4.length ≤ 7 := by rw [← hT4, List.length_append]; (try simp only [List.length_cons, List.length_nil]); omega
          have sT4 : (⟨T4.toArray⟩ : ByteArray).size ≤ 7 := str_size lT4
          have hadd5 : (⟨T4.toArray⟩ : ByteArray) ++ (⟨#[32]⟩ : ByteArray) = ⟨(T4 ++ ([32] : List UInt8)).toArray⟩ := str_add T4 ([32] : List UInt8)
          obtain ⟨T5, hT5⟩ : ∃ T, T4 ++ ([32] : List UInt8) = T := ⟨_, rfl⟩
          rw [hT5] at hadd5
          have lT5 : T5.length ≤ 8 := by rw [← hT5, List.length_append]; (try simp only [List.length_cons, List.length_nil]); omega
          have sT5 : (⟨T5.toArray⟩ : ByteArray).size ≤ 8 := str_size lT5
          have hadd6 : (⟨T5.toArray⟩ : ByteArray) ++ ⟨Iy.toArray⟩ = ⟨(T5 ++ Iy).toArray⟩ := str_add T5 Iy
          obtain ⟨T6, hT6⟩ : ∃ T, T5 ++ Iy = T := ⟨_, rfl⟩
          rw [hT6] at hadd6
          have lT6 : T6.length ≤ 11 := by rw [← hT6, List.length_append]; (try simp only [List.length_cons, List.length_nil]); omega
          have sT6 : (⟨T6.toArray⟩ : ByteArray).size ≤ 11 := str_size lT6
          have hadd7 : (⟨T6.toArray⟩ : ByteArray) ++ (⟨#[32]⟩ : ByteArray) = ⟨(T6 ++ ([32] : List UInt8)).toArray⟩ := str_add T6 ([32] : List UInt8)
          obtain ⟨T7, hT7⟩ : ∃ T, T6 ++ ([32] : List UInt8) = T := ⟨_, rfl⟩
          rw [hT7] at hadd7
          have lT7 : T7.length ≤ 12 := by rw [← hT7, List.length_append]; (try simp only [List.length_cons, List.length_nil]); omega
          have sT7 : (⟨T7.toArray⟩ : ByteArray).size ≤ 12 := str_size lT7
          have hadd8 : (⟨T7.toArray⟩ : ByteArray) ++ ⟨Iw.toArray⟩ = ⟨(T7 ++ Iw).toArray⟩ := str_add T7 Iw
          obtain ⟨T8, hT8⟩ : ∃ T, T7 ++ Iw = T := ⟨_, rfl⟩
          rw [hT8] at hadd8
          have lT8 : T8.length ≤ 15 := by rw [← hT8, List.length_append]; (try simp only [List.length_cons, List.length_nil]); omega
          have sT8 : (⟨T8.toArray⟩ : ByteArray).size ≤ 15 := str_size lT8
          have hadd9 : (⟨T8.toArray⟩ : ByteArray) ++ (⟨#[10]⟩ : ByteArray) = ⟨(T8 ++ ([10] : List UInt8)).toArray⟩ := str_add T8 ([10] : List UInt8)
          obtain ⟨T9, hT9⟩ : ∃ T, T8 ++ ([10] : List UInt8) = T := ⟨_, rfl⟩
          rw [hT9] at hadd9
          have lT9 : T9.length ≤ 16 := by rw [← hT9, List.length_append]; (try simp only [List.length_cons, List.length_nil]); omega
          have sT9 : (⟨T9.toArray⟩ : ByteArray).size ≤ 16 := str_size lT9
          have hadd10 : (⟨S.toArray⟩ : ByteArray) ++ ⟨T9.toArray⟩ = ⟨(S ++ T9).toArray⟩ := str_add S T9
          obtain ⟨T10, hT10⟩ : ∃ T, S ++ T9 = T := ⟨_, rfl⟩
          rw [hT10] at hadd10
          have lT10 : T10.length ≤ 1600 := by rw [← hT10, List.length_append]; (try simp only [List.length_cons, List.length_nil]); omega
          have sT10 : (⟨T10.toArray⟩ : ByteArray).size ≤ 1600 := str_size lT10
          have lF : T10.length ≤ 60 * (k + 1) := by rw [← hT10, List.length_append]; omega
          have HF := Kp.mk (show T10 = textOf ((C.take (k + 1)).map cmdOf) from by
            rw [HSN.out, HCM2.out, ← HS.out, ← hT10, ← hT9, ← hT8, ← hT7, ← hT6, ← hT5, ← hT4]
            try simp [joinC, putK, dropK, countK, askK, loadK, skyK, areaK, saveK])
          clear HSN HCM2 HS HEK hT10 hT9 hT8 hT7 hT6 hT5 hT4
          go_wp2_with (first
            | (go_at_call 9; with_reducible refine (CK.out _).mono ?_; rintro e w' ⟨rfl, rfl⟩)
            | fail)
          have z1 := later_cell y1
          have z2 := later_cell y2
          have z3 := later_cell y3
          refine region_later (by kernel_rfl) (by kernel_rfl) ?_
          iterate 26 (go_big_quiet_step ((first | (go_at_call 9; first | (with_reducible exact q_later (CPx.out _)) | (with_reducible exact q_later (CPy.out _)) | (with_reducible exact q_later (CPw.out _))) | (go_at_call 11; first | (with_reducible exact q_later (CNx.out _)) | (with_reducible exact q_later (CNy.out _)) | (with_reducible exact q_later (CNw.out _))))))
          refine wpQuiet_nil ?_
          rintro w' ⟨xl, rfl⟩
          have HBF := Kp.mk (below_step HB1.out xl.le)
          generalize xl.val = wz at *
          clear z1 z2 z3
          go_wp2
          go_roundw
          case rel => exact ⟨k + 1, T10, by omega, by omega, lF, by go_num, rfl, HF, HBF⟩
          case measure => simp [intOf]; omega
        · obtain ⟨vx, ex, gx⟩ := pick_nat cx 40 (by omega)
          obtain ⟨vy, ey, gy⟩ := pick_nat cy 40 (by omega)
          obtain ⟨vw, ew, gw⟩ := pick_nat cw 9 (by omega)
          have HCM2 := Kp.mk (cmd_put (ck := ck) (cx := cx) (cy := cy) (cw := cw) (ca := ca) (cb := cb) (cc := cc) (cd := cd) (by rw [HEK.out]; decide))
          rw [ex, ey, ew] at HCM2
          have CPx := Kp.mk (fun X : Later wq => pick_later cx 40 (by omega) (by omega) ix1 ix2 _ ex X)
          have CNx := Kp.mk (fun X : Later wq => num_later ((vx : Int) - 20) (by omega) (by omega) X)
          have n3x := num3 (x := (vx : Int) - 20) (by omega) (by omega)
          have ewx : IntKind.i64.wrap ((vx : Int) - 20) = (vx : Int) - 20 := IntWalk.i64_in _ (by omega)
          have lix := n3x.len
          obtain ⟨Ix, hIx⟩ : ∃ I, Lib.itoa ((vx : Int) - 20) = I := ⟨_, rfl⟩
          rw [hIx] at CNx lix HCM2
          have six : (⟨Ix.toArray⟩ : ByteArray).size ≤ 3 := str_size lix
          clear n3x hIx ex
          have CPy := Kp.mk (fun X : Later wq => pick_later cy 40 (by omega) (by omega) iy1 iy2 _ ey X)
          have CNy := Kp.mk (fun X : Later wq => num_later ((vy : Int) - 20) (by omega) (by omega) X)
          have n3y := num3 (x := (vy : Int) - 20) (by omega) (by omega)
          have ewy : IntKind.i64.wrap ((vy : Int) - 20) = (vy : Int) - 20 := IntWalk.i64_in _ (by omega)
          have liy := n3y.len
          obtain ⟨Iy, hIy⟩ : ∃ I, Lib.itoa ((vy : Int) - 20) = I := ⟨_, rfl⟩
          rw [hIy] at CNy liy HCM2
          have siy : (⟨Iy.toArray⟩ : ByteArray).size ≤ 3 := str_size liy
          clear n3y hIy ey
          have CPw := Kp.mk (fun X : Later wq => pick_later cw 9 (by omega) (by omega) iw1 iw2 _ ew X)
          have CNw := Kp.mk (fun X : Later wq => num_later ((vw : Int)) (by omega) (by omega) X)
          have n3w := num3 (x := (vw : Int)) (by omega) (by omega)
          have liw := n3w.len
          obtain ⟨Iw, hIw⟩ : ∃ I, Lib.itoa ((vw : Int)) = I := ⟨_, rfl⟩
          rw [hIw] at CNw liw HCM2
          have siw : (⟨Iw.toArray⟩ : ByteArray).size ≤ 3 := str_size liw
          clear n3w hIw ew
          have sl1 : ((⟨#[112, 117, 116, 32]⟩ : ByteArray) : ByteArray).size ≤ 4 := by decide
          have sl2 : ((⟨#[32]⟩ : ByteArray) : ByteArray).size ≤ 1 := by decide
          have sl3 : ((⟨#[10]⟩ : ByteArray) : ByteArray).size ≤ 1 := by decide
          have hadd4 : ((⟨#[112, 117, 116, 32]⟩ : ByteArray) : ByteArray) ++ ⟨Ix.toArray⟩ = ⟨(([112, 117, 116, 32] : List UInt8) ++ Ix).toArray⟩ := str_add ([112, 117, 116, 32] : List UInt8) Ix
          obtain ⟨T4, hT4⟩ : ∃ T, ([112, 117, 116, 32] : List UInt8) ++ Ix = T := ⟨_, rfl⟩
          rw [hT4] at hadd4
          have lT4 : T4.length ≤ 7 := by rw [← hT4, List.length_append]; (try simp only [List.length_cons, List.length_nil]); omega
          have sT4 : (⟨T4.toArray⟩ : ByteArray).size ≤ 7 := str_size lT4
          have hadd5 : (⟨T4.toArray⟩ : ByteArray) ++ (⟨#[32]⟩ : ByteArray) = ⟨(T4 ++ ([32] : List UInt8)).toArray⟩ := str_add T4 ([32] : List UInt8)
          obtain ⟨T5, hT5⟩ : ∃ T, T4 ++ ([32] : List UInt8) = T := ⟨_, rfl⟩
          rw [hT5] at hadd5
          have lT5 : T5.length ≤ 8 := by rw [← hT5, List.length_append]; (try simp only [List.length_cons, List.length_nil]); omega
          have sT5 : (⟨T5.toArray⟩ : ByteArray).size ≤ 8 := str_size lT5
          have hadd6 : (⟨T5.toArray⟩ : ByteArray) ++ ⟨Iy.toArray⟩ = ⟨(T5 ++ Iy).toArray⟩ := str_add T5 Iy
          obtain ⟨T6, hT6⟩ : ∃ T, T5 ++ Iy = T := ⟨_, rfl⟩
          rw [hT6] at hadd6
          have lT6 : T6.length ≤ 11 := by rw [← hT6, List.length_append]; (try simp only [List.length_cons, List.length_nil]); omega
          have sT6 : (⟨T6.toArray⟩ : ByteArray).size ≤ 11 := str_size lT6
          have hadd7 : (⟨T6.toArray⟩ : ByteArray) ++ (⟨#[32]⟩ : ByteArray) = ⟨(T6 ++ ([32] : List UInt8)).toArray⟩ := str_add T6 ([32] : List UInt8)
          obtain ⟨T7, hT7⟩ : ∃ T, T6 ++ ([32] : List UInt8) = T := ⟨_, rfl⟩
          rw [hT7] at hadd7
          have lT7 : T7.length ≤ 12 := by rw [← hT7, List.length_append]; (try simp only [List.length_cons, List.length_nil]); omega
          have sT7 : (⟨T7.toArray⟩ : ByteArray).size ≤ 12 := str_size lT7
          have hadd8 : (⟨T7.toArray⟩ : ByteArray) ++ ⟨Iw.toArray⟩ = ⟨(T7 ++ Iw).toArray⟩ := str_add T7 Iw
          obtain ⟨T8, hT8⟩ : ∃ T, T7 ++ Iw = T := ⟨_, rfl⟩
          rw [hT8] at hadd8
          have lT8 : T8.length ≤ 15 := by rw [← hT8, List.length_append]; (try simp only [List.length_cons, List.length_nil]); omega
          have sT8 : (⟨T8.toArray⟩ : ByteArray).size ≤ 15 := str_size lT8
          have hadd9 : (⟨T8.toArray⟩ : ByteArray) ++ (⟨#[10]⟩ : ByteArray) = ⟨(T8 ++ ([10] : List UInt8)).toArray⟩ := str_add T8 ([10] : List UInt8)
          obtain ⟨T9, hT9⟩ : ∃ T, T8 ++ ([10] : List UInt8) = T := ⟨_, rfl⟩
          rw [hT9] at hadd9
          have lT9 : T9.length ≤ 16 := by rw [← hT9, List.length_append]; (try simp only [List.length_cons, List.length_nil]); omega
          have sT9 : (⟨T9.toArray⟩ : ByteArray).size ≤ 16 := str_size lT9
          have hadd10 : (⟨S.toArray⟩ : ByteArray) ++ ⟨T9.toArray⟩ = ⟨(S ++ T9).toArray⟩ := str_add S T9
          obtain ⟨T10, hT10⟩ : ∃ T, S ++ T9 = T := ⟨_, rfl⟩
          rw [hT10] at hadd10
          have lT10 : T10.length ≤ 1600 := by rw [← hT10, List.length_append]; (try simp only [List.length_cons, List.length_nil]); omega
          have sT10 : (⟨T10.toArray⟩ : ByteArray).size ≤ 1600 := str_size lT10
          have lF : T10.length ≤ 60 * (k + 1) := by rw [← hT10, List.length_append]; omega
          have HF := Kp.mk (show T10 = textOf ((C.take (k + 1)).map cmdOf) from by
            rw [HSN.out, HCM2.out, ← HS.out, ← hT10, ← hT9, ← hT8, ← hT7, ← hT6, ← hT5, ← hT4]
            try simp [joinC, putK, dropK, countK, askK, loadK, skyK, areaK, saveK])
          clear HSN HCM2 HS HEK hT10 hT9 hT8 hT7 hT6 hT5 hT4
          go_wp2_with (first
            | (go_at_call 9; with_reducible refine (CK.out _).mono ?_; rintro e w' ⟨rfl, rfl⟩)
            | fail)
          have z1 := later_cell y1
          have z2 := later_cell y2
          have z3 := later_cell y3
          refine region_later (by kernel_rfl) (by kernel_rfl) ?_
          iterate 26 (go_big_quiet_step ((first | (go_at_call 9; first | (with_reducible exact q_later (CPx.out _)) | (with_reducible exact q_later (CPy.out _)) | (with_reducible exact q_later (CPw.out _))) | (go_at_call 11; first | (with_reducible exact q_later (CNx.out _)) | (with_reducible exact q_later (CNy.out _)) | (with_reducible exact q_later (CNw.out _))))))
          refine wpQuiet_nil ?_
          rintro w' ⟨xl, rfl⟩
          have HBF := Kp.mk (below_step HB1.out xl.le)
          generalize xl.val = wz at *
          clear z1 z2 z3
          go_wp2
          go_roundw
          case rel => exact ⟨k + 1, T10, by omega, by omega, lF, by go_num, rfl, HF, HBF⟩
          case measure => simp [intOf]; omega
        · obtain ⟨vx, ex, gx⟩ := pick_nat cx 40 (by omega)
          obtain ⟨vy, ey, gy⟩ := pick_nat cy 40 (by omega)
          obtain ⟨vw, ew, gw⟩ := pick_nat cw 9 (by omega)
          have HCM2 := Kp.mk (cmd_put (ck := ck) (cx := cx) (cy := cy) (cw := cw) (ca := ca) (cb := cb) (cc := cc) (cd := cd) (by rw [HEK.out]; decide))
          rw [ex, ey, ew] at HCM2
          have CPx := Kp.mk (fun X : Later wq => pick_later cx 40 (by omega) (by omega) ix1 ix2 _ ex X)
          have CNx := Kp.mk (fun X : Later wq => num_later ((vx : Int) - 20) (by omega) (by omega) X)
          have n3x := num3 (x := (vx : Int) - 20) (by omega) (by omega)
          have ewx : IntKind.i64.wrap ((vx : Int) - 20) = (vx : Int) - 20 := IntWalk.i64_in _ (by omega)
          have lix := n3x.len
          obtain ⟨Ix, hIx⟩ : ∃ I, Lib.itoa ((vx : Int) - 20) = I := ⟨_, rfl⟩
          rw [hIx] at CNx lix HCM2
          have six : (⟨Ix.toArray⟩ : ByteArray).size ≤ 3 := str_size lix
          clear n3x hIx ex
          have CPy := Kp.mk (fun X : Later wq => pick_later cy 40 (by omega) (by omega) iy1 iy2 _ ey X)
          have CNy := Kp.mk (fun X : Later wq => num_later ((vy : Int) - 20) (by omega) (by omega) X)
          have n3y := num3 (x := (vy : Int) - 20) (by omega) (by omega)
          have ewy : IntKind.i64.wrap ((vy : Int) - 20) = (vy : Int) - 20 := IntWalk.i64_in _ (by omega)
          have liy := n3y.len
          obtain ⟨Iy, hIy⟩ : ∃ I, Lib.itoa ((vy : Int) - 20) = I := ⟨_, rfl⟩
          rw [hIy] at CNy liy HCM2
          have siy : (⟨Iy.toArray⟩ : ByteArray).size ≤ 3 := str_size liy
          clear n3y hIy ey
          have CPw := Kp.mk (fun X : Later wq => pick_later cw 9 (by omega) (by omega) iw1 iw2 _ ew X)
          have CNw := Kp.mk (fun X : Later wq => num_later ((vw : Int)) (by omega) (by omega) X)
          have n3w := num3 (x := (vw : Int)) (by omega) (by omega)
          have liw := n3w.len
          obtain ⟨Iw, hIw⟩ : ∃ I, Lib.itoa ((vw : Int)) = I := ⟨_, rfl⟩
          rw [hIw] at CNw liw HCM2
          have siw : (⟨Iw.toArray⟩ : ByteArray).size ≤ 3 := str_size liw
          clear n3w hIw ew
          have sl1 : ((⟨#[112, 117, 116, 32]⟩ : ByteArray) : ByteArray).size ≤ 4 := by decide
          have sl2 : ((⟨#[32]⟩ : ByteArray) : ByteArray).size ≤ 1 := by decide
          have sl3 : ((⟨#[10]⟩ : ByteArray) : ByteArray).size ≤ 1 := by decide
          have hadd4 : ((⟨#[112, 117, 116, 32]⟩ : ByteArray) : ByteArray) ++ ⟨Ix.toArray⟩ = ⟨(([112, 117, 116, 32] : List UInt8) ++ Ix).toArray⟩ := str_add ([112, 117, 116, 32] : List UInt8) Ix
          obtain ⟨T4, hT4⟩ : ∃ T, ([112, 117, 116, 32] : List UInt8) ++ Ix = T := ⟨_, rfl⟩
          rw [hT4] at hadd4
          have lT4 : T4.length ≤ 7 := by rw [← hT4, List.length_append]; (try simp only [List.length_cons, List.length_nil]); omega
          have sT4 : (⟨T4.toArray⟩ : ByteArray).size ≤ 7 := str_size lT4
          have hadd5 : (⟨T4.toArray⟩ : ByteArray) ++ (⟨#[32]⟩ : ByteArray) = ⟨(T4 ++ ([32] : List UInt8)).toArray⟩ := str_add T4 ([32] : List UInt8)
          obtain ⟨T5, hT5⟩ : ∃ T, T4 ++ ([32] : List UInt8) = T := ⟨_, rfl⟩
          rw [hT5] at hadd5
          have lT5 : T5.length ≤ 8 := by rw [← hT5, List.length_append]; (try simp only [List.length_cons, List.length_nil]); omega
          have sT5 : (⟨T5.toArray⟩ : ByteArray).size ≤ 8 := str_size lT5
          have hadd6 : (⟨T5.toArray⟩ : ByteArray) ++ ⟨Iy.toArray⟩ = ⟨(T5 ++ Iy).toArray⟩ := str_add T5 Iy
          obtain ⟨T6, hT6⟩ : ∃ T, T5 ++ Iy = T := ⟨_, rfl⟩
          rw [hT6] at hadd6
          have lT6 : T6.length ≤ 11 := by rw [← hT6, List.length_append]; (try simp only [List.length_cons, List.length_nil]); omega
          have sT6 : (⟨T6.toArray⟩ : ByteArray).size ≤ 11 := str_size lT6
          have hadd7 : (⟨T6.toArray⟩ : ByteArray) ++ (⟨#[32]⟩ : ByteArray) = ⟨(T6 ++ ([32] : List UInt8)).toArray⟩ := str_add T6 ([32] : List UInt8)
          obtain ⟨T7, hT7⟩ : ∃ T, T6 ++ ([32] : List UInt8) = T := ⟨_, rfl⟩
          rw [hT7] at hadd7
          have lT7 : T7.length ≤ 12 := by rw [← hT7, List.length_append]; (try simp only [List.length_cons, List.length_nil]); omega
          have sT7 : (⟨T7.toArray⟩ : ByteArray).size ≤ 12 := str_size lT7
          have hadd8 : (⟨T7.toArray⟩ : ByteArray) ++ ⟨Iw.toArray⟩ = ⟨(T7 ++ Iw).toArray⟩ := str_add T7 Iw
          obtain ⟨T8, hT8⟩ : ∃ T, T7 ++ Iw = T := ⟨_, rfl⟩
          rw [hT8] at hadd8
          have lT8 : T8.length ≤ 15 := by rw [← hT8, List.length_append]; (try simp only [List.length_cons, List.length_nil]); omega
          have sT8 : (⟨T8.toArray⟩ : ByteArray).size ≤ 15 := str_size lT8
          have hadd9 : (⟨T8.toArray⟩ : ByteArray) ++ (⟨#[10]⟩ : ByteArray) = ⟨(T8 ++ ([10] : List UInt8)).toArray⟩ := str_add T8 ([10] : List UInt8)
          obtain ⟨T9, hT9⟩ : ∃ T, T8 ++ ([10] : List UInt8) = T := ⟨_, rfl⟩
          rw [hT9] at hadd9
          have lT9 : T9.length ≤ 16 := by rw [← hT9, List.length_append]; (try simp only [List.length_cons, List.length_nil]); omega
          have sT9 : (⟨T9.toArray⟩ : ByteArray).size ≤ 16 := str_size lT9
          have hadd10 : (⟨S.toArray⟩ : ByteArray) ++ ⟨T9.toArray⟩ = ⟨(S ++ T9).toArray⟩ := str_add S T9
          obtain ⟨T10, hT10⟩ : ∃ T, S ++ T9 = T := ⟨_, rfl⟩
          rw [hT10] at hadd10
          have lT10 : T10.length ≤ 1600 := by rw [← hT10, List.length_append]; (try simp only [List.length_cons, List.length_nil]); omega
          have sT10 : (⟨T10.toArray⟩ : ByteArray).size ≤ 1600 := str_size lT10
          have lF : T10.length ≤ 60 * (k + 1) := by rw [← hT10, List.length_append]; omega
          have HF := Kp.mk (show T10 = textOf ((C.take (k + 1)).map cmdOf) from by
            rw [HSN.out, HCM2.out, ← HS.out, ← hT10, ← hT9, ← hT8, ← hT7, ← hT6, ← hT5, ← hT4]
            try simp [joinC, putK, dropK, countK, askK, loadK, skyK, areaK, saveK])
          clear HSN HCM2 HS HEK hT10 hT9 hT8 hT7 hT6 hT5 hT4
          go_wp2_with (first
            | (go_at_call 9; with_reducible refine (CK.out _).mono ?_; rintro e w' ⟨rfl, rfl⟩)
            | fail)
          have z1 := later_cell y1
          have z2 := later_cell y2
          have z3 := later_cell y3
          refine region_later (by kernel_rfl) (by kernel_rfl) ?_
          iterate 26 (go_big_quiet_step ((first | (go_at_call 9; first | (with_reducible exact q_later (CPx.out _)) | (with_reducible exact q_later (CPy.out _)) | (with_reducible exact q_later (CPw.out _))) | (go_at_call 11; first | (with_reducible exact q_later (CNx.out _)) | (with_reducible exact q_later (CNy.out _)) | (with_reducible exact q_later (CNw.out _))))))
          refine wpQuiet_nil ?_
          rintro w' ⟨xl, rfl⟩
          have HBF := Kp.mk (below_step HB1.out xl.le)
          generalize xl.val = wz at *
          clear z1 z2 z3
          go_wp2
          go_roundw
          case rel => exact ⟨k + 1, T10, by omega, by omega, lF, by go_num, rfl, HF, HBF⟩
          case measure => simp [intOf]; omega
        · obtain ⟨vx, ex, gx⟩ := pick_nat cx 40 (by omega)
          obtain ⟨vy, ey, gy⟩ := pick_nat cy 40 (by omega)
          obtain ⟨vw, ew, gw⟩ := pick_nat cw 9 (by omega)
          have HCM2 := Kp.mk (cmd_put (ck := ck) (cx := cx) (cy := cy) (cw := cw) (ca := ca) (cb := cb) (cc := cc) (cd := cd) (by rw [HEK.out]; decide))
          rw [ex, ey, ew] at HCM2
          have CPx := Kp.mk (fun X : Later wq => pick_later cx 40 (by omega) (by omega) ix1 ix2 _ ex X)
          have CNx := Kp.mk (fun X : Later wq => num_later ((vx : Int) - 20) (by omega) (by omega) X)
          have n3x := num3 (x := (vx : Int) - 20) (by omega) (by omega)
          have ewx : IntKind.i64.wrap ((vx : Int) - 20) = (vx : Int) - 20 := IntWalk.i64_in _ (by omega)
          have lix := n3x.len
          obtain ⟨Ix, hIx⟩ : ∃ I, Lib.itoa ((vx : Int) - 20) = I := ⟨_, rfl⟩
          rw [hIx] at CNx lix HCM2
          have six : (⟨Ix.toArray⟩ : ByteArray).size ≤ 3 := str_size lix
          clear n3x hIx ex
          have CPy := Kp.mk (fun X : Later wq => pick_later cy 40 (by omega) (by omega) iy1 iy2 _ ey X)
          have CNy := Kp.mk (fun X : Later wq => num_later ((vy : Int) - 20) (by omega) (by omega) X)
          have n3y := num3 (x := (vy : Int) - 20) (by omega) (by omega)
          have ewy : IntKind.i64.wrap ((vy : Int) - 20) = (vy : Int) - 20 := IntWalk.i64_in _ (by omega)
          have liy := n3y.len
          obtain ⟨Iy, hIy⟩ : ∃ I, Lib.itoa ((vy : Int) - 20) = I := ⟨_, rfl⟩
          rw [hIy] at CNy liy HCM2
          have siy : (⟨Iy.toArray⟩ : ByteArray).size ≤ 3 := str_size liy
          clear n3y hIy ey
          have CPw := Kp.mk (fun X : Later wq => pick_later cw 9 (by omega) (by omega) iw1 iw2 _ ew X)
          have CNw := Kp.mk (fun X : Later wq => num_later ((vw : Int)) (by omega) (by omega) X)
          have n3w := num3 (x := (vw : Int)) (by omega) (by omega)
          have liw := n3w.len
          obtain ⟨Iw, hIw⟩ : ∃ I, Lib.itoa ((vw : Int)) = I := ⟨_, rfl⟩
          rw [hIw] at CNw liw HCM2
          have siw : (⟨Iw.toArray⟩ : ByteArray).size ≤ 3 := str_size liw
          clear n3w hIw ew
          have sl1 : ((⟨#[112, 117, 116, 32]⟩ : ByteArray) : ByteArray).size ≤ 4 := by decide
          have sl2 : ((⟨#[32]⟩ : ByteArray) : ByteArray).size ≤ 1 := by decide
          have sl3 : ((⟨#[10]⟩ : ByteArray) : ByteArray).size ≤ 1 := by decide
          have hadd4 : ((⟨#[112, 117, 116, 32]⟩ : ByteArray) : ByteArray) ++ ⟨Ix.toArray⟩ = ⟨(([112, 117, 116, 32] : List UInt8) ++ Ix).toArray⟩ := str_add ([112, 117, 116, 32] : List UInt8) Ix
          obtain ⟨T4, hT4⟩ : ∃ T, ([112, 117, 116, 32] : List UInt8) ++ Ix = T := ⟨_, rfl⟩
          rw [hT4] at hadd4
          have lT4 : T4.length ≤ 7 := by rw [← hT4, List.length_append]; (try simp only [List.length_cons, List.length_nil]); omega
          have sT4 : (⟨T4.toArray⟩ : ByteArray).size ≤ 7 := str_size lT4
          have hadd5 : (⟨T4.toArray⟩ : ByteArray) ++ (⟨#[32]⟩ : ByteArray) = ⟨(T4 ++ ([32] : List UInt8)).toArray⟩ := str_add T4 ([32] : List UInt8)
          obtain ⟨T5, hT5⟩ : ∃ T, T4 ++ ([32] : List UInt8) = T := ⟨_, rfl⟩
          rw [hT5] at hadd5
          have lT5 : T5.length ≤ 8 := by rw [← hT5, List.length_append]; (try simp only [List.length_cons, List.length_nil]); omega
          have sT5 : (⟨T5.toArray⟩ : ByteArray).size ≤ 8 := str_size lT5
          have hadd6 : (⟨T5.toArray⟩ : ByteArray) ++ ⟨Iy.toArray⟩ = ⟨(T5 ++ Iy).toArray⟩ := str_add T5 Iy
          obtain ⟨T6, hT6⟩ : ∃ T, T5 ++ Iy = T := ⟨_, rfl⟩
          rw [hT6] at hadd6
          have lT6 : T6.length ≤ 11 := by rw [← hT6, List.length_append]; (try simp only [List.length_cons, List.length_nil]); omega
          have sT6 : (⟨T6.toArray⟩ : ByteArray).size ≤ 11 := str_size lT6
          have hadd7 : (⟨T6.toArray⟩ : ByteArray) ++ (⟨#[32]⟩ : ByteArray) = ⟨(T6 ++ ([32] : List UInt8)).toArray⟩ := str_add T6 ([32] : List UInt8)
          obtain ⟨T7, hT7⟩ : ∃ T, T6 ++ ([32] : List UInt8) = T := ⟨_, rfl⟩
          rw [hT7] at hadd7
          have lT7 : T7.length ≤ 12 := by rw [← hT7, List.length_append]; (try simp only [List.length_cons, List.length_nil]); omega
          have sT7 : (⟨T7.toArray⟩ : ByteArray).size ≤ 12 := str_size lT7
          have hadd8 : (⟨T7.toArray⟩ : ByteArray) ++ ⟨Iw.toArray⟩ = ⟨(T7 ++ Iw).toArray⟩ := str_add T7 Iw
          obtain ⟨T8, hT8⟩ : ∃ T, T7 ++ Iw = T := ⟨_, rfl⟩
          rw [hT8] at hadd8
          have lT8 : T8.length ≤ 15 := by rw [← hT8, List.length_append]; (try simp only [List.length_cons, List.length_nil]); omega
          have sT8 : (⟨T8.toArray⟩ : ByteArray).size ≤ 15 := str_size lT8
          have hadd9 : (⟨T8.toArray⟩ : ByteArray) ++ (⟨#[10]⟩ : ByteArray) = ⟨(T8 ++ ([10] : List UInt8)).toArray⟩ := str_add T8 ([10] : List UInt8)
          obtain ⟨T9, hT9⟩ : ∃ T, T8 ++ ([10] : List UInt8) = T := ⟨_, rfl⟩
          rw [hT9] at hadd9
          have lT9 : T9.length ≤ 16 := by rw [← hT9, List.length_append]; (try simp only [List.length_cons, List.length_nil]); omega
          have sT9 : (⟨T9.toArray⟩ : ByteArray).size ≤ 16 := str_size lT9
          have hadd10 : (⟨S.toArray⟩ : ByteArray) ++ ⟨T9.toArray⟩ = ⟨(S ++ T9).toArray⟩ := str_add S T9
          obtain ⟨T10, hT10⟩ : ∃ T, S ++ T9 = T := ⟨_, rfl⟩
          rw [hT10] at hadd10
          have lT10 : T10.length ≤ 1600 := by rw [← hT10, List.length_append]; (try simp only [List.length_cons, List.length_nil]); omega
          have sT10 : (⟨T10.toArray⟩ : ByteArray).size ≤ 1600 := str_size lT10
          have lF : T10.length ≤ 60 * (k + 1) := by rw [← hT10, List.length_append]; omega
          have HF := Kp.mk (show T10 = textOf ((C.take (k + 1)).map cmdOf) from by
            rw [HSN.out, HCM2.out, ← HS.out, ← hT10, ← hT9, ← hT8, ← hT7, ← hT6, ← hT5, ← hT4]
            try simp [joinC, putK, dropK, countK, askK, loadK, skyK, areaK, saveK])
          clear HSN HCM2 HS HEK hT10 hT9 hT8 hT7 hT6 hT5 hT4
          go_wp2_with (first
            | (go_at_call 9; with_reducible refine (CK.out _).mono ?_; rintro e w' ⟨rfl, rfl⟩)
            | fail)
          have z1 := later_cell y1
          have z2 := later_cell y2
          have z3 := later_cell y3
          refine region_later (by kernel_rfl) (by kernel_rfl) ?_
          iterate 26 (go_big_quiet_step ((first | (go_at_call 9; first | (with_reducible exact q_later (CPx.out _)) | (with_reducible exact q_later (CPy.out _)) | (with_reducible exact q_later (CPw.out _))) | (go_at_call 11; first | (with_reducible exact q_later (CNx.out _)) | (with_reducible exact q_later (CNy.out _)) | (with_reducible exact q_later (CNw.out _))))))
          refine wpQuiet_nil ?_
          rintro w' ⟨xl, rfl⟩
          have HBF := Kp.mk (below_step HB1.out xl.le)
          generalize xl.val = wz at *
          clear z1 z2 z3
          go_wp2
          go_roundw
          case rel => exact ⟨k + 1, T10, by omega, by omega, lF, by go_num, rfl, HF, HBF⟩
          case measure => simp [intOf]; omega
        · have HCM2 := Kp.mk (cmd_drop (ck := ck) (cx := cx) (cy := cy) (cw := cw) (ca := ca) (cb := cb) (cc := cc) (cd := cd) (by rw [HEK.out]; rfl))
          have sl1 : ((⟨#[100, 114, 111, 112, 10]⟩ : ByteArray) : ByteArray).size ≤ 5 := by decide
          have hadd2 : (⟨S.toArray⟩ : ByteArray) ++ (⟨#[100, 114, 111, 112, 10]⟩ : ByteArray) = ⟨(S ++ ([100, 114, 111, 112, 10] : List UInt8)).toArray⟩ := str_add S ([100, 114, 111, 112, 10] : List UInt8)
          obtain ⟨T2, hT2⟩ : ∃ T, S ++ ([100, 114, 111, 112, 10] : List UInt8) = T := ⟨_, rfl⟩
          rw [hT2] at hadd2
          have lT2 : T2.length ≤ 1600 := by rw [← hT2, List.length_append]; (try simp only [List.length_cons, List.length_nil]); omega
          have sT2 : (⟨T2.toArray⟩ : ByteArray).size ≤ 1600 := str_size lT2
          have lF : T2.length ≤ 60 * (k + 1) := by rw [← hT2, List.length_append]; (try simp only [List.length_cons, List.length_nil]); omega
          have HF := Kp.mk (show T2 = textOf ((C.take (k + 1)).map cmdOf) from by
            rw [HSN.out, HCM2.out, ← HS.out, ← hT2]
            try simp [joinC, putK, dropK, countK, askK, loadK, skyK, areaK, saveK])
          clear HSN HCM2 HS HEK hT2
          go_wp2_with (first
            | (go_at_call 9; with_reducible refine (CK.out _).mono ?_; rintro e w' ⟨rfl, rfl⟩)
            | fail)
          go_roundw
          case rel => exact ⟨k + 1, T2, by omega, by omega, lF, by go_num, rfl, HF, HB1⟩
          case measure => simp [intOf]; omega
        · obtain ⟨va, ea, ga⟩ := pick_nat ca 20 (by omega)
          obtain ⟨vb, eb, gb⟩ := pick_nat cb 20 (by omega)
          have HCM2 := Kp.mk (cmd_count (ck := ck) (cx := cx) (cy := cy) (cw := cw) (ca := ca) (cb := cb) (cc := cc) (cd := cd) (by rw [HEK.out]; rfl))
          rw [ea, eb] at HCM2
          have CPa := Kp.mk (fun X : Later wq => pick_later ca 20 (by omega) (by omega) ia1 ia2 _ ea X)
          have CNa := Kp.mk (fun X : Later wq => num_later ((va : Int) - 10) (by omega) (by omega) X)
          have n3a := num3 (x := (va : Int) - 10) (by omega) (by omega)
          have ewa : IntKind.i64.wrap ((va : Int) - 10) = (va : Int) - 10 := IntWalk.i64_in _ (by omega)
          have lia := n3a.len
          obtain ⟨Ia, hIa⟩ : ∃ I, Lib.itoa ((va : Int) - 10) = I := ⟨_, rfl⟩
          rw [hIa] at CNa lia HCM2
          have sia : (⟨Ia.toArray⟩ : ByteArray).size ≤ 3 := str_size lia
          clear n3a hIa ea
          have CPb := Kp.mk (fun X : Later wq => pick_later cb 20 (by omega) (by omega) ib1 ib2 _ eb X)
          have CNb := Kp.mk (fun X : Later wq => num_later ((vb : Int)) (by omega) (by omega) X)
          have n3b := num3 (x := (vb : Int)) (by omega) (by omega)
          have lib := n3b.len
          obtain ⟨Ib, hIb⟩ : ∃ I, Lib.itoa ((vb : Int)) = I := ⟨_, rfl⟩
          rw [hIb] at CNb lib HCM2
          have sib : (⟨Ib.toArray⟩ : ByteArray).size ≤ 3 := str_size lib
          clear n3b hIb eb
          have sl1 : ((⟨#[99, 111, 117, 110, 116, 32, 45, 57, 32]⟩ : ByteArray) : ByteArray).size ≤ 9 := by decide
          have sl2 : ((⟨#[32]⟩ : ByteArray) : ByteArray).size ≤ 1 := by decide
          have sl3 : ((⟨#[32, 50, 48, 10]⟩ : ByteArray) : ByteArray).size ≤ 4 := by decide
          have hadd4 : ((⟨#[99, 111, 117, 110, 116, 32, 45, 57, 32]⟩ : ByteArray) : ByteArray) ++ ⟨Ia.toArray⟩ = ⟨(([99, 111, 117, 110, 116, 32, 45, 57, 32] : List UInt8) ++ Ia).toArray⟩ := str_add ([99, 111, 117, 110, 116, 32, 45, 57, 32] : List UInt8) Ia
          obtain ⟨T4, hT4⟩ : ∃ T, ([99, 111, 117, 110, 116, 32, 45, 57, 32] : List UInt8) ++ Ia = T := ⟨_, rfl⟩
          rw [hT4] at hadd4
          have lT4 : T4.length ≤ 12 := by rw [← hT4, List.length_append]; (try simp only [List.length_cons, List.length_nil]); omega
          have sT4 : (⟨T4.toArray⟩ : ByteArray).size ≤ 12 := str_size lT4
          have hadd5 : (⟨T4.toArray⟩ : ByteArray) ++ (⟨#[32]⟩ : ByteArray) = ⟨(T4 ++ ([32] : List UInt8)).toArray⟩ := str_add T4 ([32] : List UInt8)
          obtain ⟨T5, hT5⟩ : ∃ T, T4 ++ ([32] : List UInt8) = T := ⟨_, rfl⟩
          rw [hT5] at hadd5
          have lT5 : T5.length ≤ 13 := by rw [← hT5, List.length_append]; (try simp only [List.length_cons, List.length_nil]); omega
          have sT5 : (⟨T5.toArray⟩ : ByteArray).size ≤ 13 := str_size lT5
          have hadd6 : (⟨T5.toArray⟩ : ByteArray) ++ ⟨Ib.toArray⟩ = ⟨(T5 ++ Ib).toArray⟩ := str_add T5 Ib
          obtain ⟨T6, hT6⟩ : ∃ T, T5 ++ Ib = T := ⟨_, rfl⟩
          rw [hT6] at hadd6
          have lT6 : T6.length ≤ 16 := by rw [← hT6, List.length_append]; (try simp only [List.length_cons, List.length_nil]); omega
          have sT6 : (⟨T6.toArray⟩ : ByteArray).size ≤ 16 := str_size lT6
          have hadd7 : (⟨T6.toArray⟩ : ByteArray) ++ (⟨#[32, 50, 48, 10]⟩ : ByteArray) = ⟨(T6 ++ ([32, 50, 48, 10] : List UInt8)).toArray⟩ := str_add T6 ([32, 50, 48, 10] : List UInt8)
          obtain ⟨T7, hT7⟩ : ∃ T, T6 ++ ([32, 50, 48, 10] : List UInt8) = T := ⟨_, rfl⟩
          rw [hT7] at hadd7
          have lT7 : T7.length ≤ 20 := by rw [← hT7, List.length_append]; (try simp only [List.length_cons, List.length_nil]); omega
          have sT7 : (⟨T7.toArray⟩ : ByteArray).size ≤ 20 := str_size lT7
          have hadd8 : (⟨S.toArray⟩ : ByteArray) ++ ⟨T7.toArray⟩ = ⟨(S ++ T7).toArray⟩ := str_add S T7
          obtain ⟨T8, hT8⟩ : ∃ T, S ++ T7 = T := ⟨_, rfl⟩
          rw [hT8] at hadd8
          have lT8 : T8.length ≤ 1600 := by rw [← hT8, List.length_append]; (try simp only [List.length_cons, List.length_nil]); omega
          have sT8 : (⟨T8.toArray⟩ : ByteArray).size ≤ 1600 := str_size lT8
          have lF : T8.length ≤ 60 * (k + 1) := by rw [← hT8, List.length_append]; omega
          have HF := Kp.mk (show T8 = textOf ((C.take (k + 1)).map cmdOf) from by
            rw [HSN.out, HCM2.out, ← HS.out, ← hT8, ← hT7, ← hT6, ← hT5, ← hT4]
            try simp [joinC, putK, dropK, countK, askK, loadK, skyK, areaK, saveK])
          clear HSN HCM2 HS HEK hT8 hT7 hT6 hT5 hT4
          go_wp2_with (first
            | (go_at_call 9; with_reducible refine (CK.out _).mono ?_; rintro e w' ⟨rfl, rfl⟩)
            | fail)
          have z4 := later_cell y4
          have z5 := later_cell y5
          refine region_later (by kernel_rfl) (by kernel_rfl) ?_
          iterate 16 (go_big_quiet_step ((first | (go_at_call 9; first | (with_reducible exact q_later (CPa.out _)) | (with_reducible exact q_later (CPb.out _))) | (go_at_call 11; first | (with_reducible exact q_later (CNa.out _)) | (with_reducible exact q_later (CNb.out _))))))
          refine wpQuiet_nil ?_
          rintro w' ⟨xl, rfl⟩
          have HBF := Kp.mk (below_step HB1.out xl.le)
          generalize xl.val = wz at *
          clear z4 z5
          go_wp2
          go_roundw
          case rel => exact ⟨k + 1, T8, by omega, by omega, lF, by go_num, rfl, HF, HBF⟩
          case measure => simp [intOf]; omega
        · obtain ⟨va, ea, ga⟩ := pick_nat ca 9 (by omega)
          have HCM2 := Kp.mk (cmd_ask (ck := ck) (cx := cx) (cy := cy) (cw := cw) (ca := ca) (cb := cb) (cc := cc) (cd := cd) (by rw [HEK.out]; rfl))
          rw [ea] at HCM2
          have CPa := Kp.mk (fun W => picked_any ca 9 W (by omega) (by omega) ia1 ia2)
          rw [ea] at CPa
          have CNa := Kp.mk (fun W => num_any ((va : Int)) (by omega) (by omega) W)
          have n3a := num3 (x := (va : Int)) (by omega) (by omega)
          have lia := n3a.len
          obtain ⟨Ia, hIa⟩ : ∃ I, Lib.itoa ((va : Int)) = I := ⟨_, rfl⟩
          rw [hIa] at CNa lia HCM2
          have sia : (⟨Ia.toArray⟩ : ByteArray).size ≤ 3 := str_size lia
          clear n3a hIa ea
          have sl1 : ((⟨#[97, 115, 107, 32, 119, 32]⟩ : ByteArray) : ByteArray).size ≤ 6 := by decide
          have sl2 : ((⟨#[32, 124, 32, 105, 110, 32, 48, 32, 48, 32, 57, 32, 57, 10]⟩ : ByteArray) : ByteArray).size ≤ 14 := by decide
          have hadd3 : ((⟨#[97, 115, 107, 32, 119, 32]⟩ : ByteArray) : ByteArray) ++ ⟨Ia.toArray⟩ = ⟨(([97, 115, 107, 32, 119, 32] : List UInt8) ++ Ia).toArray⟩ := str_add ([97, 115, 107, 32, 119, 32] : List UInt8) Ia
          obtain ⟨T3, hT3⟩ : ∃ T, ([97, 115, 107, 32, 119, 32] : List UInt8) ++ Ia = T := ⟨_, rfl⟩
          rw [hT3] at hadd3
          have lT3 : T3.length ≤ 9 := by rw [← hT3, List.length_append]; (try simp only [List.length_cons, List.length_nil]); omega
          have sT3 : (⟨T3.toArray⟩ : ByteArray).size ≤ 9 := str_size lT3
          have hadd4 : (⟨T3.toArray⟩ : ByteArray) ++ (⟨#[32, 124, 32, 105, 110, 32, 48, 32, 48, 32, 57, 32, 57, 10]⟩ : ByteArray) = ⟨(T3 ++ ([32, 124, 32, 105, 110, 32, 48, 32, 48, 32, 57, 32, 57, 10] : List UInt8)).toArray⟩ := str_add T3 ([32, 124, 32, 105, 110, 32, 48, 32, 48, 32, 57, 32, 57, 10] : List UInt8)
          obtain ⟨T4, hT4⟩ : ∃ T, T3 ++ ([32, 124, 32, 105, 110, 32, 48, 32, 48, 32, 57, 32, 57, 10] : List UInt8) = T := ⟨_, rfl⟩
          rw [hT4] at hadd4
          have lT4 : T4.length ≤ 23 := by rw [← hT4, List.length_append]; (try simp only [List.length_cons, List.length_nil]); omega
          have sT4 : (⟨T4.toArray⟩ : ByteArray).size ≤ 23 := str_size lT4
          have hadd5 : (⟨S.toArray⟩ : ByteArray) ++ ⟨T4.toArray⟩ = ⟨(S ++ T4).toArray⟩ := str_add S T4
          obtain ⟨T5, hT5⟩ : ∃ T, S ++ T4 = T := ⟨_, rfl⟩
          rw [hT5] at hadd5
          have lT5 : T5.length ≤ 1600 := by rw [← hT5, List.length_append]; (try simp only [List.length_cons, List.length_nil]); omega
          have sT5 : (⟨T5.toArray⟩ : ByteArray).size ≤ 1600 := str_size lT5
          have lF : T5.length ≤ 60 * (k + 1) := by rw [← hT5, List.length_append]; omega
          have HF := Kp.mk (show T5 = textOf ((C.take (k + 1)).map cmdOf) from by
            rw [HSN.out, HCM2.out, ← HS.out, ← hT5, ← hT4, ← hT3]
            try simp [joinC, putK, dropK, countK, askK, loadK, skyK, areaK, saveK])
          clear HSN HCM2 HS HEK hT5 hT4 hT3
          go_wp2_with (first
            | (go_at_call 9; with_reducible refine (CK.out _).mono ?_; rintro e w' ⟨rfl, rfl⟩)
            | (go_at_call 9; with_reducible refine (CPa.out _).mono ?_; rintro e w' ⟨rfl, rfl⟩)
            | (go_at_call 11; with_reducible refine (CNa.out _).mono ?_; rintro e w2 ⟨rfl, HB2⟩; have HBF := Kp.mk (below_step HB1.out HB2.out))
            | fail)
          go_roundw
          case rel => exact ⟨k + 1, T5, by omega, by omega, lF, by go_num, rfl, HF, HBF⟩
          case measure => simp [intOf]; omega
        · obtain ⟨va, ea, ga⟩ := pick_nat ca 4 (by omega)
          have HCM2 := Kp.mk (cmd_word (ck := ck) (cx := cx) (cy := cy) (cw := cw) (ca := ca) (cb := cb) (cc := cc) (cd := cd) (by rw [HEK.out]; rfl))
          rw [ea] at HCM2
          have CPa := Kp.mk (fun W => picked_any ca 4 W (by omega) (by omega) ia1 ia2)
          rw [ea] at CPa
          have HAL := Kp.mk (fun o => below_step HB1.out (below_alloc (Nat.le_refl wq.heap.size) o))
          have hbx := Box.new wq #[.string ⟨#[115, 107, 121]⟩, .string ⟨#[97, 114, 101, 97]⟩, .string ⟨#[115, 97, 118, 101]⟩, .string ⟨#[98, 97, 100]⟩] 9
          have q0 : (wq.alloc (.cells #[.string ⟨#[115, 107, 121]⟩, .string ⟨#[97, 114, 101, 97]⟩, .string ⟨#[115, 97, 118, 101]⟩, .string ⟨#[98, 97, 100]⟩] 9)).cell? ⟨wq.heap.size, 0, none⟩ = some (.string ⟨#[115, 107, 121]⟩) := hbx.cell 0 rfl
          have q1 : (wq.alloc (.cells #[.string ⟨#[115, 107, 121]⟩, .string ⟨#[97, 114, 101, 97]⟩, .string ⟨#[115, 97, 118, 101]⟩, .string ⟨#[98, 97, 100]⟩] 9)).cell? ⟨wq.heap.size, 1, none⟩ = some (.string ⟨#[97, 114, 101, 97]⟩) := hbx.cell 1 rfl
          have q2 : (wq.alloc (.cells #[.string ⟨#[115, 107, 121]⟩, .string ⟨#[97, 114, 101, 97]⟩, .string ⟨#[115, 97, 118, 101]⟩, .string ⟨#[98, 97, 100]⟩] 9)).cell? ⟨wq.heap.size, 2, none⟩ = some (.string ⟨#[115, 97, 118, 101]⟩) := hbx.cell 2 rfl
          have q3 : (wq.alloc (.cells #[.string ⟨#[115, 107, 121]⟩, .string ⟨#[97, 114, 101, 97]⟩, .string ⟨#[115, 97, 118, 101]⟩, .string ⟨#[98, 97, 100]⟩] 9)).cell? ⟨wq.heap.size, 3, none⟩ = some (.string ⟨#[98, 97, 100]⟩) := hbx.cell 3 rfl
          clear hbx
          have y4b : (wq.alloc (.cells #[.string ⟨#[115, 107, 121]⟩, .string ⟨#[97, 114, 101, 97]⟩, .string ⟨#[115, 97, 118, 101]⟩, .string ⟨#[98, 97, 100]⟩] 9)).cell? ⟨tb, 4, none⟩ = some (.int .i64 ca) := ((below_alloc (Nat.le_refl wq.heap.size) _).cell (p := ⟨tb, 4, none⟩) (World.block_lt_of_cell? wq _ y4)).trans y4
          have hva : va = 0 ∨ va = 1 ∨ va = 2 ∨ va = 3 := by omega
          rcases hva with rfl | rfl | rfl | rfl
          · have HCM3 := HCM2.out
            have HCM2 := Kp.mk (HCM3.trans (show _ = skyK from by first | rfl | simp))
            clear HCM3
            have sl1 : ((⟨#[115, 107, 121]⟩ : ByteArray) : ByteArray).size ≤ 3 := by decide
            have sl2 : ((⟨#[10]⟩ : ByteArray) : ByteArray).size ≤ 1 := by decide
            have hadd3 : ((⟨#[115, 107, 121]⟩ : ByteArray) : ByteArray) ++ (⟨#[10]⟩ : ByteArray) = ⟨(([115, 107, 121] : List UInt8) ++ ([10] : List UInt8)).toArray⟩ := str_add ([115, 107, 121] : List UInt8) ([10] : List UInt8)
            obtain ⟨T3, hT3⟩ : ∃ T, ([115, 107, 121] : List UInt8) ++ ([10] : List UInt8) = T := ⟨_, rfl⟩
            rw [hT3] at hadd3
            have lT3 : T3.length ≤ 4 := by rw [← hT3, List.length_append]; (try simp only [List.length_cons, List.length_nil]); omega
            have sT3 : (⟨T3.toArray⟩ : ByteArray).size ≤ 4 := str_size lT3
            have hadd4 : (⟨S.toArray⟩ : ByteArray) ++ ⟨T3.toArray⟩ = ⟨(S ++ T3).toArray⟩ := str_add S T3
            obtain ⟨T4, hT4⟩ : ∃ T, S ++ T3 = T := ⟨_, rfl⟩
            rw [hT4] at hadd4
            have lT4 : T4.length ≤ 1600 := by rw [← hT4, List.length_append]; (try simp only [List.length_cons, List.length_nil]); omega
            have sT4 : (⟨T4.toArray⟩ : ByteArray).size ≤ 1600 := str_size lT4
            have lF : T4.length ≤ 60 * (k + 1) := by rw [← hT4, List.length_append]; omega
            have HF := Kp.mk (show T4 = textOf ((C.take (k + 1)).map cmdOf) from by
              rw [HSN.out, HCM2.out, ← HS.out, ← hT4, ← hT3]
              try simp [joinC, putK, dropK, countK, askK, loadK, skyK, areaK, saveK])
            clear HSN HCM2 HS HEK hT4 hT3
            go_wp2_with (first
              | (go_at_call 9; with_reducible refine (CK.out _).mono ?_; rintro e w' ⟨rfl, rfl⟩)
              | (go_at_call 9; with_reducible refine (CPa.out _).mono ?_; rintro e w' ⟨rfl, rfl⟩)
              | fail)
            go_roundw
            case rel => exact ⟨k + 1, T4, by omega, by omega, lF, by go_num, rfl, HF, ⟨HAL.out _⟩⟩
            case measure => simp [intOf]; omega
          · have HCM3 := HCM2.out
            have HCM2 := Kp.mk (HCM3.trans (show _ = areaK from by first | rfl | simp))
            clear HCM3
            have sl1 : ((⟨#[97, 114, 101, 97]⟩ : ByteArray) : ByteArray).size ≤ 4 := by decide
            have sl2 : ((⟨#[10]⟩ : ByteArray) : ByteArray).size ≤ 1 := by decide
            have hadd3 : ((⟨#[97, 114, 101, 97]⟩ : ByteArray) : ByteArray) ++ (⟨#[10]⟩ : ByteArray) = ⟨(([97, 114, 101, 97] : List UInt8) ++ ([10] : List UInt8)).toArray⟩ := str_add ([97, 114, 101, 97] : List UInt8) ([10] : List UInt8)
            obtain ⟨T3, hT3⟩ : ∃ T, ([97, 114, 101, 97] : List UInt8) ++ ([10] : List UInt8) = T := ⟨_, rfl⟩
            rw [hT3] at hadd3
            have lT3 : T3.length ≤ 5 := by rw [← hT3, List.length_append]; (try simp only [List.length_cons, List.length_nil]); omega
            have sT3 : (⟨T3.toArray⟩ : ByteArray).size ≤ 5 := str_size lT3
            have hadd4 : (⟨S.toArray⟩ : ByteArray) ++ ⟨T3.toArray⟩ = ⟨(S ++ T3).toArray⟩ := str_add S T3
            obtain ⟨T4, hT4⟩ : ∃ T, S ++ T3 = T := ⟨_, rfl⟩
            rw [hT4] at hadd4
            have lT4 : T4.length ≤ 1600 := by rw [← hT4, List.length_append]; (try simp only [List.length_cons, List.length_nil]); omega
            have sT4 : (⟨T4.toArray⟩ : ByteArray).size ≤ 1600 := str_size lT4
            have lF : T4.length ≤ 60 * (k + 1) := by rw [← hT4, List.length_append]; omega
            have HF := Kp.mk (show T4 = textOf ((C.take (k + 1)).map cmdOf) from by
              rw [HSN.out, HCM2.out, ← HS.out, ← hT4, ← hT3]
              try simp [joinC, putK, dropK, countK, askK, loadK, skyK, areaK, saveK])
            clear HSN HCM2 HS HEK hT4 hT3
            go_wp2_with (first
              | (go_at_call 9; with_reducible refine (CK.out _).mono ?_; rintro e w' ⟨rfl, rfl⟩)
              | (go_at_call 9; with_reducible refine (CPa.out _).mono ?_; rintro e w' ⟨rfl, rfl⟩)
              | fail)
            go_roundw
            case rel => exact ⟨k + 1, T4, by omega, by omega, lF, by go_num, rfl, HF, ⟨HAL.out _⟩⟩
            case measure => simp [intOf]; omega
          · have HCM3 := HCM2.out
            have HCM2 := Kp.mk (HCM3.trans (show _ = saveK from by first | rfl | simp))
            clear HCM3
            have sl1 : ((⟨#[115, 97, 118, 101]⟩ : ByteArray) : ByteArray).size ≤ 4 := by decide
            have sl2 : ((⟨#[10]⟩ : ByteArray) : ByteArray).size ≤ 1 := by decide
            have hadd3 : ((⟨#[115, 97, 118, 101]⟩ : ByteArray) : ByteArray) ++ (⟨#[10]⟩ : ByteArray) = ⟨(([115, 97, 118, 101] : List UInt8) ++ ([10] : List UInt8)).toArray⟩ := str_add ([115, 97, 118, 101] : List UInt8) ([10] : List UInt8)
            obtain ⟨T3, hT3⟩ : ∃ T, ([115, 97, 118, 101] : List UInt8) ++ ([10] : List UInt8) = T := ⟨_, rfl⟩
            rw [hT3] at hadd3
            have lT3 : T3.length ≤ 5 := by rw [← hT3, List.length_append]; (try simp only [List.length_cons, List.length_nil]); omega
            have sT3 : (⟨T3.toArray⟩ : ByteArray).size ≤ 5 := str_size lT3
            have hadd4 : (⟨S.toArray⟩ : ByteArray) ++ ⟨T3.toArray⟩ = ⟨(S ++ T3).toArray⟩ := str_add S T3
            obtain ⟨T4, hT4⟩ : ∃ T, S ++ T3 = T := ⟨_, rfl⟩
            rw [hT4] at hadd4
            have lT4 : T4.length ≤ 1600 := by rw [← hT4, List.length_append]; (try simp only [List.length_cons, List.length_nil]); omega
            have sT4 : (⟨T4.toArray⟩ : ByteArray).size ≤ 1600 := str_size lT4
            have lF : T4.length ≤ 60 * (k + 1) := by rw [← hT4, List.length_append]; omega
            have HF := Kp.mk (show T4 = textOf ((C.take (k + 1)).map cmdOf) from by
              rw [HSN.out, HCM2.out, ← HS.out, ← hT4, ← hT3]
              try simp [joinC, putK, dropK, countK, askK, loadK, skyK, areaK, saveK])
            clear HSN HCM2 HS HEK hT4 hT3
            go_wp2_with (first
              | (go_at_call 9; with_reducible refine (CK.out _).mono ?_; rintro e w' ⟨rfl, rfl⟩)
              | (go_at_call 9; with_reducible refine (CPa.out _).mono ?_; rintro e w' ⟨rfl, rfl⟩)
              | fail)
            go_roundw
            case rel => exact ⟨k + 1, T4, by omega, by omega, lF, by go_num, rfl, HF, ⟨HAL.out _⟩⟩
            case measure => simp [intOf]; omega
          · have HCM3 := HCM2.out
            have HCM2 := Kp.mk (HCM3.trans (show _ = ([98, 97, 100] : List UInt8) from by first | rfl | simp))
            clear HCM3
            have sl1 : ((⟨#[98, 97, 100]⟩ : ByteArray) : ByteArray).size ≤ 3 := by decide
            have sl2 : ((⟨#[10]⟩ : ByteArray) : ByteArray).size ≤ 1 := by decide
            have hadd3 : ((⟨#[98, 97, 100]⟩ : ByteArray) : ByteArray) ++ (⟨#[10]⟩ : ByteArray) = ⟨(([98, 97, 100] : List UInt8) ++ ([10] : List UInt8)).toArray⟩ := str_add ([98, 97, 100] : List UInt8) ([10] : List UInt8)
            obtain ⟨T3, hT3⟩ : ∃ T, ([98, 97, 100] : List UInt8) ++ ([10] : List UInt8) = T := ⟨_, rfl⟩
            rw [hT3] at hadd3
            have lT3 : T3.length ≤ 4 := by rw [← hT3, List.length_append]; (try simp only [List.length_cons, List.length_nil]); omega
            have sT3 : (⟨T3.toArray⟩ : ByteArray).size ≤ 4 := str_size lT3
            have hadd4 : (⟨S.toArray⟩ : ByteArray) ++ ⟨T3.toArray⟩ = ⟨(S ++ T3).toArray⟩ := str_add S T3
            obtain ⟨T4, hT4⟩ : ∃ T, S ++ T3 = T := ⟨_, rfl⟩
            rw [hT4] at hadd4
            have lT4 : T4.length ≤ 1600 := by rw [← hT4, List.length_append]; (try simp only [List.length_cons, List.length_nil]); omega
            have sT4 : (⟨T4.toArray⟩ : ByteArray).size ≤ 1600 := str_size lT4
            have lF : T4.length ≤ 60 * (k + 1) := by rw [← hT4, List.length_append]; omega
            have HF := Kp.mk (show T4 = textOf ((C.take (k + 1)).map cmdOf) from by
              rw [HSN.out, HCM2.out, ← HS.out, ← hT4, ← hT3]
              try simp [joinC, putK, dropK, countK, askK, loadK, skyK, areaK, saveK])
            clear HSN HCM2 HS HEK hT4 hT3
            go_wp2_with (first
              | (go_at_call 9; with_reducible refine (CK.out _).mono ?_; rintro e w' ⟨rfl, rfl⟩)
              | (go_at_call 9; with_reducible refine (CPa.out _).mono ?_; rintro e w' ⟨rfl, rfl⟩)
              | fail)
            go_roundw
            case rel => exact ⟨k + 1, T4, by omega, by omega, lF, by go_num, rfl, HF, ⟨HAL.out _⟩⟩
            case measure => simp [intOf]; omega
        · obtain ⟨va, ea, ga⟩ := pick_nat ca 99 (by omega)
          have HCM2 := Kp.mk (cmd_load (ck := ck) (cx := cx) (cy := cy) (cw := cw) (ca := ca) (cb := cb) (cc := cc) (cd := cd) (by rw [HEK.out]; rfl))
          rw [ea] at HCM2
          have CPa := Kp.mk (fun W => picked_any ca 99 W (by omega) (by omega) ia1 ia2)
          rw [ea] at CPa
          have CNa := Kp.mk (fun W => num_any ((va : Int)) (by omega) (by omega) W)
          have n3a := num3 (x := (va : Int)) (by omega) (by omega)
          have lia := n3a.len
          obtain ⟨Ia, hIa⟩ : ∃ I, Lib.itoa ((va : Int)) = I := ⟨_, rfl⟩
          rw [hIa] at CNa lia HCM2
          have sia : (⟨Ia.toArray⟩ : ByteArray).size ≤ 3 := str_size lia
          clear n3a hIa ea
          have sl1 : ((⟨#[108, 111, 97, 100, 32, 52, 52]⟩ : ByteArray) : ByteArray).size ≤ 7 := by decide
          have sl2 : ((⟨#[10]⟩ : ByteArray) : ByteArray).size ≤ 1 := by decide
          have hadd3 : ((⟨#[108, 111, 97, 100, 32, 52, 52]⟩ : ByteArray) : ByteArray) ++ ⟨Ia.toArray⟩ = ⟨(([108, 111, 97, 100, 32, 52, 52] : List UInt8) ++ Ia).toArray⟩ := str_add ([108, 111, 97, 100, 32, 52, 52] : List UInt8) Ia
          obtain ⟨T3, hT3⟩ : ∃ T, ([108, 111, 97, 100, 32, 52, 52] : List UInt8) ++ Ia = T := ⟨_, rfl⟩
          rw [hT3] at hadd3
          have lT3 : T3.length ≤ 10 := by rw [← hT3, List.length_append]; (try simp only [List.length_cons, List.length_nil]); omega
          have sT3 : (⟨T3.toArray⟩ : ByteArray).size ≤ 10 := str_size lT3
          have hadd4 : (⟨T3.toArray⟩ : ByteArray) ++ (⟨#[10]⟩ : ByteArray) = ⟨(T3 ++ ([10] : List UInt8)).toArray⟩ := str_add T3 ([10] : List UInt8)
          obtain ⟨T4, hT4⟩ : ∃ T, T3 ++ ([10] : List UInt8) = T := ⟨_, rfl⟩
          rw [hT4] at hadd4
          have lT4 : T4.length ≤ 11 := by rw [← hT4, List.length_append]; (try simp only [List.length_cons, List.length_nil]); omega
          have sT4 : (⟨T4.toArray⟩ : ByteArray).size ≤ 11 := str_size lT4
          have hadd5 : (⟨S.toArray⟩ : ByteArray) ++ ⟨T4.toArray⟩ = ⟨(S ++ T4).toArray⟩ := str_add S T4
          obtain ⟨T5, hT5⟩ : ∃ T, S ++ T4 = T := ⟨_, rfl⟩
          rw [hT5] at hadd5
          have lT5 : T5.length ≤ 1600 := by rw [← hT5, List.length_append]; (try simp only [List.length_cons, List.length_nil]); omega
          have sT5 : (⟨T5.toArray⟩ : ByteArray).size ≤ 1600 := str_size lT5
          have lF : T5.length ≤ 60 * (k + 1) := by rw [← hT5, List.length_append]; omega
          have HF := Kp.mk (show T5 = textOf ((C.take (k + 1)).map cmdOf) from by
            rw [HSN.out, HCM2.out, ← HS.out, ← hT5, ← hT4, ← hT3]
            try simp [joinC, putK, dropK, countK, askK, loadK, skyK, areaK, saveK])
          clear HSN HCM2 HS HEK hT5 hT4 hT3
          go_wp2_with (first
            | (go_at_call 9; with_reducible refine (CK.out _).mono ?_; rintro e w' ⟨rfl, rfl⟩)
            | (go_at_call 9; with_reducible refine (CPa.out _).mono ?_; rintro e w' ⟨rfl, rfl⟩)
            | (go_at_call 11; with_reducible refine (CNa.out _).mono ?_; rintro e w2 ⟨rfl, HB2⟩; have HBF := Kp.mk (below_step HB1.out HB2.out))
            | fail)
          go_roundw
          case rel => exact ⟨k + 1, T5, by omega, by omega, lF, by go_num, rfl, HF, HBF⟩
          case measure => simp [intOf]; omega
      · obtain rfl : k = n := by omega
        have d1 : decide ((k : Int) < (k : Int)) = false := decide_eq_false (by omega)
        have HF := HS
        go_wp2
        go_ret
        exact ⟨by rw [← HF.out]; rfl, HB⟩
    · obtain rfl : k = m := by omega
      have HF := Kp.mk (show S = textOf ((C.take n).map cmdOf) from by
        rw [HS.out, List.take_of_length_le (by rw [HCL.out]; exact Nat.le_refl _), List.take_of_length_le (by rw [HCL.out]; exact hkn)])
      go_wp2
      go_ret
      exact ⟨by rw [← HF.out]; rfl, HB⟩

end Go.Proofs.YtedchegejalolaaGreatDoor.Dk

