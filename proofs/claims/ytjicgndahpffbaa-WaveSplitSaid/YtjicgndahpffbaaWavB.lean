/- Package wave: Rank, below, kth, Below, Kth, Next. -/
import Derived.Test.YtjicgndahpffbaaWavA
namespace Go.Proofs.Ytjicgndahpffbaa
set_option linter.unusedVariables false
open Go.RowKit

theorem i64_bit (x r : Nat) (hx : x < 9223372036854775808) : (bits BinOp.and IntKind.i64 ((x : Int) / 2 ^ r) 1 == 1) = bitB x r ∧ ∃ y : Nat, bits BinOp.and IntKind.i64 ((x : Int) / 2 ^ r) 1 = (y : Int) ∧ ((y : Int) == 1) = bitB x r := by
  have e : (x : Int) / 2 ^ r = ((x / 2 ^ r : Nat) : Int) := by push_cast; rfl
  have hd : x / 2 ^ r ≤ x := Nat.div_le_self _ _
  have := i64_and_nat (x / 2 ^ r) 1 (by omega) (by decide)
  have h2 : bits BinOp.and IntKind.i64 ((x : Int) / 2 ^ r) 1 = ((x / 2 ^ r % 2 : Nat) : Int) := by
    rw [e, show (1 : Int) = ((1 : Nat) : Int) from rfl, this, Nat.and_one_is_mod]
  refine ⟨?_, x / 2 ^ r % 2, h2, bitB_eq x r _ rfl⟩
  rw [h2]; exact bitB_eq x r _ rfl
/-- One step of a range down a wave. -/
theorem wsg_step (K n k a b : Nat) (o : Bool) (l S : List Nat) (hl : l.length = n) (hk : k < K) (hab : a ≤ b) (hb : b ≤ n) (hs : sg (lst K l k) a b = S) :
    dwn (rowAt K l k) a o ≤ dwn (rowAt K l k) b o ∧ dwn (rowAt K l k) b o ≤ n ∧ sg (lst K l (k + 1)) (dwn (rowAt K l k) a o) (dwn (rowAt K l k) b o) = S.filter (fun y => bitB y (K - 1 - k) == o) := by
  have hL : (lst K l k).length = n := by rw [lst_length, hl]
  have e : lst K l (k + 1) = stepL (K - 1 - k) (lst K l k) := lst_succ K l k
  have e2 : rowAt K l k = rowL (K - 1 - k) (lst K l k) := by unfold rowAt; rfl
  rw [e, e2]
  refine ⟨dwn_mono _ _ _ _ hab (by omega) _, by rw [← hL]; exact dwn_le _ _ _ (by omega) _, ?_⟩
  rw [dwn_sg _ _ _ _ hab (by omega), hs]
theorem wzeros (K n k a b : Nat) (l S : List Nat) (hl : l.length = n) (hk : k < K) (hab : a ≤ b) (hb : b ≤ n) (hs : sg (lst K l k) a b = S) :
    dwn (rowAt K l k) b false = dwn (rowAt K l k) a false + (S.filter fun y => bitB y (K - 1 - k) == false).length := by
  obtain ⟨h1, h2, h3⟩ := wsg_step K n k a b false l S hl hk hab hb hs
  have h4 := congrArg List.length h3
  rw [sg_length _ _ _ (by rw [lst_length, hl]; exact h2)] at h4
  omega
theorem wsame (K k x : Nat) (S : List Nat) (hk : k < K) : (same (K - k) x S).filter (fun y => bitB y (K - 1 - k) == bitB x (K - 1 - k)) = same (K - (k + 1)) x S := by
  have := same_step (K - 1 - k) x S
  rw [show K - 1 - k + 1 = K - k by omega] at this
  rw [this, show K - 1 - k = K - (k + 1) by omega]

set_option maxRecDepth 100000 in
set_option maxHeartbeats 2000000 in
theorem wrank_any (a : Option Addr) (cap K n x i : Nat) (l : List Nat) (w : World) (h : IsWave w a cap K l) (hl : l.length = n) (hn : n ≤ 300) (hK : 0 < K) (hK2 : K ≤ 21) (hi : i ≤ n) (hb : ∀ y ∈ l, y < 2 ^ K) (hx2 : x < 2 ^ K) :
    Calls Try.prog 19 #[.agg #[.slice a K cap], .int .i64 x, .int .i64 i] w fun e w' => e = .returned (.tuple #[.int .i64 (((l.take i).filter (· == x)).length : Nat), .int .i64 0]) ∧ Below w.heap.size w w' := by
  have HA := Kp.mk (below_alloc (Nat.le_refl w.heap.size) (.cells #[.slice a K cap] 27))
  have HBX := Kp.mk (Box.new w #[.slice a K cap] 27)
  have H := Kp.mk (h.below HA.out)
  have HLn := Kp.mk hl
  have hxm : x < 2097152 := Nat.lt_of_lt_of_le hx2 (Nat.le_trans (Nat.pow_le_pow_right (by omega) hK2) (by decide))
  have HX := Kp.mk (show sg (lst K l 0) 0 i = same (K - 0) x (l.take i) from by
    rw [lst_zero, Nat.sub_zero, same_all K x _ (fun y hy => hb y (List.mem_of_mem_take hy)) hx2]; unfold sg; rfl)
  have HD := Kp.mk (show decide (x < 2 ^ K) = true from decide_eq_true hx2)
  obtain ⟨bx, hbx⟩ : ∃ bx, bx = w.heap.size := ⟨_, rfl⟩
  have C := Kp.mk (wmay_any a cap K n l _ H.out hl hn hK hK2)
  have d0 : (w.alloc (.cells #[.slice a K cap] 27)).cell? ⟨w.heap.size, 0, none⟩ = some (.slice a K cap) := HBX.out.cell 0 rfl
  have t1 : decide ((i : Int) < 0) = false := decide_eq_false (by omega)
  clear h hl hb hx2
  go_enter Try.func19, Try.ntmps19
  go_wp2_with fail
  refine C.out.mono ?_
  rintro e w1 ⟨rfl, hb⟩
  have HB1 := Kp.mk (below_step HA.out hb)
  have hb1 := Kp.mk (HBX.out.below hb)
  have H1 := Kp.mk (H.out.below hb)
  rw [← hbx] at hb1 ⊢
  have d1 : w1.cell? ⟨bx, 0, none⟩ = some (.slice a K cap) := hb1.out.cell 0 rfl
  clear hb C d0 H HBX HA
  clear hbx
  go_wp2_with fail
  refine (wlen_any a cap K n l w1 H1.out HLn.out hK hK2).mono ?_
  rintro e w2 ⟨rfl, hb⟩
  have HB2 := Kp.mk (below_step HB1.out hb)
  have hb2 := Kp.mk (hb1.out.below hb)
  have H2 := Kp.mk (H1.out.below hb)
  have d2 : w2.cell? ⟨bx, 0, none⟩ = some (.slice a K cap) := hb2.out.cell 0 rfl
  have t2 : decide ((n : Int) < i) = false := decide_eq_false (by omega)
  have t3 : decide (n < i) = false := decide_eq_false (by omega)
  clear hb d1 hb1 H1 HB1
  go_wp2_with fail
  refine (wfits_any a cap K x w2 hK2 (by omega)).mono ?_
  rintro e w3 ⟨rfl, hb⟩
  rw [HD.out]
  have HB3 := Kp.mk (below_step HB2.out hb)
  have hb3 := Kp.mk (hb2.out.below hb)
  have H3 := Kp.mk (H2.out.below hb)
  have d3 : w3.cell? ⟨bx, 0, none⟩ = some (.slice a K cap) := hb3.out.cell 0 rfl
  clear hb d2 hb2 H2 HB2
  go_wp2
  go_loopw [8, 9, 35] (fun av bv kv wr => ∃ (k p q : Nat), k ≤ K ∧ kv = .int .i64 k ∧ av = .int .i64 p ∧ bv = .int .i64 q ∧ p ≤ q ∧ q ≤ n ∧ Kp (sg (lst K l k) p q = same (K - k) x (l.take i)) ∧ Kp (Below w3.heap.size w3 wr)) (fun _ _ k _ => K - (intOf k).toNat)
  case atStart => exact ⟨0, 0, i, Nat.zero_le _, rfl, rfl, rfl, Nat.zero_le _, hi, HX, ⟨Below.refl _ _⟩⟩
  case round =>
    obtain ⟨k, p, q, hk, rfl, rfl, rfl, hpq, hq, HS, HBL⟩ := hrel
    by_cases hlt : k < K
    · obtain ⟨s1, s2, s3⟩ := wsg_step K n k p q (bitB x (K - 1 - k)) l _ HLn.out hlt hpq hq HS.out
      rw [wsame K k x _ hlt] at s3
      obtain ⟨b, off, sa, sc, rfl, hbw, c0, c1, hbi⟩ := (H3.out.below HBL.out).at HLn.out k hlt
      have hE := rowAt_length K l k
      rw [HLn.out] at hE
      generalize rowAt K l k = E at *
      have hr : (K : Int) - 1 - (k : Int) = ((K - 1 - k : Nat) : Int) := by omega
      obtain ⟨z0, zy, z1, z2⟩ := i64_bit x (K - 1 - k) (by omega)
      generalize bitB x (K - 1 - k) = t at *
      have hr2 : K - 1 - k ≤ 63 := by omega
      generalize K - 1 - k = r at *
      have HE := Kp.mk hE
      have HBI := Kp.mk hbi
      have HS3 := Kp.mk s3
      clear hE hbi s3
      have hba := below_alloc (Nat.le_refl wr.heap.size) (.cells #[.int .i64 n, .slice sa (bwN n) sc] 42)
      have HB4 := Kp.mk (HBL.out.trans (hba.mono HBL.out.size))
      have HBI2 := Kp.mk (HBI.out.below hba)
      have hbox := Box.new wr #[.int .i64 n, .slice sa (bwN n) sc] 42
      have hbw3 := ((hb3.out.below HBL.out).below hba).cell 0 rfl
      have y0 : (wr.alloc (.cells #[.int .i64 n, .slice sa (bwN n) sc] 42)).cell? ⟨wr.heap.size, 0, none⟩ = some (.int .i64 n) := hbox.cell 0 rfl
      have y1 : (wr.alloc (.cells #[.int .i64 n, .slice sa (bwN n) sc] 42)).cell? ⟨wr.heap.size, 1, none⟩ = some (.slice sa (bwN n) sc) := hbox.cell 1 rfl
      have y2 : (wr.alloc (.cells #[.int .i64 n, .slice sa (bwN n) sc] 42)).cell? ⟨bx, 0, none⟩ = some (.slice (some ⟨b, off, none⟩) K cap) := hbw3
      clear hba hbox hbw3 z0
      go_upto_region 12 with (fail)
      generalize wr.alloc (.cells #[.int .i64 n, .slice sa (bwN n) sc] 42) = w4 at *
      have r0 := later_cell y0
      have r1 := later_cell y1
      have C := Kp.mk (fun (X : Later w4) (i : Nat) (hi : i ≤ n) => down_any sa sc n i t E X.val (HBI2.out.below X.le) HE.out hn hi)
      have hpn : p ≤ n := by omega
      clear y0 y1 y2 z1 z2 hr
      refine region_later (by kernel_rfl) (by kernel_rfl) ?_
      repeat (quiet_step ((go_at_call 52; exact q_later (C.out _ _ (by assumption)))))
      refine wpQuiet_nil ?_
      rintro w' ⟨xl, rfl⟩
      have HB5 := Kp.mk (HB4.out.trans (xl.le.mono HB4.out.size))
      clear r0 r1 C
      generalize dwn E p t = p' at *
      generalize dwn E q t = q' at *
      go_wp2
      go_roundw
      case rel => exact ⟨k + 1, p', q', by omega, by go_num, rfl, rfl, s1, s2, HS3, HB5⟩
      case measure => simp [intOf]; omega
    · obtain rfl : k = K := by omega
      have hs := HS.out
      rw [Nat.sub_self, same_none] at hs
      have h4 := congrArg List.length hs
      rw [sg_length _ _ _ (by rw [lst_length, HLn.out]; exact hq)] at h4
      have e3 : (q : Int) - p = ((((l.take i).filter (· == x)).length : Nat) : Int) := by omega
      have H3' := Kp.mk e3
      clear e3 h4 hs
      go_wp2
      go_ret2
      exact ⟨by rw [← H3'.out]; rfl, below_step HB3.out HBL.out⟩

end Go.Proofs.Ytjicgndahpffbaa
