/- Package wave: kth, Below, Kth, Next. -/
import Derived.Test.YtepcmpcnkmfpcaaWavC
namespace Go.Proofs.Ytepcmpcnkmfpcaa
set_option linter.unusedVariables false
open Go.RowKit

theorem pk_lt {P k K : Nat} (h : P < 2 ^ k) (hk : k ≤ K) (hK : K ≤ 21) : P < 2097152 :=
  Nat.lt_of_lt_of_le h (Nat.le_trans (Nat.pow_le_pow_right (by omega) (Nat.le_trans hk hK)) (by decide))

set_option maxRecDepth 100000 in
set_option maxHeartbeats 2000000 in
theorem wkth_any (a : Option Addr) (cap K n p0 q0 kk : Nat) (l : List Nat) (w : World) (h : IsWave w a cap K l) (hl : l.length = n) (hn : n ≤ 300) (hK : 0 < K) (hK2 : K ≤ 21) (hpq0 : p0 ≤ q0) (hq0 : q0 ≤ n) (hb : ∀ y ∈ l, y < 2 ^ K) (hkk : kk < q0 - p0) :
    Calls Try.prog 79 #[.agg #[.slice a K cap], .int .i64 p0, .int .i64 q0, .int .i64 kk] w fun e w' => (∃ m : Nat, e = .returned (.int .i64 m) ∧ m < 2097152 ∧ Kp (IsKth (sg l p0 q0) kk m)) ∧ Below w.heap.size w w' := by
  have HA := Kp.mk (below_alloc (Nat.le_refl w.heap.size) (.cells #[.slice a K cap] 57))
  have HBX := Kp.mk (Box.new w #[.slice a K cap] 57)
  have hSl := sg_length l p0 q0 (by omega)
  have hSb : ∀ y ∈ sg l p0 q0, y < 2 ^ K := fun y hy => hb y (by unfold sg at hy; exact List.mem_of_mem_take (List.mem_of_mem_drop hy))
  obtain ⟨S, hS⟩ : ∃ S, sg l p0 q0 = S := ⟨_, rfl⟩
  rw [hS] at hSl hSb ⊢
  have h2K : 0 < 2 ^ K := Nat.pow_pos (by omega)
  have HX := Kp.mk (show sg (lst K l 0) p0 q0 = same (K - 0) (0 * 2 ^ (K - 0)) S from by rw [lst_zero, Nat.sub_zero, Nat.zero_mul, same_all K 0 _ hSb h2K]; exact hS)
  have HC := Kp.mk (show lessK (K - 0) (0 * 2 ^ (K - 0)) S + kk = kk from by rw [Nat.sub_zero, Nat.zero_mul, lessK_all K 0 S h2K, Nat.zero_add])
  have H3 := Kp.mk (h.below HA.out)
  have HLn := Kp.mk hl
  have HSL := Kp.mk hSl
  obtain ⟨bx, hbx⟩ : ∃ bx, bx = w.heap.size := ⟨_, rfl⟩
  obtain ⟨w3, hw3⟩ : ∃ w3, w3 = w.alloc (.cells #[.slice a K cap] 57) := ⟨_, rfl⟩
  have d3 : w3.cell? ⟨bx, 0, none⟩ = some (.slice a K cap) := by rw [hw3, hbx]; exact HBX.out.cell 0 rfl
  have h01 : (0 : Nat) < 2 ^ 0 := by decide
  clear h hl hb hSl hSb hS h2K
  go_enter Try.func79, Try.ntmps79
  go_upto_region 1 with (fail)
  rw [← hw3] at HA HBX H3 ⊢
  rw [← hbx] at HBX ⊢
  clear hw3 hbx
  go_wp2
  go_loopw [1, 2, 3, 9, 17] (fun av bv rv nv kv wr => ∃ (k p q P r : Nat), k ≤ K ∧ kv = .int .i64 k ∧ av = .int .i64 p ∧ bv = .int .i64 q ∧ nv = .int .i64 P ∧ rv = .int .i64 r ∧ p ≤ q ∧ q ≤ n ∧ P < 2 ^ k ∧ r < q - p ∧ Kp (sg (lst K l k) p q = same (K - k) (P * 2 ^ (K - k)) S) ∧ Kp (lessK (K - k) (P * 2 ^ (K - k)) S + r = kk) ∧ Kp (Below w3.heap.size w3 wr)) (fun _ _ _ _ k _ => K - (intOf k).toNat)
  case atStart => exact ⟨0, p0, q0, 0, kk, Nat.zero_le _, rfl, rfl, rfl, rfl, rfl, hpq0, hq0, h01, hkk, HX, HC, ⟨Below.refl _ _⟩⟩
  case round =>
      obtain ⟨k, p, q, P, r, hk, rfl, rfl, rfl, rfl, rfl, hpq, hq, hP, hrq, HS, HL, HBL⟩ := hrel
      by_cases hlt : k < K
      rotate_left
      · obtain rfl : k = K := by omega
        have hs := HS.out
        have hl := HL.out
        rw [Nat.sub_self, Nat.pow_zero, Nat.mul_one] at hs hl
        have hlen := congrArg List.length hs
        rw [sg_length _ _ _ (by rw [lst_length, HLn.out]; exact hq)] at hlen
        have HR := Kp.mk (kth_done P kk S (by omega) (by omega))
        have hPk := pk_lt hP (Nat.le_refl _) hK2
        clear hs hl hlen
        go_wp2
        go_ret
        exact ⟨⟨P, rfl, hPk, HR⟩, HA.out.trans (HBL.out.mono HA.out.size)⟩
      have hPk := pk_lt hP (Nat.le_of_lt hlt) hK2
      obtain ⟨z, hz, hw⟩ := wkth K n k p q P r kk l S HLn.out hlt hpq hq HS.out HL.out hrq
      obtain ⟨hpf', hqf, _⟩ := wsg_step K n k p q false l _ HLn.out hlt hpq hq HS.out
      obtain ⟨b, off, sa, sc, rfl, hbw, c0, c1, hbi⟩ := (H3.out.below HBL.out).at HLn.out k hlt
      have hE := rowAt_length K l k
      rw [HLn.out] at hE
      generalize rowAt K l k = E at *
      have HE := Kp.mk hE
      have HBI := Kp.mk hbi
      clear hE hbi
      have hba := below_alloc (Nat.le_refl wr.heap.size) (.cells #[.int .i64 n, .slice sa (bwN n) sc] 98)
      have HB4 := Kp.mk (HBL.out.trans (hba.mono HBL.out.size))
      have HBI2 := Kp.mk (HBI.out.below hba)
      have hbox := Box.new wr #[.int .i64 n, .slice sa (bwN n) sc] 98
      have hbw3 := ((HBX.out.below HBL.out).below hba).cell 0 rfl
      have y0 : (wr.alloc (.cells #[.int .i64 n, .slice sa (bwN n) sc] 98)).cell? ⟨wr.heap.size, 0, none⟩ = some (.int .i64 n) := hbox.cell 0 rfl
      have y1 : (wr.alloc (.cells #[.int .i64 n, .slice sa (bwN n) sc] 98)).cell? ⟨wr.heap.size, 1, none⟩ = some (.slice sa (bwN n) sc) := hbox.cell 1 rfl
      have y2 : (wr.alloc (.cells #[.int .i64 n, .slice sa (bwN n) sc] 98)).cell? ⟨bx, 0, none⟩ = some (.slice (some ⟨b, off, none⟩) K cap) := hbw3
      have hpf : dwn E p false ≤ n := by omega
      have hpn : p ≤ n := by omega
      have hdz : (((dwn E q false : Nat) : Int) - (dwn E p false : Nat)) = (z : Int) := by omega
      have hzn : z ≤ n := by omega
      have e0 : IntKind.i64.wrap (((dwn E q false : Nat) : Int) - (dwn E p false : Nat)) = ((dwn E q false : Nat) : Int) - (dwn E p false : Nat) := IntWalk.i64_in _ (by omega)
      have e2 : IntKind.i64.wrap (z : Int) = (z : Int) := IntWalk.i64_in _ (by omega)
      clear hba hbox hbw3 hz
      by_cases hzr : z ≤ r
      · skip
        have HW := Kp.mk (hw true (by symm; exact decide_eq_true hzr))
        have b1 : decide ((z : Int) ≤ (r : Int)) = true := decide_eq_true (by omega)
        have b2 : decide (z ≤ r) = true := decide_eq_true hzr
        clear hw
        go_upto_region 5 with (fail)
        generalize wr.alloc (.cells #[.int .i64 n, .slice sa (bwN n) sc] 98) = w4 at *
        have Y0 := Kp.mk y0
        have Y1 := Kp.mk y1
        have r0 := later_cell y0
        have r1 := later_cell y1
        have C := Kp.mk (fun (X : Later w4) (i : Nat) (o : Bool) (hi : i ≤ n) => down_any sa sc n i o E X.val (HBI2.out.below X.le) HE.out hn hi)
        clear y0 y1 y2
        refine region_later (by kernel_rfl) (by kernel_rfl) ?_
        repeat (quiet_step ((go_at_call 88; exact q_later (C.out _ _ _ (by assumption)))))
        refine wpQuiet_nil ?_
        rintro w' ⟨xl, rfl⟩
        have y0 := r0 xl
        have y1 := r1 xl
        have HB5 := Kp.mk (HB4.out.trans (xl.le.mono HB4.out.size))
        have HBI3 := Kp.mk (HBI2.out.below xl.le)
        clear r0 r1 C e0 e2 Y0 Y1 hdz
        go_upto_region 11 with (fail)
        obtain ⟨w5, hw5⟩ : ∃ w5, w5 = xl.val := ⟨_, rfl⟩
        rw [← hw5] at y0 y1 HB5 HBI3 ⊢
        clear hw5
        have r0 := later_cell y0
        have r1 := later_cell y1
        have C := Kp.mk (fun (X : Later w5) (i : Nat) (o : Bool) (hi : i ≤ n) => down_any sa sc n i o E X.val (HBI3.out.below X.le) HE.out hn hi)
        clear y0 y1 
        refine region_later (by kernel_rfl) (by kernel_rfl) ?_
        repeat (quiet_step ((go_at_call 88; exact q_later (C.out _ _ _ (by assumption)))))
        refine wpQuiet_nil ?_
        rintro w' ⟨xl, rfl⟩
        have HB6 := Kp.mk (HB5.out.trans (xl.le.mono HB5.out.size))
        obtain ⟨v1, v2, v3, v4, v5⟩ := HW.out
        have V3 := Kp.mk v3
        have V4 := Kp.mk v4
        clear r0 r1 C hpf hqf HW v3 v4
        generalize dwn E p true = p' at *
        generalize dwn E q true = q' at *
        go_wp2
        go_roundw
        case rel => exact ⟨k + 1, p', q', 2 * P + 1, r - z, by omega, by go_num, rfl, rfl, by congr 1; omega, by congr 1; omega, v1, v2, by rw [Nat.pow_succ]; omega, v5, V3, V4, HB6⟩
        case measure => simp [intOf]; omega
      · skip
        have HW := Kp.mk (hw false (by symm; exact decide_eq_false hzr))
        have b1 : decide ((z : Int) ≤ (r : Int)) = false := decide_eq_false (by omega)
        have b2 : decide (z ≤ r) = false := decide_eq_false hzr
        clear hw
        go_upto_region 5 with (fail)
        generalize wr.alloc (.cells #[.int .i64 n, .slice sa (bwN n) sc] 98) = w4 at *
        have Y0 := Kp.mk y0
        have Y1 := Kp.mk y1
        have r0 := later_cell y0
        have r1 := later_cell y1
        have C := Kp.mk (fun (X : Later w4) (i : Nat) (o : Bool) (hi : i ≤ n) => down_any sa sc n i o E X.val (HBI2.out.below X.le) HE.out hn hi)
        clear y0 y1 y2
        refine region_later (by kernel_rfl) (by kernel_rfl) ?_
        repeat (quiet_step ((go_at_call 88; exact q_later (C.out _ _ _ (by assumption)))))
        refine wpQuiet_nil ?_
        rintro w' ⟨xl, rfl⟩
        have y0 := r0 xl
        have y1 := r1 xl
        have HB5 := Kp.mk (HB4.out.trans (xl.le.mono HB4.out.size))
        have HBI3 := Kp.mk (HBI2.out.below xl.le)
        clear r0 r1 C e0 e2 Y0 Y1 hdz
        go_upto_region 11 with (fail)
        obtain ⟨w5, hw5⟩ : ∃ w5, w5 = xl.val := ⟨_, rfl⟩
        rw [← hw5] at y0 y1 HB5 HBI3 ⊢
        clear hw5
        have r0 := later_cell y0
        have r1 := later_cell y1
        have C := Kp.mk (fun (X : Later w5) (i : Nat) (o : Bool) (hi : i ≤ n) => down_any sa sc n i o E X.val (HBI3.out.below X.le) HE.out hn hi)
        clear y0 y1 
        refine region_later (by kernel_rfl) (by kernel_rfl) ?_
        repeat (quiet_step ((go_at_call 88; exact q_later (C.out _ _ _ (by assumption)))))
        refine wpQuiet_nil ?_
        rintro w' ⟨xl, rfl⟩
        have HB6 := Kp.mk (HB5.out.trans (xl.le.mono HB5.out.size))
        obtain ⟨v1, v2, v3, v4, v5⟩ := HW.out
        have V3 := Kp.mk v3
        have V4 := Kp.mk v4
        clear r0 r1 C hpf hqf HW v3 v4
        generalize dwn E p false = p' at *
        generalize dwn E q false = q' at *
        go_wp2
        go_roundw
        case rel => exact ⟨k + 1, p', q', 2 * P + 0, r, by omega, by go_num, rfl, rfl, by congr 1; omega, rfl, v1, v2, by rw [Nat.pow_succ]; omega, v5, V3, V4, HB6⟩
        case measure => simp [intOf]; omega

set_option maxHeartbeats 1000000 in
theorem wBelow_any (a : Option Addr) (cap K n x p q : Nat) (l : List Nat) (w : World) (h : IsWave w a cap K l) (hl : l.length = n) (hn : n ≤ 300) (hK : 0 < K) (hK2 : K ≤ 21) (hpq : p ≤ q) (hq : q ≤ n) (hb : ∀ y ∈ l, y < 2 ^ K) (hxm : x ≤ 1000000000) :
    Calls Try.prog 30 #[.agg #[.slice a K cap], .int .i64 p, .int .i64 q, .int .i64 x] w fun e w' => e = .returned (.tuple #[.int .i64 (cntBelow (sg l p q) x : Nat), .int .i64 0]) ∧ Below w.heap.size w w' := by
  have HA := Kp.mk (below_alloc (Nat.le_refl w.heap.size) (.cells #[.slice a K cap] 57))
  have HBX := Kp.mk (Box.new w #[.slice a K cap] 57)
  have C := Kp.mk (wfault_any a cap K n p q l _ (h.below HA.out) hl hn hK hK2 hpq hq)
  have H := Kp.mk (h.below HA.out)
  have HLn := Kp.mk hl
  have HB := Kp.mk hb
  have d0 : (w.alloc (.cells #[.slice a K cap] 57)).cell? ⟨w.heap.size, 0, none⟩ = some (.slice a K cap) := HBX.out.cell 0 rfl
  clear h hl hb
  go_enter Try.func30, Try.ntmps30
  go_wp2_with fail
  refine C.out.mono ?_
  rintro e w1 ⟨rfl, hb⟩
  have HB1 := Kp.mk (below_step HA.out hb)
  have H1 := Kp.mk (H.out.below hb)
  have d1 : w1.cell? ⟨w.heap.size, 0, none⟩ = some (.slice a K cap) := (HBX.out.below hb).cell 0 rfl
  clear hb C d0 H HBX HA
  have C2 := Kp.mk (wbelow_any a cap K n x p q l w1 H1.out HLn.out hn hK hK2 hpq hq HB.out hxm)
  obtain ⟨y, hy⟩ : ∃ y, cntBelow (sg l p q) x = y := ⟨_, rfl⟩
  rw [hy] at C2
  have HY := Kp.mk hy
  clear hy
  go_wp2_with fail
  refine C2.out.mono ?_
  rintro e w2 ⟨rfl, hb⟩
  have HB2 := Kp.mk (below_step HB1.out hb)
  clear hb C2
  go_wp2
  go_ret2
  exact ⟨by rw [HY.out]; rfl, HB2.out⟩

set_option maxHeartbeats 1000000 in
theorem wKth_any (a : Option Addr) (cap K n p q kk : Nat) (l : List Nat) (w : World) (h : IsWave w a cap K l) (hl : l.length = n) (hn : n ≤ 300) (hK : 0 < K) (hK2 : K ≤ 21) (hpq : p ≤ q) (hq : q ≤ n) (hb : ∀ y ∈ l, y < 2 ^ K) (hkk : kk < q - p) :
    Calls Try.prog 43 #[.agg #[.slice a K cap], .int .i64 p, .int .i64 q, .int .i64 kk] w fun e w' => (∃ m : Nat, e = .returned (.tuple #[.int .i64 m, .int .i64 0]) ∧ m < 2097152 ∧ Kp (IsKth (sg l p q) kk m)) ∧ Below w.heap.size w w' := by
  have HA := Kp.mk (below_alloc (Nat.le_refl w.heap.size) (.cells #[.slice a K cap] 57))
  have HBX := Kp.mk (Box.new w #[.slice a K cap] 57)
  have C := Kp.mk (wfault_any a cap K n p q l _ (h.below HA.out) hl hn hK hK2 hpq hq)
  have H := Kp.mk (h.below HA.out)
  have HLn := Kp.mk hl
  have HB := Kp.mk hb
  have d0 : (w.alloc (.cells #[.slice a K cap] 57)).cell? ⟨w.heap.size, 0, none⟩ = some (.slice a K cap) := HBX.out.cell 0 rfl
  have t1 : decide ((kk : Int) < 0) = false := decide_eq_false (by omega)
  have t2 : decide ((q : Int) - p ≤ kk) = false := decide_eq_false (by omega)
  have t3 : ¬ ((q : Int) - p ≤ kk) := by omega
  clear h hl hb
  go_enter Try.func43, Try.ntmps43
  go_wp2_with fail
  refine C.out.mono ?_
  rintro e w1 ⟨rfl, hb⟩
  have HB1 := Kp.mk (below_step HA.out hb)
  have H1 := Kp.mk (H.out.below hb)
  have d1 : w1.cell? ⟨w.heap.size, 0, none⟩ = some (.slice a K cap) := (HBX.out.below hb).cell 0 rfl
  clear hb C d0 H HBX HA
  have C2 := Kp.mk (wkth_any a cap K n p q kk l w1 H1.out HLn.out hn hK hK2 hpq hq HB.out hkk)
  go_wp2_with fail
  refine C2.out.mono ?_
  rintro e w2 ⟨⟨m, rfl, hm, HM⟩, hb⟩
  have HB2 := Kp.mk (below_step HB1.out hb)
  clear hb C2
  go_wp2
  go_ret2
  exact ⟨⟨m, rfl, hm, HM⟩, HB2.out⟩

/-- What Next tells. -/
def NextRet (S : List Nat) (x : Nat) (e : Ending) : Prop :=
  (cntBelow S x = S.length ∧ e = .returned (.tuple #[.int .i64 0, .int .i64 7])) ∨ cntBelow S x < S.length ∧ ∃ m : Nat, e = .returned (.tuple #[.int .i64 m, .int .i64 0]) ∧ m < 2097152 ∧ Kp (IsKth S (cntBelow S x) m)

end Go.Proofs.Ytepcmpcnkmfpcaa
