import Derived.Test.YtedchegejalolaaGreatDoorMb19
/- Package wave: below, kth, Below, Kth, Next. -/
namespace Go.Proofs.YtedchegejalolaaGreatDoor
set_option linter.unusedVariables false
open Go.RowKit

theorem lessK_le (k x : Nat) (S : List Nat) : lessK k x S ≤ S.length := by unfold lessK; exact List.countP_le_length
theorem wless (K k x : Nat) (S : List Nat) (hk : k < K) : lessK (K - (k + 1)) x S = lessK (K - k) x S + (if bitB x (K - 1 - k) = true then ((same (K - k) x S).filter fun y => bitB y (K - 1 - k) == false).length else 0) := by
  have := lessK_step (K - 1 - k) x S
  rw [show K - 1 - k + 1 = K - k by omega] at this
  rw [← this, show K - 1 - k = K - (k + 1) by omega]
set_option maxHeartbeats 1000000 in
theorem wfault_any (a : Option Addr) (cap K n p q : Nat) (l : List Nat) (w : World) (h : IsWave w a cap K l) (hl : l.length = n) (hn : n ≤ 300) (hK : 0 < K) (hK2 : K ≤ 21) (hpq : p ≤ q) (hq : q ≤ n) :
    Calls Tryz.prog 131 #[.agg #[.slice a K cap], .int .i64 p, .int .i64 q] w fun e w' => e = .returned (.int .i64 0) ∧ Below w.heap.size w w' := by
  have HA := Kp.mk (below_alloc (Nat.le_refl w.heap.size) (.cells #[.slice a K cap] 138))
  have HBX := Kp.mk (Box.new w #[.slice a K cap] 138)
  have H := Kp.mk (h.below HA.out)
  have HLn := Kp.mk hl
  have C := Kp.mk (wmay_any a cap K n l _ H.out hl hn hK hK2)
  have d0 : (w.alloc (.cells #[.slice a K cap] 138)).cell? ⟨w.heap.size, 0, none⟩ = some (.slice a K cap) := HBX.out.cell 0 rfl
  have t1 : decide ((p : Int) < 0) = false := decide_eq_false (by omega)
  have t2 : decide ((q : Int) < p) = false := decide_eq_false (by omega)
  have t3 : decide (q < p) = false := decide_eq_false (by omega)
  have t4 : decide ((n : Int) < q) = false := decide_eq_false (by omega)
  have t5 : decide (n < q) = false := decide_eq_false (by omega)
  clear h hl
  go_enter Tryz.func131, Tryz.ntmps131
  go_wp2_with fail
  refine C.out.mono ?_
  rintro e w1 ⟨rfl, hb⟩
  have HB1 := Kp.mk (below_step HA.out hb)
  have H1 := Kp.mk (H.out.below hb)
  have d1 : w1.cell? ⟨w.heap.size, 0, none⟩ = some (.slice a K cap) := (HBX.out.below hb).cell 0 rfl
  clear hb C d0 H HBX HA
  go_wp2_with fail
  refine (wlen_any a cap K n l w1 H1.out HLn.out hK hK2).mono ?_
  rintro e w2 ⟨rfl, hb⟩
  have HB2 := Kp.mk (below_step HB1.out hb)
  clear hb d1
  go_wp2
  go_ret
  exact ⟨rfl, HB2.out⟩

set_option maxRecDepth 100000 in
set_option maxHeartbeats 2000000 in
theorem wbelow_any (a : Option Addr) (cap K n x p0 q0 : Nat) (l : List Nat) (w : World) (h : IsWave w a cap K l) (hl : l.length = n) (hn : n ≤ 300) (hK : 0 < K) (hK2 : K ≤ 21) (hpq0 : p0 ≤ q0) (hq0 : q0 ≤ n) (hb : ∀ y ∈ l, y < 2 ^ K) (hxm : x ≤ 1000000000) :
    Calls Tryz.prog 132 #[.agg #[.slice a K cap], .int .i64 p0, .int .i64 q0, .int .i64 x] w fun e w' => e = .returned (.int .i64 (cntBelow (sg l p0 q0) x : Nat)) ∧ Below w.heap.size w w' := by
  have HA := Kp.mk (below_alloc (Nat.le_refl w.heap.size) (.cells #[.slice a K cap] 138))
  have HBX := Kp.mk (Box.new w #[.slice a K cap] 138)
  have hSl := sg_length l p0 q0 (by omega)
  have hSb : ∀ y ∈ sg l p0 q0, y < 2 ^ K := fun y hy => hb y (by unfold sg at hy; exact List.mem_of_mem_take (List.mem_of_mem_drop hy))
  obtain ⟨S, hS⟩ : ∃ S, sg l p0 q0 = S := ⟨_, rfl⟩
  rw [hS] at hSl hSb ⊢
  have HS0 := Kp.mk hS
  have d0 : (w.alloc (.cells #[.slice a K cap] 138)).cell? ⟨w.heap.size, 0, none⟩ = some (.slice a K cap) := HBX.out.cell 0 rfl
  by_cases hx0 : x = 0
  · subst hx0
    rw [below_zero]
    clear h hl hb hSl hSb hS
    go_enter Tryz.func132, Tryz.ntmps132
    go_wp2
    go_ret
    exact ⟨rfl, HA.out⟩
  · have t0 : decide ((x : Int) ≤ 0) = false := decide_eq_false (by omega)
    have t0b : decide (x = 0) = false := decide_eq_false hx0
    have H := Kp.mk (h.below HA.out)
    have HLn := Kp.mk hl
    by_cases hx2 : x < 2 ^ K
    · have HD := Kp.mk (show decide (x < 2 ^ K) = true from decide_eq_true hx2)
      have HX := Kp.mk (show sg (lst K l 0) p0 q0 = same (K - 0) x S from by rw [lst_zero, Nat.sub_zero, same_all K x _ hSb hx2]; exact hS)
      have HC := Kp.mk (show lessK (K - 0) x S = 0 from by rw [Nat.sub_zero]; exact lessK_all K x S hx2)
      have HSL := Kp.mk hSl
      have hSn : S.length ≤ 300 := by omega
      have hxm2 : x < 2097152 := Nat.lt_of_lt_of_le hx2 (Nat.le_trans (Nat.pow_le_pow_right (by omega) hK2) (by decide))
      obtain ⟨bx, hbx⟩ : ∃ bx, bx = w.heap.size := ⟨_, rfl⟩
      have C := Kp.mk (wfits_any a cap K x (w.alloc (.cells #[.slice a K cap] 138)) hK2 hxm)
      clear h hl hb hx2 hSl hSb hS
      go_enter Tryz.func132, Tryz.ntmps132
      go_wp2_with fail
      refine C.out.mono ?_
      rintro e w3 ⟨rfl, hb⟩
      rw [HD.out]
      have HB3 := Kp.mk (below_step HA.out hb)
      have hb3 := Kp.mk (HBX.out.below hb)
      have H3 := Kp.mk (H.out.below hb)
      rw [← hbx] at hb3 ⊢
      have d3 : w3.cell? ⟨bx, 0, none⟩ = some (.slice a K cap) := hb3.out.cell 0 rfl
      clear hb d0 HBX H C
      clear hbx
      go_wp2
      go_loopw [1, 2, 9, 27] (fun av bv nv kv wr => ∃ (k p q c : Nat), k ≤ K ∧ kv = .int .i64 k ∧ av = .int .i64 p ∧ bv = .int .i64 q ∧ nv = .int .i64 c ∧ p ≤ q ∧ q ≤ n ∧ Kp (sg (lst K l k) p q = same (K - k) x S) ∧ Kp (lessK (K - k) x S = c) ∧ Kp (Below w3.heap.size w3 wr)) (fun _ _ _ k _ => K - (intOf k).toNat)
      case atStart => exact ⟨0, p0, q0, 0, Nat.zero_le _, rfl, rfl, rfl, rfl, hpq0, hq0, HX, HC, ⟨Below.refl _ _⟩⟩
      case round =>
      obtain ⟨k, p, q, c, hk, rfl, rfl, rfl, rfl, hpq, hq, HS, HL, HBL⟩ := hrel
      by_cases hlt : k < K
      rotate_left
      · obtain rfl : k = K := by omega
        have hs := HL.out
        rw [Nat.sub_self, lessK_none] at hs
        have HR := Kp.mk hs
        clear hs
        go_wp2
        go_ret
        exact ⟨by rw [HR.out]; rfl, below_step HB3.out HBL.out⟩
      obtain ⟨s1, s2, s3⟩ := wsg_step K n k p q (bitB x (K - 1 - k)) l _ HLn.out hlt hpq hq HS.out
      rw [wsame K k x _ hlt] at s3
      have hz := wzeros K n k p q l _ HLn.out hlt hpq hq HS.out
      obtain ⟨_, hqf, _⟩ := wsg_step K n k p q false l _ HLn.out hlt hpq hq HS.out
      have hls := wless K k x S hlt
      have hcl := lessK_le (K - k) x S
      have hcl2 := lessK_le (K - (k + 1)) x S
      rw [HL.out] at hls hcl
      generalize ((same (K - k) x S).filter fun y => bitB y (K - 1 - k) == false).length = z at *
      obtain ⟨b, off, sa, sc, rfl, hbw, c0, c1, hbi⟩ := (H3.out.below HBL.out).at HLn.out k hlt
      have hE := rowAt_length K l k
      rw [HLn.out] at hE
      generalize rowAt K l k = E at *
      have hr : (K : Int) - 1 - (k : Int) = ((K - 1 - k : Nat) : Int) := by omega
      obtain ⟨z0, zy, z1, z2⟩ := i64_bit x (K - 1 - k) (by omega)
      generalize bitB x (K - 1 - k) = t at *
      have hr2 : K - 1 - k ≤ 63 := by omega
      generalize K - 1 - k = r at *
      have HS3 := Kp.mk s3
      clear s3 z0
      have HE := Kp.mk hE
      have HBI := Kp.mk hbi
      clear hE hbi
      have hba := below_alloc (Nat.le_refl wr.heap.size) (.cells #[.int .i64 n, .slice sa (bwN n) sc] 177)
      have HB4 := Kp.mk (HBL.out.trans (hba.mono HBL.out.size))
      have HBI2 := Kp.mk (HBI.out.below hba)
      have hbox := Box.new wr #[.int .i64 n, .slice sa (bwN n) sc] 177
      have hbw3 := ((hb3.out.below HBL.out).below hba).cell 0 rfl
      have y0 : (wr.alloc (.cells #[.int .i64 n, .slice sa (bwN n) sc] 177)).cell? ⟨wr.heap.size, 0, none⟩ = some (.int .i64 n) := hbox.cell 0 rfl
      have y1 : (wr.alloc (.cells #[.int .i64 n, .slice sa (bwN n) sc] 177)).cell? ⟨wr.heap.size, 1, none⟩ = some (.slice sa (bwN n) sc) := hbox.cell 1 rfl
      have y2 : (wr.alloc (.cells #[.int .i64 n, .slice sa (bwN n) sc] 177)).cell? ⟨bx, 0, none⟩ = some (.slice (some ⟨b, off, none⟩) K cap) := hbw3
      clear hba hbox hbw3
      have hpn : p ≤ n := by omega
      have hPF : dwn E p false ≤ n := by omega
      have HZ := Kp.mk hz
      have hcz : t = true → c + z ≤ 300 := fun h => by rw [if_pos h] at hls; omega
      have hdz : (((dwn E q false : Nat) : Int) - (dwn E p false : Nat)) = (z : Int) := by omega
      have hzn : z ≤ n := by omega
      cases t with
      | true =>
        rw [if_pos rfl] at hls
        have HLS := Kp.mk hls
        have hcz := hcz rfl
        clear hls hcl hcl2 hz
        go_upto_region 11 with (fail)
        generalize wr.alloc (.cells #[.int .i64 n, .slice sa (bwN n) sc] 177) = w4 at *
        have e0 : IntKind.i64.wrap (((dwn E q false : Nat) : Int) - (dwn E p false : Nat)) = ((dwn E q false : Nat) : Int) - (dwn E p false : Nat) := IntWalk.i64_in _ (by omega)
        have e1 : IntKind.i64.wrap ((c : Int) + (z : Int)) = ((c + z : Nat) : Int) := IntWalk.i64_in _ (by omega)
        have e2 : IntKind.i64.wrap (z : Int) = (z : Int) := IntWalk.i64_in _ (by omega)
        have Y0 := Kp.mk y0
        have Y1 := Kp.mk y1
        have r0 := later_cell y0
        have r1 := later_cell y1
        have C := Kp.mk (fun (X : Later w4) (i : Nat) (o : Bool) (hi : i ≤ n) => down_any sa sc n i o E X.val (HBI2.out.below X.le) HE.out hn hi)
        clear y0 y1 y2 z1 z2 hr
        refine region_later (by kernel_rfl) (by kernel_rfl) ?_
        repeat (quiet_step ((go_at_call 162; exact q_later (C.out _ _ _ (by assumption)))))
        refine wpQuiet_nil ?_
        rintro w' ⟨xl, rfl⟩
        have y0 := r0 xl
        have y1 := r1 xl
        have HB5 := Kp.mk (HB4.out.trans (xl.le.mono HB4.out.size))
        have HBI3 := Kp.mk (HBI2.out.below xl.le)
        clear r0 r1 C e0 e1 e2 Y0 Y1 hdz
        go_upto_region 12 with (fail)
        obtain ⟨w5, hw5⟩ : ∃ w5, w5 = xl.val := ⟨_, rfl⟩
        rw [← hw5] at y0 y1 HB5 HBI3 ⊢
        clear hw5
        have r0 := later_cell y0
        have r1 := later_cell y1
        have C := Kp.mk (fun (X : Later w5) (i : Nat) (o : Bool) (hi : i ≤ n) => down_any sa sc n i o E X.val (HBI3.out.below X.le) HE.out hn hi)
        clear y0 y1 
        refine region_later (by kernel_rfl) (by kernel_rfl) ?_
        repeat (quiet_step ((go_at_call 162; exact q_later (C.out _ _ _ (by assumption)))))
        refine wpQuiet_nil ?_
        rintro w' ⟨xl, rfl⟩
        have HB6 := Kp.mk (HB5.out.trans (xl.le.mono HB5.out.size))
        clear r0 r1 C hPF hqf HZ
        generalize dwn E p true = p' at *
        generalize dwn E q true = q' at *
        go_wp2
        go_roundw
        case rel => exact ⟨k + 1, p', q', c + z, by omega, by go_num, rfl, rfl, rfl, s1, s2, HS3, HLS, HB6⟩
        case measure => simp [intOf]; omega

      | false =>
        rw [if_neg (by simp), Nat.add_zero] at hls
        have HLS := Kp.mk hls
        clear hls hcl hcl2 hz hdz hcz
        go_upto_region 12 with (fail)
        generalize wr.alloc (.cells #[.int .i64 n, .slice sa (bwN n) sc] 177) = w4 at *
        have r0 := later_cell y0
        have r1 := later_cell y1
        have C := Kp.mk (fun (X : Later w4) (i : Nat) (o : Bool) (hi : i ≤ n) => down_any sa sc n i o E X.val (HBI2.out.below X.le) HE.out hn hi)
        clear y0 y1 y2 z1 z2 hr
        refine region_later (by kernel_rfl) (by kernel_rfl) ?_
        repeat (quiet_step ((go_at_call 162; exact q_later (C.out _ _ _ (by assumption)))))
        refine wpQuiet_nil ?_
        rintro w' ⟨xl, rfl⟩
        have HB6 := Kp.mk (HB4.out.trans (xl.le.mono HB4.out.size))
        clear r0 r1 C hPF hqf HZ
        generalize dwn E p false = p' at *
        generalize dwn E q false = q' at *
        go_wp2
        go_roundw
        case rel => exact ⟨k + 1, p', q', c, by omega, by go_num, rfl, rfl, rfl, s1, s2, HS3, HLS, HB6⟩
        case measure => simp [intOf]; omega

    · have HD := Kp.mk (show decide (x < 2 ^ K) = false from decide_eq_false hx2)
      have hall := below_all K x S hSb (by omega)
      rw [hSl] at hall
      have HR := Kp.mk (show ((q0 : Int) - p0) = ((cntBelow S x : Nat) : Int) from by omega)
      have C := Kp.mk (wfits_any a cap K x (w.alloc (.cells #[.slice a K cap] 138)) hK2 hxm)
      clear h hl hb hx2 hSl hSb hS hall
      go_enter Tryz.func132, Tryz.ntmps132
      go_wp2_with fail
      refine C.out.mono ?_
      rintro e w3 ⟨rfl, hb⟩
      rw [HD.out]
      have HB3 := Kp.mk (below_step HA.out hb)
      clear hb
      go_wp2
      go_ret
      exact ⟨by rw [← HR.out]; rfl, HB3.out⟩

end Go.Proofs.YtedchegejalolaaGreatDoor

/- Package wave: kth, Below, Kth, Next. -/
namespace Go.Proofs.YtedchegejalolaaGreatDoor
set_option linter.unusedVariables false
open Go.RowKit

set_option maxHeartbeats 1000000 in
theorem wBelow_any (a : Option Addr) (cap K n x p q : Nat) (l : List Nat) (w : World) (h : IsWave w a cap K l) (hl : l.length = n) (hn : n ≤ 300) (hK : 0 < K) (hK2 : K ≤ 21) (hpq : p ≤ q) (hq : q ≤ n) (hb : ∀ y ∈ l, y < 2 ^ K) (hxm : x ≤ 1000000000) :
    Calls Tryz.prog 104 #[.agg #[.slice a K cap], .int .i64 p, .int .i64 q, .int .i64 x] w fun e w' => e = .returned (.tuple #[.int .i64 (cntBelow (sg l p q) x : Nat), .int .i64 0]) ∧ Below w.heap.size w w' := by
  have HA := Kp.mk (below_alloc (Nat.le_refl w.heap.size) (.cells #[.slice a K cap] 138))
  have HBX := Kp.mk (Box.new w #[.slice a K cap] 138)
  have C := Kp.mk (wfault_any a cap K n p q l _ (h.below HA.out) hl hn hK hK2 hpq hq)
  have H := Kp.mk (h.below HA.out)
  have HLn := Kp.mk hl
  have HB := Kp.mk hb
  have d0 : (w.alloc (.cells #[.slice a K cap] 138)).cell? ⟨w.heap.size, 0, none⟩ = some (.slice a K cap) := HBX.out.cell 0 rfl
  clear h hl hb
  go_enter Tryz.func104, Tryz.ntmps104
  go_wp2_with fail
  refine C.out.mono ?_
  rintro e w1 ⟨rfl, hb⟩
  have HB1 := Kp.mk (below_step HA.out hb)
  have H1 := Kp.mk (H.out.below hb)
  have d1 : w1.cell? ⟨w.heap.size, 0, none⟩ = some (.slice a K cap) := (HBX.out.below hb).cell 0 rfl
  clear hb C d0 H HBX HA
  have C2 := Kp.mk (wbelow_any a cap K n x p q l w1 H1.out HLn.out hn hK hK2 hpq hq HB.out hxm)
  obtain ⟨y, hy⟩ : ∃ y, cntBelow (sg l p q) x = y := ⟨_, rfl⟩
  rw [hy] at C2
  have HY := Kp.mk hy
  clear hy
  go_wp2_with fail
  refine C2.out.mono ?_
  rintro e w2 ⟨rfl, hb⟩
  have HB2 := Kp.mk (below_step HB1.out hb)
  clear hb C2
  go_wp2
  go_ret2
  exact ⟨by rw [HY.out]; rfl, HB2.out⟩

end Go.Proofs.YtedchegejalolaaGreatDoor

/- Package wave: Make. -/
namespace Go.Proofs.YtedchegejalolaaGreatDoor
set_option linter.unusedVariables false
open Go.RowKit

/-- Naturals as cells. -/
def nts (l : List Nat) : List Value := l.map fun (n : Nat) => .int .i64 (n : Int)
theorem nts_length (l : List Nat) : (nts l).length = l.length := by simp [nts]
theorem nts_append (l m : List Nat) : nts (l ++ m) = nts l ++ nts m := by simp [nts]
theorem nts_get (l : List Nat) (i : Nat) (h : i < (nts l).length) : (nts l)[i] = .int .i64 ((l[i]'(by simpa [nts] using h) : Nat) : Int) := by simp [nts]
theorem nts_one (l : List Nat) : ∀ u ∈ nts l, u.oneCell' = true := by simp [nts, Value.oneCell']
theorem nts_ints (l : List Nat) : nts l = ints (l.map Int.ofNat) := by simp [nts, ints]
theorem slN_at {w : World} {a : Option Addr} {n cap : Nat} {l : List Nat} (h : SlC w a n cap 1 (nts l)) (i : Nat) (hi : i < l.length) : ∃ b off, a = some ⟨b, off, none⟩ ∧ w.cell? ⟨b, off + i, none⟩ = some (.int .i64 ((l[i] : Nat) : Int)) := by
  obtain ⟨b, off, ha, hc⟩ := SlC.cell h i (by rw [nts_length]; exact hi)
  exact ⟨b, off, ha, by rw [hc, nts_get]⟩
theorem info_bitsT : (Tryz.prog.info? 177).map (fun i => (i.zero, i.size, i.bytes)) = some (some (.agg #[.int .i64 0, .slice none 0 0]), 2, 32) := by kernel_rfl
theorem tBitsT : ElemTy Tryz.prog 136 177 2 32 (.agg #[.int .i64 0, .slice none 0 0]) :=
  ⟨Tryz.underlying136, by obtain ⟨i0, hi, h0, h1, h2⟩ := info_parts info_bitsT; exact ⟨i0, hi, h0, h1, h2⟩, rfl, by decide⟩
theorem own_two {w : World} {B e size n m c B' e' size' n' m' c' : Nat} {a a' : Option Addr} {xs xs' : List Value} (h : w.ownsRow B e size (.slice a m c) n xs) (h' : w.ownsRow B' e' size' (.slice a' m' c') n' xs') (hne : e ≠ e') : ∀ k, blk a = some k → blk a' ≠ some k := by
  intro k hk hk'
  rcases h.2 with ⟨hv, _⟩ | ⟨g, cap, cur, hv, _, hgb, _⟩
  · simp only [Value.slice.injEq] at hv
    rw [hv.1] at hk; cases hk
  · rcases h'.2 with ⟨hv', _⟩ | ⟨g', cap', cur', hv', _, hgb', _⟩
    · simp only [Value.slice.injEq] at hv'
      rw [hv'.1] at hk'; cases hk'
    · simp only [Value.slice.injEq] at hv hv'
      rw [hv.1] at hk
      rw [hv'.1] at hk'
      simp only [blk, Option.map_some, Option.some.injEq] at hk hk'
      subst hk
      rw [hk', hgb] at hgb'
      simp only [Option.some.injEq, Obj.cells.injEq] at hgb'
      exact hne hgb'.2.1
theorem box_own {W : World} {B bp e size n c m : Nat} {t : TypeId} {a : Option Addr} {cs : Array Value} {xs : List Value} (h : W.ownsRow B e size (.slice a m c) n xs) (hb : Box W bp cs t) (hne : t ≠ e) : blk a ≠ some bp := fun e' => by
  rcases h.2 with ⟨hv, _⟩ | ⟨g, cap, cur, hv, _, hgb, _⟩
  · simp only [Value.slice.injEq] at hv
    rw [hv.1] at e'; cases e'
  · simp only [Value.slice.injEq] at hv
    rw [hv.1] at e'
    simp only [blk, Option.map_some, Option.some.injEq] at e'
    subst e'
    have hb' : W.heap[g]? = some (.cells cs t (0, 0)) := hb
    rw [hgb] at hb'
    simp only [Option.some.injEq, Obj.cells.injEq] at hb'
    exact hne hb'.2.1.symm
theorem box_grown {w w' : World} {b : Nat} {cs : Array Value} {t : TypeId} {r : Option Nat} (h : Box w b cs t) (hg : w.grownBy w' r) (hne : r ≠ some b) : Box w' b cs t := (hg.block b h.lt (fun e => hne e.symm)).trans h
theorem box_setC {w : World} {b c o : Nat} {cs : Array Value} {t : TypeId} {v : Value} (h : Box w b cs t) (hne : c ≠ b) : Box (w.setCell ⟨c, o, none⟩ v) b cs t := (heap_setCell_other w ⟨c, o, none⟩ b v (fun e => hne e.symm)).trans h
theorem wbox_put {w : World} {b i : Nat} {cs : Array Value} {t : TypeId} (h : Box w b cs t) (v : Value) : Box (w.setCell ⟨b, i, none⟩ v) b (cs.setIfInBounds i v) t := by
  obtain ⟨hlt, hk⟩ := Array.getElem?_eq_some_iff.1 h
  show (w.heap.modify b _)[b]? = _
  rw [Array.getElem?_eq_getElem (by rw [Array.size_modify]; exact hlt), Array.getElem_modify_self, hk]
  rfl
/-- A row of n bools: what is told of the first i. -/
def wbrowK (k n i : Nat) (l : List Nat) : List Bool := rowL k (l.take i) ++ List.replicate (n - i) false
theorem wbrowK_zero (k n : Nat) (l : List Nat) : wbrowK k n 0 l = List.replicate n false := by simp [wbrowK, rowL]
theorem wbrowK_all (k n : Nat) (l : List Nat) (h : l.length = n) : wbrowK k n n l = rowL k l := by simp [wbrowK, ← h]
theorem wbrowK_set (k n i : Nat) (l : List Nat) (hl : l.length = n) (h : i < l.length) : (wbrowK k n i l).set i (bitB l[i] k) = wbrowK k n (i + 1) l := by
  have h1 : (rowL k (l.take i)).length = i := by rw [rowL_length, List.length_take]; omega
  unfold wbrowK
  rw [List.set_append_right (h := by omega), h1, Nat.sub_self, show n - i = (n - (i + 1)) + 1 by omega, List.replicate_succ, List.set_cons_zero, List.take_succ_eq_append_getElem h]
  unfold rowL
  rw [List.map_append, List.append_assoc]; rfl
theorem wbrowK_length (k n i : Nat) (l : List Nat) (hl : l.length = n) (h : i ≤ n) : (wbrowK k n i l).length = n := by
  unfold wbrowK
  rw [List.length_append, rowL_length, List.length_take, List.length_replicate]; omega
def halfK (k i : Nat) (o : Bool) (l : List Nat) : List Nat := (l.take i).filter fun x => bitB x k == o
theorem halfK_succ (k i : Nat) (o : Bool) (l : List Nat) (h : i < l.length) : halfK k (i + 1) o l = if bitB l[i] k = o then halfK k i o l ++ [l[i]] else halfK k i o l := by
  unfold halfK
  rw [List.take_succ_eq_append_getElem h, List.filter_append]
  by_cases hb : bitB l[i] k = o
  · rw [if_pos hb]; simp [List.filter_cons, hb]
  · rw [if_neg hb]; simp [List.filter_cons, hb]
theorem halfK_le (k i : Nat) (o : Bool) (l : List Nat) : (halfK k i o l).length ≤ i := Nat.le_trans (List.length_filter_le _ _) (List.length_take_le _ _)
theorem halfK_step (k n : Nat) (l : List Nat) (h : l.length = n) : halfK k n false l ++ halfK k n true l = stepL k l := by
  unfold halfK stepL
  rw [← h, List.take_length]
theorem bit_val (x k : Nat) (hx : x < 9223372036854775808) : bits BinOp.and IntKind.i64 ((x : Int) / 2 ^ k) 1 = if bitB x k = true then 1 else 0 := by
  have e : (x : Int) / 2 ^ k = ((x / 2 ^ k : Nat) : Int) := by push_cast; rfl
  have hd : x / 2 ^ k ≤ x := Nat.div_le_self _ _
  have := i64_and_nat (x / 2 ^ k) 1 (by omega) (by decide)
  have hb : bitB x k = (x / 2 ^ k % 2 == 1) := by unfold bitB; rfl
  rw [e, show (1 : Int) = ((1 : Nat) : Int) from rfl, this, Nat.and_one_is_mod, hb]
  have : x / 2 ^ k % 2 = 0 ∨ x / 2 ^ k % 2 = 1 := by omega
  rcases this with h | h <;> rw [h] <;> simp
theorem halfK_zero (k : Nat) (o : Bool) (l : List Nat) : halfK k 0 o l = [] := rfl
attribute [irreducible] wbrowK halfK

/-- Behind i numbers of a level (of the row: ir). -/
structure HalfMem (Br Bt bh : Nat) (ra : Option Addr) (n ir i k : Nat) (wr0 wr : World) (a0 a1 : Option Addr) (c0 c1 rc : Nat) (l : List Nat) : Prop where
  bel : Below Br wr0 wr
  ge : Bt ≤ wr.heap.size
  row : wr.ownsRow Br 4 1 (.slice ra n rc) n (bls (wbrowK k n ir l))
  box : Box wr bh #[.slice a0 (halfK k i false l).length c0, .slice a1 (halfK k i true l).length c1] 174
  h0 : wr.ownsRow Bt 3 1 (.slice a0 (halfK k i false l).length c0) (halfK k i false l).length (nts (halfK k i false l))
  h1 : wr.ownsRow Bt 3 1 (.slice a1 (halfK k i true l).length c1) (halfK k i true l).length (nts (halfK k i true l))
  apart : ∀ k, blk a0 = some k → blk a1 ≠ some k
/-- What stays: the blocks of a level's row and of its halves. -/
structure HalfBlk (Br Bt bh : Nat) (ra : Option Addr) (wr0 : World) : Prop where
  r : ∀ q, blk ra = some q → Br ≤ q ∧ q < Bt ∧ q ≠ bh
  b0 : Br ≤ bh
  b1 : bh < Bt
  w0 : Br ≤ wr0.heap.size
theorem HalfMem.set {Br Bt bh rb : Nat} {ra : Option Addr} {n i k : Nat} {wr0 wr : World} {a0 a1 : Option Addr} {c0 c1 rc : Nat} {l : List Nat} (H : HalfMem Br Bt bh ra n i i k wr0 wr a0 a1 c0 c1 rc l) (B : HalfBlk Br Bt bh ra wr0) (hl : l.length = n) (hi : i < l.length) (hra : ra = some ⟨rb, 0, none⟩) :
    HalfMem Br Bt bh ra n (i + 1) i k wr0 (wr.setCell ⟨rb, i, none⟩ (.bool (bitB l[i] k))) a0 a1 c0 c1 rc l := by
  have hrb := B.r rb (by rw [hra]; rfl)
  have hg := grown_set wr rb i (.bool (bitB l[i] k))
  have hBw := H.bel.size
  refine ⟨H.bel.trans (below_of_grown hg (by have := B.w0; omega) (fun q hq => by simp at hq; omega)), by rw [size_setCell]; exact H.ge, ?_, box_setC H.box hrb.2.2, ?_, ?_, H.apart⟩
  · have h2 := H.row
    rw [hra] at h2 ⊢
    have := (h2.stored i (.bool (bitB l[i] k))).1
    rw [bls_set, wbrowK_set k n i l hl hi] at this
    exact this
  · exact own_keep H.h0 hg (fun q hq hm => by simp at hq; have := (own_lt H.h0 q hm).1; omega)
  · exact own_keep H.h1 hg (fun q hq hm => by simp at hq; have := (own_lt H.h1 q hm).1; omega)
theorem HalfMem.push0 {Br Bt bh : Nat} {ra : Option Addr} {n i k : Nat} {wr0 wr w' : World} {a0 a1 sa : Option Addr} {c0 c1 rc sc : Nat} {l : List Nat} (H : HalfMem Br Bt bh ra n (i + 1) i k wr0 wr a0 a1 c0 c1 rc l) (B : HalfBlk Br Bt bh ra wr0) (hi : i < l.length) (hx : bitB l[i] k = false)
    (ho : w'.ownsRow Bt 3 1 (.slice sa ((halfK k i false l).length + 1) sc) ((halfK k i false l).length + 1) (nts (halfK k i false l) ++ [.int .i64 ((l[i] : Nat) : Int)])) (hg : wr.grownBy w' (blk a0)) (hno : NewOr wr a0 sa) :
    HalfMem Br Bt bh ra n (i + 1) (i + 1) k wr0 (w'.setCell ⟨bh, 0, none⟩ (.slice sa ((halfK k i false l).length + 1) sc)) sa a1 sc c1 rc l := by
  have e0 : halfK k (i + 1) false l = halfK k i false l ++ [l[i]] := by rw [halfK_succ k i false l hi, if_pos hx]
  have e1 : halfK k (i + 1) true l = halfK k i true l := by rw [halfK_succ k i true l hi, if_neg (by rw [hx]; simp)]
  have el : (halfK k (i + 1) false l).length = (halfK k i false l).length + 1 := by rw [e0]; simp
  have hBt : Br ≤ Bt := by have := B.b0; have := B.b1; omega
  have hgs := grown_set w' bh 0 (.slice sa ((halfK k i false l).length + 1) sc)
  have hw := H.ge
  have hgw := hg.size
  have hr := own_keep H.row hg (fun q hq hm => by have := (own_lt H.h0 q hq).1; have := B.r q hm; omega)
  have h1 := own_keep H.h1 hg (fun q hq => H.apart q hq)
  have hb := box_grown H.box hg (fun e => by have := (own_lt H.h0 bh e).1; have := B.b1; omega)
  have n1 : ∀ q, some bh = some q → blk sa ≠ some q := fun q hq hm => by have := (own_lt ho q hm).1; have := B.b1; simp at hq; omega
  refine ⟨?_, by rw [size_setCell]; omega, ?_, ?_, ?_, ?_, ?_⟩
  · exact (H.bel.trans (below_of_grown hg (by have := H.bel.size; have := B.w0; omega) (fun q hq => by have := (own_lt H.h0 q hq).1; omega))).trans (below_of_grown hgs (by omega) (fun q hq => by simp at hq; have := B.b0; omega))
  · exact own_keep hr hgs (fun q hq hm => by simp at hq; have := B.r q hm; omega)
  · have := wbox_put hb (i := 0) (.slice sa ((halfK k i false l).length + 1) sc)
    rw [e1, el]
    exact this
  · rw [el, e0, nts_append]
    exact own_keep ho hgs n1
  · rw [e1]
    exact own_keep h1 hgs (fun q hq hm => by have := (own_lt H.h1 q hm).1; have := B.b1; simp at hq; omega)
  · intro q hq hm
    rcases hno with h | ⟨g, h2, h3⟩
    · exact H.apart q (by rw [← h]; exact hq) hm
    · rw [h2] at hq
      have := (own_lt H.h1 q hm).2
      simp at hq; omega
theorem HalfMem.push1 {Br Bt bh : Nat} {ra : Option Addr} {n i k : Nat} {wr0 wr w' : World} {a0 a1 sa : Option Addr} {c0 c1 rc sc : Nat} {l : List Nat} (H : HalfMem Br Bt bh ra n (i + 1) i k wr0 wr a0 a1 c0 c1 rc l) (B : HalfBlk Br Bt bh ra wr0) (hi : i < l.length) (hx : bitB l[i] k = true)
    (ho : w'.ownsRow Bt 3 1 (.slice sa ((halfK k i true l).length + 1) sc) ((halfK k i true l).length + 1) (nts (halfK k i true l) ++ [.int .i64 ((l[i] : Nat) : Int)])) (hg : wr.grownBy w' (blk a1)) (hno : NewOr wr a1 sa) :
    HalfMem Br Bt bh ra n (i + 1) (i + 1) k wr0 (w'.setCell ⟨bh, 1, none⟩ (.slice sa ((halfK k i true l).length + 1) sc)) a0 sa c0 sc rc l := by
  have e0 : halfK k (i + 1) true l = halfK k i true l ++ [l[i]] := by rw [halfK_succ k i true l hi, if_pos hx]
  have e1 : halfK k (i + 1) false l = halfK k i false l := by rw [halfK_succ k i false l hi, if_neg (by rw [hx]; simp)]
  have el : (halfK k (i + 1) true l).length = (halfK k i true l).length + 1 := by rw [e0]; simp
  have hBt : Br ≤ Bt := by have := B.b0; have := B.b1; omega
  have hgs := grown_set w' bh 1 (.slice sa ((halfK k i true l).length + 1) sc)
  have hw := H.ge
  have hgw := hg.size
  have hr := own_keep H.row hg (fun q hq hm => by have := (own_lt H.h1 q hq).1; have := B.r q hm; omega)
  have h0 := own_keep H.h0 hg (fun q hq hm => H.apart q hm hq)
  have hb := box_grown H.box hg (fun e => by have := (own_lt H.h1 bh e).1; have := B.b1; omega)
  have n1 : ∀ q, some bh = some q → blk sa ≠ some q := fun q hq hm => by have := (own_lt ho q hm).1; have := B.b1; simp at hq; omega
  refine ⟨?_, by rw [size_setCell]; omega, ?_, ?_, ?_, ?_, ?_⟩
  · exact (H.bel.trans (below_of_grown hg (by have := H.bel.size; have := B.w0; omega) (fun q hq => by have := (own_lt H.h1 q hq).1; omega))).trans (below_of_grown hgs (by omega) (fun q hq => by simp at hq; have := B.b0; omega))
  · exact own_keep hr hgs (fun q hq hm => by simp at hq; have := B.r q hm; omega)
  · have := wbox_put hb (i := 1) (.slice sa ((halfK k i true l).length + 1) sc)
    rw [e1, el]
    exact this
  · rw [e1]
    exact own_keep h0 hgs (fun q hq hm => by have := (own_lt H.h0 q hm).1; have := B.b1; simp at hq; omega)
  · rw [el, e0, nts_append]
    exact own_keep ho hgs n1
  · intro q hq hm
    rcases hno with h | ⟨g, h2, h3⟩
    · exact H.apart q hq (by rw [← h]; exact hm)
    · rw [h2] at hm
      have := (own_lt H.h0 q hq).2
      simp at hm; omega

end Go.Proofs.YtedchegejalolaaGreatDoor

/- Package wave: the walk of Make. -/
namespace Go.Proofs.YtedchegejalolaaGreatDoor
set_option linter.unusedVariables false
open Go.RowKit

/-- Behind j levels. -/
structure MakeMem (b4 bw j K : Nat) (w wr : World) (la : Option Addr) (lc : Nat) (L : List (Option Addr × Nat × List Bool)) (l : List Nat) : Prop where
  bel : Below w.heap.size w wr
  bw : Box wr bw #[.slice la j lc] 138
  b4 : Box wr b4 #[.slice none 0 0] 138
  lv : wr.ownsRow w.heap.size 177 2 (.slice la j lc) j (flat lvC L)
  rows : L.map (fun x => x.2.2) = (List.range j).map (rowAt K l)
  bits : ∀ x ∈ L, BitsIn wr x.1 x.2.1 x.2.2
theorem MakeMem.below {b4 bw j K : Nat} {w wr w' : World} {la : Option Addr} {lc : Nat} {L : List (Option Addr × Nat × List Bool)} {l : List Nat} (H : MakeMem b4 bw j K w wr la lc L l) (hb : Below wr.heap.size wr w') : MakeMem b4 bw j K w w' la lc L l :=
  ⟨H.bel.trans (hb.mono H.bel.size), H.bw.below hb, H.b4.below hb, own_below H.lv hb, H.rows, fun x hx => (H.bits x hx).below hb⟩
theorem MakeMem.push {b4 bw j K n sc : Nat} {w wr w' : World} {la la' sa : Option Addr} {lc lc' : Nat} {L : List (Option Addr × Nat × List Bool)} {l : List Nat} (H : MakeMem b4 bw j K w wr la lc L l) (hl : l.length = n) (h4 : b4 ≠ bw) (hbw : w.heap.size ≤ bw)
    (hbi : BitsIn wr sa sc (rowAt K l j)) (ho : w'.ownsRow w.heap.size 177 2 (.slice la' (j + 1) lc') (j + 1) (flat lvC L ++ [.int .i64 n, .slice sa (bwN n) sc])) (hg : wr.grownBy w' (blk la)) :
    MakeMem b4 bw (j + 1) K w (w'.setCell ⟨bw, 0, none⟩ (.slice la' (j + 1) lc')) la' lc' (L ++ [(sa, sc, rowAt K l j)]) l := by
  have hgs := grown_set w' bw 0 (.slice la' (j + 1) lc')
  have hb1 := box_grown H.bw hg (box_own H.lv H.bw (by decide))
  have hn : (rowAt K l j).length = n := by rw [rowAt_length, hl]
  have hbits : ∀ x ∈ L ++ [(sa, sc, rowAt K l j)], BitsIn wr x.1 x.2.1 x.2.2 := fun x hx => by
    rcases List.mem_append.1 hx with hx | hx
    · exact H.bits x hx
    · rw [List.mem_singleton.1 hx]; exact hbi
  refine ⟨(H.bel.trans (below_of_grown hg H.bel.size (fun q hq => (own_lt H.lv q hq).1))).trans (below_of_grown hgs (Nat.le_trans H.bel.size hg.size) (fun q hq => by simp at hq; omega)), wbox_put hb1 _, box_setC (box_grown H.b4 hg (box_own H.lv H.b4 (by decide))) (fun e => h4 e.symm), ?_, ?_, ?_⟩
  · have e : flat lvC (L ++ [(sa, sc, rowAt K l j)]) = flat lvC L ++ [.int .i64 n, .slice sa (bwN n) sc] := by
      rw [flat_append]; simp [flat, lvC, hn]
    rw [e]
    exact own_keep ho hgs (fun q hq hm => by simp at hq; subst hq; exact box_own ho hb1 (by decide) hm)
  · rw [List.map_append, H.rows, List.range_succ, List.map_append]; rfl
  · intro x hx
    have h1 : BitsIn w' x.1 x.2.1 x.2.2 := own_keep (hbits x hx) hg (fun q hq => own_two H.lv (hbits x hx) (by decide) q hq)
    exact own_keep h1 hgs (fun q hq hm => by simp at hq; subst hq; exact box_own h1 hb1 (by decide) hm)

theorem MakeMem.grown {b4 bw j K n c : Nat} {w wr w' : World} {la a : Option Addr} {lc B : Nat} {L : List (Option Addr × Nat × List Bool)} {l : List Nat} {xs : List Value} (H : MakeMem b4 bw j K w wr la lc L l) (hr : wr.ownsRow B 3 1 (.slice a n c) n xs) (hg : wr.grownBy w' (blk a)) (hB : w.heap.size ≤ B) : MakeMem b4 bw j K w w' la lc L l :=
  ⟨H.bel.trans (below_of_grown hg H.bel.size (fun q hq => by have := (own_lt hr q hq).1; omega)), box_grown H.bw hg (box_own hr H.bw (by decide)), box_grown H.b4 hg (box_own hr H.b4 (by decide)), own_keep H.lv hg (fun q hq => own_two hr H.lv (by decide) q hq), H.rows, fun x hx => own_keep (H.bits x hx) hg (fun q hq => own_two hr (H.bits x hx) (by decide) q hq)⟩

/-- What Make hands back. -/
def WaveRet (w : World) (K : Nat) (l : List Nat) (e : Ending) (w' : World) : Prop := ∃ sa cap, e = .returned (.tuple #[.agg #[.slice sa K cap], .int .i64 0]) ∧ Kp (IsWave w' sa cap K l) ∧ Below w.heap.size w w'

set_option maxRecDepth 100000 in
set_option maxHeartbeats 4000000 in
theorem wmake_any (a : Option Addr) (cap K n : Nat) (l : List Nat) (w : World) (h : SlC w a n cap 1 (nts l)) (hn : n ≤ 300) (hK : 0 < K) (hK2 : K ≤ 21) (hb : ∀ y ∈ l, y < 2 ^ K) :
    Calls Tryz.prog 99 #[.int .i64 K, .slice a n cap] w (WaveRet w K l) := by
  have H := Kp.mk h
  have HNL0 := Kp.mk (show l.length = n from by have := h.hlen; rw [nts_length] at this; omega)
  have HB := Kp.mk hb
  have HBm := Kp.mk (show ∀ y ∈ l, y < 2097152 from fun y hy => Nat.lt_of_lt_of_le (hb y hy) (Nat.le_trans (Nat.pow_le_pow_right (by omega) hK2) (by decide)))
  have HA := Kp.mk (below_alloc (Nat.le_refl w.heap.size) (.cells #[.slice none 0 0] 138))
  have HB4 := Kp.mk (Box.new w #[.slice none 0 0] 138)
  obtain ⟨b4, hb4⟩ : ∃ b4, b4 = w.heap.size := ⟨_, rfl⟩
  have HE4 := Kp.mk hb4
  have t0 : decide ((300 : Int) < n) = false := decide_eq_false (by omega)
  have t0b : decide (300 < n) = false := decide_eq_false (by omega)
  have t1 : decide ((K : Int) < 0) = false := decide_eq_false (by omega)
  have t2 : decide ((21 : Int) < K) = false := decide_eq_false (by omega)
  have t3 : decide (21 < K) = false := decide_eq_false (by omega)
  clear h hb
  go_enter Tryz.func99, Tryz.ntmps99
  go_upto_region 1 with (fail)
  have HA1 := Kp.mk (alloc_size w (.cells #[.slice none 0 0] 138))
  rw [← hb4] at HB4 ⊢
  generalize w.alloc (.cells #[.slice none 0 0] 138) = w1 at *
  clear hb4
  go_wp2
  go_loop [31] (fun i => ∃ k : Nat, k ≤ n ∧ i = .int .i64 k) (fun i => n - (intOf i).toNat)
  case atStart => exact ⟨0, Nat.zero_le _, rfl⟩
  case round =>
    obtain ⟨k, hk, rfl⟩ := hrel
    by_cases hlt : k < n
    · have hkl : k < l.length := by rw [HNL0.out]; exact hlt
      obtain ⟨b, off, rfl, cx⟩ := slN_at (H.out.below HA.out) k hkl
      have hxm := HBm.out _ (List.getElem_mem hkl)
      have hz : l[k] / 2 ^ K = 0 := Nat.div_eq_of_lt (HB.out _ (List.getElem_mem hkl))
      have e1 : ((l[k] : Nat) : Int) / 2 ^ K = 0 := by
        have : ((l[k] : Nat) : Int) / 2 ^ K = ((l[k] / 2 ^ K : Nat) : Int) := by push_cast; rfl
        rw [this, hz]; rfl
      generalize l[k] = x at *
      have t4 : decide ((x : Int) < 0) = false := decide_eq_false (by omega)
      clear hz
      go_wp2
      go_round
      case rel => exact ⟨k + 1, by omega, by go_num⟩
      case measure => simp [intOf]; omega
    · obtain rfl : k = n := by omega
      clear hlt
      go_upto_region 12 with (fail)
      have hw1 : w.heap.size < w1.heap.size := by rw [HA1.out]; omega
      have HBW := Kp.mk (Box.new w1 #[.slice none 0 0] 138)
      have hal := below_alloc (Nat.le_refl w1.heap.size) (.cells #[.slice none 0 0] 138)
      have HB42 := Kp.mk (HB4.out.below hal)
      have HA2 := Kp.mk (below_step HA.out hal)
      have H2 := Kp.mk (H.out.below HA2.out)
      have hs2 := alloc_size w1 (.cells #[.slice none 0 0] 138)
      obtain ⟨bw, hbw⟩ : ∃ bw, bw = w1.heap.size := ⟨_, rfl⟩
      rw [← hbw] at HBW ⊢
      have h4w : b4 ≠ bw := by have := HE4.out; omega
      have hwb : w.heap.size ≤ bw := by omega
      clear hal HB4
      generalize w1.alloc (.cells #[.slice none 0 0] 138) = w2 at *
      have hs2' : w.heap.size ≤ w2.heap.size := HA2.out.size
      clear hbw hs2
      go_wp2_with (at_builtin; refine wpList_catS tInts rfl _ _ rfl w.heap.size none 0 0 [] rfl (World.ownsRow_nil _ _ _ _) _ _ _ _ rfl H2.out (nts_one l) ?c1 (by decide) hs2' ?c2)
      case c1 => omega
      case c2 =>
      intro na nc w3 hown hg hno
      have hb3 : Below w2.heap.size w2 w3 := below_of_grown hg (Nat.le_refl _) (fun q hq => by cases hq)
      have HNOW := Kp.mk (show w3.ownsRow w.heap.size 3 1 (.slice na k nc) k (nts (lst K l 0)) from by rw [lst_zero]; exact hown)
      have HMM := Kp.mk (show MakeMem b4 bw 0 K w w3 none 0 [] l from ⟨HA2.out.trans (hb3.mono HA2.out.size), HBW.out.below hb3, HB42.out.below hb3, World.ownsRow_nil _ _ _ _, rfl, fun x hx => by cases hx⟩)
      clear hown hg hno hb3 HBW HB42 HA2 H2 HA H hs2'
      go_wp2
      go_loopw [9, 10] (fun nv kv wr => ∃ (j : Nat) (z : Int) (na : Option Addr) (nc : Nat) (la : Option Addr) (lc : Nat) (L : List (Option Addr × Nat × List Bool)), j ≤ K ∧ z + 1 + j = K ∧ kv = .int .i64 z ∧ nv = .slice na k nc ∧ Kp (wr.ownsRow w.heap.size 3 1 (.slice na k nc) k (nts (lst K l j))) ∧ Kp (MakeMem b4 bw j K w wr la lc L l)) (fun _ kv _ => (intOf kv + 1).toNat)
      case atStart => exact ⟨0, (K : Int) - 1, na, nc, none, 0, [], Nat.zero_le _, by omega, rfl, rfl, HNOW, HMM⟩
      case round =>
      clear HNOW HMM
      obtain ⟨j, z, na, nc, la, lc, L, hj, hz, rfl, rfl, HNOW, HMM⟩ := hrel
      obtain ⟨wo, rfl⟩ : ∃ wo : World, wo = wr := ⟨_, rfl⟩
      by_cases hlt : j < K
      rotate_left
      · obtain rfl : j = K := by omega
        have hz0 : z < 0 := by omega
        have b0 := HMM.out.bw.cell 0 rfl
        have f0 := HMM.out.b4.free 0
        have c0 := HMM.out.b4.cell 0 rfl
        go_wp2
        refine bodyPost_ret (v := .tuple #[.agg #[.slice la j lc], .int .i64 0]) (by
          clear HNL0 HB HBm HE4 HNOW HMM
          rw [results_cell_tmp rfl]
          go_simp) rfl ?_
        have hg := grown_set wo b4 0 (.slice la j lc)
        have hbw1 : w.heap.size ≤ b4 := by rw [HE4.out]; exact Nat.le_refl _
        refine ⟨la, lc, rfl, ⟨?_⟩, HMM.out.bel.trans (below_of_grown hg HMM.out.bel.size (fun q hq => by simp at hq; omega))⟩
        unfold IsWave
        exact ⟨L, by rw [HMM.out.rows]; rfl, own_base (own_keep HMM.out.lv hg (fun q hq hm => by simp at hq; subst hq; exact box_own HMM.out.lv HMM.out.b4 (by decide) hm)) (Nat.zero_le _), fun x hx => own_keep (HMM.out.bits x hx) hg (fun q hq hm => by simp at hq; subst hq; exact box_own (HMM.out.bits x hx) HMM.out.b4 (by decide) hm)⟩
      obtain ⟨r, rfl⟩ : ∃ r : Nat, z = r := ⟨z.toNat, by omega⟩
      have hrK : K - 1 - j = r := by omega
      have HRK := Kp.mk hrK
      have hr21 : r ≤ 21 := by omega
      have hz' : (r : Int) + 1 + j = K := hz
      clear hz hrK
      go_wp2_with (at_make; refine wpList_mk1 tBools rfl rfl _ _ rfl wo.heap.size k rfl rfl ?d1 (by decide) (Nat.le_refl _) ?d2)
      case d1 => omega
      case d2 =>
      intro ra rc w4 hown hbel
      have HLL := Kp.mk (lst_length K l j)
      have HNL := Kp.mk (show (lst K l j).length = k from by rw [lst_length, HNL0.out])
      obtain ⟨Br, hBr⟩ : ∃ Br, Br = wo.heap.size := ⟨_, rfl⟩
      rw [← hBr] at hown
      obtain ⟨Bt, hBt⟩ : ∃ Bt, Bt = w4.heap.size + 1 := ⟨_, rfl⟩
      obtain ⟨bh, hbh⟩ : ∃ bh, bh = w4.heap.size := ⟨_, rfl⟩
      have hlr := own_lt hown
      have hsz4 := hbel.size
      have HBK := Kp.mk (show HalfBlk Br Bt bh ra wo from ⟨fun q hq => by have := hlr q hq; omega, by omega, by omega, by omega⟩)
      have hal := below_alloc (Nat.le_refl w4.heap.size) (.cells #[.slice none 0 0, .slice none 0 0] 174)
      have HH0 := Kp.mk (show HalfMem Br Bt bh ra k 0 0 r wo (w4.alloc (.cells #[.slice none 0 0, .slice none 0 0] 174)) none none 0 0 rc (lst K l j) from by
        refine ⟨?_, by rw [alloc_size]; omega, ?_, ?_, ?_, ?_, fun q hq => by cases hq⟩
        · rw [hBr]; exact hbel.trans (hal.mono hbel.size)
        · rw [wbrowK_zero, show bls (List.replicate k false) = List.replicate k (.bool false) by simp [bls]]
          exact own_below hown hal
        · rw [halfK_zero, halfK_zero, hbh]; exact Box.new _ _ _
        · rw [halfK_zero]; exact World.ownsRow_nil _ _ _ _
        · rw [halfK_zero]; exact World.ownsRow_nil _ _ _ _)
      have HNL2 := Kp.mk (own_slc HNOW.out)
      have HBl := Kp.mk (show ∀ y ∈ lst K l j, y < 2097152 from fun y hy => HBm.out y (by
        have hp : ∀ j, (lst K l j).Perm l := fun j => by
          induction j with
          | zero => rw [lst_zero]
          | succ j ih => rw [lst_succ]; exact (stepL_perm _ _).trans ih
        exact (hp j).mem_iff.1 hy))
      have HBE := Kp.mk hBr
      rw [hbh] at HBK HH0
      clear hown hlr hsz4 hal HLL hbel
      go_upto_region 18 with (fail)
      rw [← hbh] at HBK HH0 ⊢
      generalize w4.alloc (.cells #[.slice none 0 0, .slice none 0 0] 174) = w5 at *
      clear hBt hBr hbh
      go_wp2
      go_loopw [58] (fun iv wr => ∃ (i : Nat) (a0 a1 : Option Addr) (c0 c1 : Nat), i ≤ k ∧ iv = .int .i64 i ∧ Kp (HalfMem Br Bt bh ra k i i r wo wr a0 a1 c0 c1 rc (lst K l j))) (fun iv _ => k - (intOf iv).toNat)
      case atStart => exact ⟨0, none, none, 0, 0, Nat.zero_le _, rfl, HH0⟩
      case round =>
      clear HH0
      obtain ⟨i, a0, a1, c0, c1, hi, rfl, HH⟩ := hrel
      by_cases hik : i < k
      · skip
        have hiL : i < (lst K l j).length := by rw [HNL.out]; exact hik
        obtain ⟨b, off, hna, cx⟩ := slN_at (HNL2.out.below (by rw [← HBE.out]; exact HH.out.bel)) i hiL
        obtain ⟨rb, rfl, _, _⟩ := own_some HH.out.row (by omega)
        have c2 := HH.out.row
        have f2 := HH.out.row
        have c2 := c2.cellAt i (by omega)
        have f2 := f2.frozenAt i
        rw [List.getElem?_eq_getElem (by rw [bls_length, wbrowK_length r k i _ HNL.out hi]; exact hik)] at c2
        have hxm := HBl.out _ (List.getElem_mem hiL)
        obtain ⟨x, hx⟩ : ∃ x, (lst K l j)[i] = x := ⟨_, rfl⟩
        rw [hx] at cx hxm
        have HXE := Kp.mk hx
        have hbv := bit_val x r (by omega)
        have c2' : ∃ v, wr.cell? ⟨rb, i, none⟩ = some v := ⟨_, c2⟩
        clear c2 hx
        obtain ⟨v2, c2⟩ := c2'
        subst hna
        cases hbx : bitB x r with
        | false =>
          have HBX := Kp.mk hbx
          clear hbx
          have bv : bits BinOp.and IntKind.i64 ((x : Int) / 2 ^ r) 1 = 0 := by rw [hbv, HBX.out]; rfl
          have HS := Kp.mk (HH.out.set HBK.out HNL.out hiL rfl)
          rw [HXE.out, HBX.out] at HS
          clear hbv
          go_upto_region 23 with (fail)
          have hge6 := HS.out.ge
          generalize wr.setCell ⟨rb, i, none⟩ (.bool false) = w6 at *
          have bx0 := HS.out.box.cell 0 rfl
          have bf := HS.out.box.free 0
          have HO := Kp.mk HS.out.h0
          have hle := halfK_le r i false (lst K l j)
          have HLE := Kp.mk (show (halfK r i false (lst K l j)).length = (halfK r i false (lst K l j)).length from rfl)
          generalize hm : (halfK r i false (lst K l j)).length = m at bx0 HO hle
          have HM := Kp.mk hm
          clear hm c2 f2 cx HLE
          go_wp2_with (at_builtin; refine wpList_pushS tInts rfl _ _ rfl Bt a0 m c0 _ rfl HO.out 1 _ rfl rfl ?g1 ?g2 (by decide) hge6 ?g4)
          case g1 => simp [Value.oneCell']
          case g2 => omega
          case g4 =>
            intro sa sc w7 hown hg hno
            have HP := Kp.mk (HS.out.push0 HBK.out hiL (by rw [HXE.out]; exact HBX.out) (by rw [HM.out, HXE.out]; exact hown) hg hno)
            rw [HM.out] at HP
            have hb7 := box_grown HS.out.box hg (fun e => by have := (own_lt HS.out.h0 bh e).1; have := HBK.out.b1; omega)
            have k0 := hb7.cell 0 rfl
            have kf := hb7.free 0
            clear hown hg hno bx0 bf hb7
            go_wp2
            go_roundw
            case rel =>
              exact ⟨i + 1, sa, a1, sc, c1, by omega, by go_num, HP⟩
            case measure => simp [intOf]; omega
        | true =>
          have HBX := Kp.mk hbx
          clear hbx
          have bv : bits BinOp.and IntKind.i64 ((x : Int) / 2 ^ r) 1 = 1 := by rw [hbv, HBX.out]; rfl
          have HS := Kp.mk (HH.out.set HBK.out HNL.out hiL rfl)
          rw [HXE.out, HBX.out] at HS
          clear hbv
          go_upto_region 23 with (fail)
          have hge6 := HS.out.ge
          generalize wr.setCell ⟨rb, i, none⟩ (.bool true) = w6 at *
          have bx0 := HS.out.box.cell 1 rfl
          have bf := HS.out.box.free 1
          have HO := Kp.mk HS.out.h1
          have hle := halfK_le r i true (lst K l j)
          have HLE := Kp.mk (show (halfK r i true (lst K l j)).length = (halfK r i true (lst K l j)).length from rfl)
          generalize hm : (halfK r i true (lst K l j)).length = m at bx0 HO hle
          have HM := Kp.mk hm
          clear hm c2 f2 cx HLE
          go_wp2_with (at_builtin; refine wpList_pushS tInts rfl _ _ rfl Bt a1 m c1 _ rfl HO.out 1 _ rfl rfl ?g1 ?g2 (by decide) hge6 ?g4)
          case g1 => simp [Value.oneCell']
          case g2 => omega
          case g4 =>
            intro sa sc w7 hown hg hno
            have HP := Kp.mk (HS.out.push1 HBK.out hiL (by rw [HXE.out]; exact HBX.out) (by rw [HM.out, HXE.out]; exact hown) hg hno)
            rw [HM.out] at HP
            have hb7 := box_grown HS.out.box hg (fun e => by have := (own_lt HS.out.h1 bh e).1; have := HBK.out.b1; omega)
            have k0 := hb7.cell 1 rfl
            have kf := hb7.free 1
            clear hown hg hno bx0 bf hb7
            go_wp2
            go_roundw
            case rel =>
              exact ⟨i + 1, a0, sa, c0, sc, by omega, by go_num, HP⟩
            case measure => simp [intOf]; omega
      · obtain rfl : i = k := by omega
        have HHF := HH
        have hrow := HHF.out.row
        rw [wbrowK_all r i _ HNL.out] at hrow
        have hRW : rowL r (lst K l j) = rowAt K l j := by rw [← HRK.out]; unfold rowAt; rfl
        rw [hRW] at hrow
        have HRW := Kp.mk (own_slc hrow)
        have hbx := HHF.out.box
        have HST := Kp.mk (halfK_step r i _ HNL.out)
        have HMB := Kp.mk (HMM.out.below (show Below wo.heap.size wo wr from by rw [← HBE.out]; exact HHF.out.bel))
        have hl0 := halfK_le r i false (lst K l j)
        have hl1 := halfK_le r i true (lst K l j)
        have HH0 := Kp.mk HHF.out.h0
        have HH1 := Kp.mk HHF.out.h1
        have hBt := Kp.mk (show w.heap.size ≤ Bt from by have := HBK.out.b0; have := HBK.out.b1; have := HMM.out.bel.size; have := HBE.out; omega)
        have HAP := Kp.mk HHF.out.apart
        have HSL := Kp.mk (lst_succ K l j)
        rw [HRK.out, ← HST.out] at HSL
        clear HHF HH hrow hRW HBl HNL2 HNOW hik
        generalize halfK r i false (lst K l j) = Z at *
        generalize halfK r i true (lst K l j) = O at *
        have k0 := hbx.cell 0 rfl
        have k1 := hbx.cell 1 rfl
        have C := Kp.mk (bmake_any ra rc i (rowAt K l j) wr HRW.out (by omega))
        have hE : (rowAt K l j).length = i := by rw [rowAt_length, HNL0.out]
        have HE := Kp.mk hE
        have hbK := HMB.out.bw
        have HBX := Kp.mk hbx
        clear hE HRW k0 k1 hbx
        go_wp2_with fail
        refine C.out.mono ?_
        rintro e w5 ⟨sx, cx, rfl, hox, hbx⟩
        have HM5 := Kp.mk (HMB.out.below hbx)
        have HBX5 := Kp.mk (HBX.out.below hbx)
        have h05 := Kp.mk (own_below HH0.out hbx)
        have h15 := Kp.mk (own_below HH1.out hbx)
        have HBI5 := Kp.mk (show BitsIn w5 sx cx (rowAt K l j) from by unfold BitsIn; rw [HE.out]; exact own_base hox (Nat.zero_le _))
        have hal := below_alloc (Nat.le_refl w5.heap.size) (.cells #[.int .i64 i, .slice sx (bwN i) cx] 177)
        have HM6 := Kp.mk (HM5.out.below hal)
        have HBX6 := Kp.mk (HBX5.out.below hal)
        have h06 := Kp.mk (own_below h05.out hal)
        have h16 := Kp.mk (own_below h15.out hal)
        have HBI6 := Kp.mk (HBI5.out.below hal)
        have HB16 := Kp.mk (Box.new w5 #[.int .i64 i, .slice sx (bwN i) cx] 177)
        clear hox hbx hal C HMB HBX HH0 HH1 HM5 HBX5 h05 h15 HBI5 hbK
        go_upto_region 26 with (fail)
        generalize hq16 : w5.heap.size = q16 at *
        generalize w5.alloc (.cells #[.int .i64 i, .slice sx (bwN i) cx] 177) = w6 at *
        clear hq16
        have c0 := HM6.out.bw.cell 0 rfl
        have d0 := HB16.out.cell 0 rfl
        have d1 := HB16.out.cell 1 rfl
        have hs6 := HM6.out.bel.size
        go_wp2_with (at_builtin; refine wpList_pushS tBitsT rfl _ _ rfl w.heap.size la j lc _ rfl HM6.out.lv 1 _ rfl rfl ?p1 ?p2 (by decide) hs6 ?p4)
        case p1 => simp [Value.oneCell']
        case p2 => omega
        case p4 =>
        intro la' lc' w7 hown hg hno
        have HM7 := Kp.mk (HM6.out.push HNL0.out h4w hwb HBI6.out hown hg)
        have hbw7 := box_grown HM6.out.bw hg (box_own HM6.out.lv HM6.out.bw (by decide))
        have hf := hbw7.free 0
        have hc := hbw7.cell 0 rfl
        have hgs := grown_set w7 bw 0 (.slice la' (j + 1) lc')
        have ht1 := box_grown HBX6.out hg (box_own HM6.out.lv HBX6.out (by decide))
        have HBX8 := Kp.mk (box_setC (o := 0) (v := .slice la' (j + 1) lc') ht1 (show bw ≠ bh from fun e => by rw [e] at hbw7; have h8 := ht1.symm.trans hbw7; simp at h8))
        have g0 := own_keep h06.out hg (fun q hq => own_two HM6.out.lv h06.out (by decide) q hq)
        have g1 := own_keep h16.out hg (fun q hq => own_two HM6.out.lv h16.out (by decide) q hq)
        have h08 := Kp.mk (own_keep g0 hgs (fun q hq hm => by simp at hq; subst hq; exact box_own g0 hbw7 (by decide) hm))
        have h18 := Kp.mk (own_keep g1 hgs (fun q hq hm => by simp at hq; subst hq; exact box_own g1 hbw7 (by decide) hm))
        have HS8 := Kp.mk (show w5.heap.size ≤ w5.heap.size from Nat.le_refl _)
        clear hown hg hno hgs ht1 g0 g1 hbw7 c0 d0 d1 h06 h16 HM6 HBX6 HB16 HBI6
        go_upto_region 27 with (fail)
        generalize w7.setCell ⟨bw, 0, none⟩ (.slice la' (j + 1) lc') = w8 at *
        clear hf hc
        have k0 := HBX8.out.cell 0 rfl
        have k1 := HBX8.out.cell 1 rfl
        have hs8 := HM7.out.bel.size
        go_wp2_with (at_builtin; refine wpList_catS tInts rfl _ _ rfl w.heap.size _ Z.length _ _ rfl (own_base h08.out hBt.out) _ O.length _ _ rfl (own_slc h18.out) (nts_one O) ?q1 (by decide) hs8 ?q2)
        case q1 => omega
        case q2 =>
        intro na' nc' w9 hown hg hno
        have hlen : Z.length + O.length = i := by
          have := congrArg List.length HST.out
          rwa [List.length_append, stepL_length, HNL.out] at this
        rw [hlen, ← nts_append, ← HSL.out] at hown
        rw [hlen]
        have HNOW9 := Kp.mk hown
        have HM9 := Kp.mk (HM7.out.grown h08.out hg hBt.out)
        clear hown hg hno hlen k0 k1 h08 h18 HBX8 HM7
        go_wp2
        go_roundw
        case rel => exact ⟨j + 1, (r : Int) - 1, na', nc', la', lc', _, by omega, by omega, rfl, rfl, HNOW9, HM9⟩
        case measure => simp [intOf]

end Go.Proofs.YtedchegejalolaaGreatDoor

