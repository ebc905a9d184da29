import Derived.Test.YtladgklnacihkaaGreatMg13
/- Package wave: Rank, below, kth, Below, Kth, Next. -/
namespace Go.Proofs.YtladgklnacihkaaGreat
set_option linter.unusedVariables false
open Go.RowKit

theorem i64_bit (x r : Nat) (hx : x < 9223372036854775808) : (bits BinOp.and IntKind.i64 ((x : Int) / 2 ^ r) 1 == 1) = bitB x r ∧ ∃ y : Nat, bits BinOp.and IntKind.i64 ((x : Int) / 2 ^ r) 1 = (y : Int) ∧ ((y : Int) == 1) = bitB x r := by
  have e : (x : Int) / 2 ^ r = ((x / 2 ^ r : Nat) : Int) := by push_cast; rfl
  have hd : x / 2 ^ r ≤ x := Nat.div_le_self _ _
  have := i64_and_nat (x / 2 ^ r) 1 (by omega) (by decide)
  have h2 : bits BinOp.and IntKind.i64 ((x : Int) / 2 ^ r) 1 = ((x / 2 ^ r % 2 : Nat) : Int) := by
    rw [e, show (1 : Int) = ((1 : Nat) : Int) from rfl, this, Nat.and_one_is_mod]
  refine ⟨?_, x / 2 ^ r % 2, h2, bitB_eq x r _ rfl⟩
  rw [h2]; exact bitB_eq x r _ rfl
/-- One step of a range down a wave. -/
theorem wsg_step (K n k a b : Nat) (o : Bool) (l S : List Nat) (hl : l.length = n) (hk : k < K) (hab : a ≤ b) (hb : b ≤ n) (hs : sg (lst K l k) a b = S) :
    dwn (rowAt K l k) a o ≤ dwn (rowAt K l k) b o ∧ dwn (rowAt K l k) b o ≤ n ∧ sg (lst K l (k + 1)) (dwn (rowAt K l k) a o) (dwn (rowAt K l k) b o) = S.filter (fun y => bitB y (K - 1 - k) == o) := by
  have hL : (lst K l k).length = n := by rw [lst_length, hl]
  have e : lst K l (k + 1) = stepL (K - 1 - k) (lst K l k) := lst_succ K l k
  have e2 : rowAt K l k = rowL (K - 1 - k) (lst K l k) := by unfold rowAt; rfl
  rw [e, e2]
  refine ⟨dwn_mono _ _ _ _ hab (by omega) _, by rw [← hL]; exact dwn_le _ _ _ (by omega) _, ?_⟩
  rw [dwn_sg _ _ _ _ hab (by omega), hs]
theorem wzeros (K n k a b : Nat) (l S : List Nat) (hl : l.length = n) (hk : k < K) (hab : a ≤ b) (hb : b ≤ n) (hs : sg (lst K l k) a b = S) :
    dwn (rowAt K l k) b false = dwn (rowAt K l k) a false + (S.filter fun y => bitB y (K - 1 - k) == false).length := by
  obtain ⟨h1, h2, h3⟩ := wsg_step K n k a b false l S hl hk hab hb hs
  have h4 := congrArg List.length h3
  rw [sg_length _ _ _ (by rw [lst_length, hl]; exact h2)] at h4
  omega
theorem wsame (K k x : Nat) (S : List Nat) (hk : k < K) : (same (K - k) x S).filter (fun y => bitB y (K - 1 - k) == bitB x (K - 1 - k)) = same (K - (k + 1)) x S := by
  have := same_step (K - 1 - k) x S
  rw [show K - 1 - k + 1 = K - k by omega] at this
  rw [this, show K - 1 - k = K - (k + 1) by omega]

end Go.Proofs.YtladgklnacihkaaGreat

/- Package wave: below, kth, Below, Kth, Next. -/
namespace Go.Proofs.YtladgklnacihkaaGreat
set_option linter.unusedVariables false
open Go.RowKit

theorem lessK_le (k x : Nat) (S : List Nat) : lessK k x S ≤ S.length := by unfold lessK; exact List.countP_le_length
theorem wless (K k x : Nat) (S : List Nat) (hk : k < K) : lessK (K - (k + 1)) x S = lessK (K - k) x S + (if bitB x (K - 1 - k) = true then ((same (K - k) x S).filter fun y => bitB y (K - 1 - k) == false).length else 0) := by
  have := lessK_step (K - 1 - k) x S
  rw [show K - 1 - k + 1 = K - k by omega] at this
  rw [← this, show K - 1 - k = K - (k + 1) by omega]
theorem wkth (K n k p q P r kk : Nat) (l S : List Nat) (hl : l.length = n) (hk : k < K) (hpq : p ≤ q) (hq : q ≤ n) (h0 : sg (lst K l k) p q = same (K - k) (P * 2 ^ (K - k)) S) (h1 : lessK (K - k) (P * 2 ^ (K - k)) S + r = kk) (h2 : r < q - p) :
    ∃ z, dwn (rowAt K l k) q false = dwn (rowAt K l k) p false + z ∧ ∀ one, one = decide (z ≤ r) →
      dwn (rowAt K l k) p one ≤ dwn (rowAt K l k) q one ∧ dwn (rowAt K l k) q one ≤ n ∧
      sg (lst K l (k + 1)) (dwn (rowAt K l k) p one) (dwn (rowAt K l k) q one) = same (K - (k + 1)) ((2 * P + (if one = true then 1 else 0)) * 2 ^ (K - (k + 1))) S ∧
      lessK (K - (k + 1)) ((2 * P + (if one = true then 1 else 0)) * 2 ^ (K - (k + 1))) S + (r - (if one = true then z else 0)) = kk ∧ r - (if one = true then z else 0) < dwn (rowAt K l k) q one - dwn (rowAt K l k) p one := by
  have hz := wzeros K n k p q l _ hl hk hpq hq h0
  have hlen := congrArg List.length h0
  rw [sg_length _ _ _ (by rw [lst_length, hl]; exact hq)] at hlen
  have hs := kth_step (K - 1 - k) P kk S
  rw [show K - 1 - k + 1 = K - k by omega] at hs
  have hs := hs (by omega) (by omega)
  rw [show kk - lessK (K - k) (P * 2 ^ (K - k)) S = r by omega] at hs
  refine ⟨_, hz, fun one hone => ?_⟩
  subst hone
  obtain ⟨s1, s2, s3, s4⟩ := hs
  rw [show K - (k + 1) = K - 1 - k by omega]
  obtain ⟨g1, g2, g3⟩ := wsg_step K n k p q (decide (((same (K - k) (P * 2 ^ (K - k)) S).filter fun y => bitB y (K - 1 - k) == false).length ≤ r)) l _ hl hk hpq hq h0
  rw [s4] at g3
  refine ⟨g1, g2, g3, ?_, ?_⟩
  · rw [s1]
    by_cases h : ((same (K - k) (P * 2 ^ (K - k)) S).filter fun y => bitB y (K - 1 - k) == false).length ≤ r
    · simp only [decide_eq_true h, if_true]; omega
    · simp only [decide_eq_false h, Bool.false_eq_true, if_false]; omega
  · have g4 := congrArg List.length g3
    rw [sg_length _ _ _ (by rw [lst_length, hl]; exact g2)] at g4
    rw [g4]
    rw [s1] at s3
    by_cases h : ((same (K - k) (P * 2 ^ (K - k)) S).filter fun y => bitB y (K - 1 - k) == false).length ≤ r
    · simp only [decide_eq_true h, if_true] at s3 ⊢; omega
    · simp only [decide_eq_false h, Bool.false_eq_true, if_false] at s3 ⊢; omega

set_option maxHeartbeats 1000000 in
theorem wfault_any (a : Option Addr) (cap K n p q : Nat) (l : List Nat) (w : World) (h : IsWave w a cap K l) (hl : l.length = n) (hn : n ≤ 300) (hK : 0 < K) (hK2 : K ≤ 21) (hpq : p ≤ q) (hq : q ≤ n) :
    Calls Tryz.prog 55 #[.agg #[.slice a K cap], .int .i64 p, .int .i64 q] w fun e w' => e = .returned (.int .i64 0) ∧ Below w.heap.size w w' := by
  have HA := Kp.mk (below_alloc (Nat.le_refl w.heap.size) (.cells #[.slice a K cap] 78))
  have HBX := Kp.mk (Box.new w #[.slice a K cap] 78)
  have H := Kp.mk (h.below HA.out)
  have HLn := Kp.mk hl
  have C := Kp.mk (wmay_any a cap K n l _ H.out hl hn hK hK2)
  have d0 : (w.alloc (.cells #[.slice a K cap] 78)).cell? ⟨w.heap.size, 0, none⟩ = some (.slice a K cap) := HBX.out.cell 0 rfl
  have t1 : decide ((p : Int) < 0) = false := decide_eq_false (by omega)
  have t2 : decide ((q : Int) < p) = false := decide_eq_false (by omega)
  have t3 : decide (q < p) = false := decide_eq_false (by omega)
  have t4 : decide ((n : Int) < q) = false := decide_eq_false (by omega)
  have t5 : decide (n < q) = false := decide_eq_false (by omega)
  clear h hl
  go_enter Tryz.func55, Tryz.ntmps55
  go_wp2_with fail
  refine C.out.mono ?_
  rintro e w1 ⟨rfl, hb⟩
  have HB1 := Kp.mk (below_step HA.out hb)
  have H1 := Kp.mk (H.out.below hb)
  have d1 : w1.cell? ⟨w.heap.size, 0, none⟩ = some (.slice a K cap) := (HBX.out.below hb).cell 0 rfl
  clear hb C d0 H HBX HA
  go_wp2_with fail
  refine (wlen_any a cap K n l w1 H1.out HLn.out hK hK2).mono ?_
  rintro e w2 ⟨rfl, hb⟩
  have HB2 := Kp.mk (below_step HB1.out hb)
  clear hb d1
  go_wp2
  go_ret
  exact ⟨rfl, HB2.out⟩

set_option maxRecDepth 100000 in
set_option maxHeartbeats 2000000 in
theorem wbelow_any (a : Option Addr) (cap K n x p0 q0 : Nat) (l : List Nat) (w : World) (h : IsWave w a cap K l) (hl : l.length = n) (hn : n ≤ 300) (hK : 0 < K) (hK2 : K ≤ 21) (hpq0 : p0 ≤ q0) (hq0 : q0 ≤ n) (hb : ∀ y ∈ l, y < 2 ^ K) (hxm : x ≤ 1000000000) :
    Calls Tryz.prog 56 #[.agg #[.slice a K cap], .int .i64 p0, .int .i64 q0, .int .i64 x] w fun e w' => e = .returned (.int .i64 (cntBelow (sg l p0 q0) x : Nat)) ∧ Below w.heap.size w w' := by
  have HA := Kp.mk (below_alloc (Nat.le_refl w.heap.size) (.cells #[.slice a K cap] 78))
  have HBX := Kp.mk (Box.new w #[.slice a K cap] 78)
  have hSl := sg_length l p0 q0 (by omega)
  have hSb : ∀ y ∈ sg l p0 q0, y < 2 ^ K := fun y hy => hb y (by unfold sg at hy; exact List.mem_of_mem_take (List.mem_of_mem_drop hy))
  obtain ⟨S, hS⟩ : ∃ S, sg l p0 q0 = S := ⟨_, rfl⟩
  rw [hS] at hSl hSb ⊢
  have HS0 := Kp.mk hS
  have d0 : (w.alloc (.cells #[.slice a K cap] 78)).cell? ⟨w.heap.size, 0, none⟩ = some (.slice a K cap) := HBX.out.cell 0 rfl
  by_cases hx0 : x = 0
  · subst hx0
    rw [below_zero]
    clear h hl hb hSl hSb hS
    go_enter Tryz.func56, Tryz.ntmps56
    go_wp2
    go_ret
    exact ⟨rfl, HA.out⟩
  · have t0 : decide ((x : Int) ≤ 0) = false := decide_eq_false (by omega)
    have t0b : decide (x = 0) = false := decide_eq_false hx0
    have H := Kp.mk (h.below HA.out)
    have HLn := Kp.mk hl
    by_cases hx2 : x < 2 ^ K
    · have HD := Kp.mk (show decide (x < 2 ^ K) = true from decide_eq_true hx2)
      have HX := Kp.mk (show sg (lst K l 0) p0 q0 = same (K - 0) x S from by rw [lst_zero, Nat.sub_zero, same_all K x _ hSb hx2]; exact hS)
      have HC := Kp.mk (show lessK (K - 0) x S = 0 from by rw [Nat.sub_zero]; exact lessK_all K x S hx2)
      have HSL := Kp.mk hSl
      have hSn : S.length ≤ 300 := by omega
      have hxm2 : x < 2097152 := Nat.lt_of_lt_of_le hx2 (Nat.le_trans (Nat.pow_le_pow_right (by omega) hK2) (by decide))
      obtain ⟨bx, hbx⟩ : ∃ bx, bx = w.heap.size := ⟨_, rfl⟩
      have C := Kp.mk (wfits_any a cap K x (w.alloc (.cells #[.slice a K cap] 78)) hK2 hxm)
      clear h hl hb hx2 hSl hSb hS
      go_enter Tryz.func56, Tryz.ntmps56
      go_wp2_with fail
      refine C.out.mono ?_
      rintro e w3 ⟨rfl, hb⟩
      rw [HD.out]
      have HB3 := Kp.mk (below_step HA.out hb)
      have hb3 := Kp.mk (HBX.out.below hb)
      have H3 := Kp.mk (H.out.below hb)
      rw [← hbx] at hb3 ⊢
      have d3 : w3.cell? ⟨bx, 0, none⟩ = some (.slice a K cap) := hb3.out.cell 0 rfl
      clear hb d0 HBX H C
      clear hbx
      go_wp2
      go_loopw [1, 2, 9, 27] (fun av bv nv kv wr => ∃ (k p q c : Nat), k ≤ K ∧ kv = .int .i64 k ∧ av = .int .i64 p ∧ bv = .int .i64 q ∧ nv = .int .i64 c ∧ p ≤ q ∧ q ≤ n ∧ Kp (sg (lst K l k) p q = same (K - k) x S) ∧ Kp (lessK (K - k) x S = c) ∧ Kp (Below w3.heap.size w3 wr)) (fun _ _ _ k _ => K - (intOf k).toNat)
      case atStart => exact ⟨0, p0, q0, 0, Nat.zero_le _, rfl, rfl, rfl, rfl, hpq0, hq0, HX, HC, ⟨Below.refl _ _⟩⟩
      case round =>
      obtain ⟨k, p, q, c, hk, rfl, rfl, rfl, rfl, hpq, hq, HS, HL, HBL⟩ := hrel
      by_cases hlt : k < K
      rotate_left
      · obtain rfl : k = K := by omega
        have hs := HL.out
        rw [Nat.sub_self, lessK_none] at hs
        have HR := Kp.mk hs
        clear hs
        go_wp2
        go_ret
        exact ⟨by rw [HR.out]; rfl, below_step HB3.out HBL.out⟩
      obtain ⟨s1, s2, s3⟩ := wsg_step K n k p q (bitB x (K - 1 - k)) l _ HLn.out hlt hpq hq HS.out
      rw [wsame K k x _ hlt] at s3
      have hz := wzeros K n k p q l _ HLn.out hlt hpq hq HS.out
      obtain ⟨_, hqf, _⟩ := wsg_step K n k p q false l _ HLn.out hlt hpq hq HS.out
      have hls := wless K k x S hlt
      have hcl := lessK_le (K - k) x S
      have hcl2 := lessK_le (K - (k + 1)) x S
      rw [HL.out] at hls hcl
      generalize ((same (K - k) x S).filter fun y => bitB y (K - 1 - k) == false).length = z at *
      obtain ⟨b, off, sa, sc, rfl, hbw, c0, c1, hbi⟩ := (H3.out.below HBL.out).at HLn.out k hlt
      have hE := rowAt_length K l k
      rw [HLn.out] at hE
      generalize rowAt K l k = E at *
      have hr : (K : Int) - 1 - (k : Int) = ((K - 1 - k : Nat) : Int) := by omega
      obtain ⟨z0, zy, z1, z2⟩ := i64_bit x (K - 1 - k) (by omega)
      generalize bitB x (K - 1 - k) = t at *
      have hr2 : K - 1 - k ≤ 63 := by omega
      generalize K - 1 - k = r at *
      have HS3 := Kp.mk s3
      clear s3 z0
      have HE := Kp.mk hE
      have HBI := Kp.mk hbi
      clear hE hbi
      have hba := below_alloc (Nat.le_refl wr.heap.size) (.cells #[.int .i64 n, .slice sa (bwN n) sc] 114)
      have HB4 := Kp.mk (HBL.out.trans (hba.mono HBL.out.size))
      have HBI2 := Kp.mk (HBI.out.below hba)
      have hbox := Box.new wr #[.int .i64 n, .slice sa (bwN n) sc] 114
      have hbw3 := ((hb3.out.below HBL.out).below hba).cell 0 rfl
      have y0 : (wr.alloc (.cells #[.int .i64 n, .slice sa (bwN n) sc] 114)).cell? ⟨wr.heap.size, 0, none⟩ = some (.int .i64 n) := hbox.cell 0 rfl
      have y1 : (wr.alloc (.cells #[.int .i64 n, .slice sa (bwN n) sc] 114)).cell? ⟨wr.heap.size, 1, none⟩ = some (.slice sa (bwN n) sc) := hbox.cell 1 rfl
      have y2 : (wr.alloc (.cells #[.int .i64 n, .slice sa (bwN n) sc] 114)).cell? ⟨bx, 0, none⟩ = some (.slice (some ⟨b, off, none⟩) K cap) := hbw3
      clear hba hbox hbw3
      have hpn : p ≤ n := by omega
      have hPF : dwn E p false ≤ n := by omega
      have HZ := Kp.mk hz
      have hcz : t = true → c + z ≤ 300 := fun h => by rw [if_pos h] at hls; omega
      have hdz : (((dwn E q false : Nat) : Int) - (dwn E p false : Nat)) = (z : Int) := by omega
      have hzn : z ≤ n := by omega
      cases t with
      | true =>
        rw [if_pos rfl] at hls
        have HLS := Kp.mk hls
        have hcz := hcz rfl
        clear hls hcl hcl2 hz
        go_upto_region 11 with (fail)
        generalize wr.alloc (.cells #[.int .i64 n, .slice sa (bwN n) sc] 114) = w4 at *
        have e0 : IntKind.i64.wrap (((dwn E q false : Nat) : Int) - (dwn E p false : Nat)) = ((dwn E q false : Nat) : Int) - (dwn E p false : Nat) := IntWalk.i64_in _ (by omega)
        have e1 : IntKind.i64.wrap ((c : Int) + (z : Int)) = ((c + z : Nat) : Int) := IntWalk.i64_in _ (by omega)
        have e2 : IntKind.i64.wrap (z : Int) = (z : Int) := IntWalk.i64_in _ (by omega)
        have Y0 := Kp.mk y0
        have Y1 := Kp.mk y1
        have r0 := later_cell y0
        have r1 := later_cell y1
        have C := Kp.mk (fun (X : Later w4) (i : Nat) (o : Bool) (hi : i ≤ n) => down_any sa sc n i o E X.val (HBI2.out.below X.le) HE.out hn hi)
        clear y0 y1 y2 z1 z2 hr
        refine region_later (by kernel_rfl) (by kernel_rfl) ?_
        repeat (quiet_step ((go_at_call 86; exact q_later (C.out _ _ _ (by assumption)))))
        refine wpQuiet_nil ?_
        rintro w' ⟨xl, rfl⟩
        have y0 := r0 xl
        have y1 := r1 xl
        have HB5 := Kp.mk (HB4.out.trans (xl.le.mono HB4.out.size))
        have HBI3 := Kp.mk (HBI2.out.below xl.le)
        clear r0 r1 C e0 e1 e2 Y0 Y1 hdz
        go_upto_region 12 with (fail)
        obtain ⟨w5, hw5⟩ : ∃ w5, w5 = xl.val := ⟨_, rfl⟩
        rw [← hw5] at y0 y1 HB5 HBI3 ⊢
        clear hw5
        have r0 := later_cell y0
        have r1 := later_cell y1
        have C := Kp.mk (fun (X : Later w5) (i : Nat) (o : Bool) (hi : i ≤ n) => down_any sa sc n i o E X.val (HBI3.out.below X.le) HE.out hn hi)
        clear y0 y1 
        refine region_later (by kernel_rfl) (by kernel_rfl) ?_
        repeat (quiet_step ((go_at_call 86; exact q_later (C.out _ _ _ (by assumption)))))
        refine wpQuiet_nil ?_
        rintro w' ⟨xl, rfl⟩
        have HB6 := Kp.mk (HB5.out.trans (xl.le.mono HB5.out.size))
        clear r0 r1 C hPF hqf HZ
        generalize dwn E p true = p' at *
        generalize dwn E q true = q' at *
        go_wp2
        go_roundw
        case rel => exact ⟨k + 1, p', q', c + z, by omega, by go_num, rfl, rfl, rfl, s1, s2, HS3, HLS, HB6⟩
        case measure => simp [intOf]; omega

      | false =>
        rw [if_neg (by simp), Nat.add_zero] at hls
        have HLS := Kp.mk hls
        clear hls hcl hcl2 hz hdz hcz
        go_upto_region 12 with (fail)
        generalize wr.alloc (.cells #[.int .i64 n, .slice sa (bwN n) sc] 114) = w4 at *
        have r0 := later_cell y0
        have r1 := later_cell y1
        have C := Kp.mk (fun (X : Later w4) (i : Nat) (o : Bool) (hi : i ≤ n) => down_any sa sc n i o E X.val (HBI2.out.below X.le) HE.out hn hi)
        clear y0 y1 y2 z1 z2 hr
        refine region_later (by kernel_rfl) (by kernel_rfl) ?_
        repeat (quiet_step ((go_at_call 86; exact q_later (C.out _ _ _ (by assumption)))))
        refine wpQuiet_nil ?_
        rintro w' ⟨xl, rfl⟩
        have HB6 := Kp.mk (HB4.out.trans (xl.le.mono HB4.out.size))
        clear r0 r1 C hPF hqf HZ
        generalize dwn E p false = p' at *
        generalize dwn E q false = q' at *
        go_wp2
        go_roundw
        case rel => exact ⟨k + 1, p', q', c, by omega, by go_num, rfl, rfl, rfl, s1, s2, HS3, HLS, HB6⟩
        case measure => simp [intOf]; omega

    · have HD := Kp.mk (show decide (x < 2 ^ K) = false from decide_eq_false hx2)
      have hall := below_all K x S hSb (by omega)
      rw [hSl] at hall
      have HR := Kp.mk (show ((q0 : Int) - p0) = ((cntBelow S x : Nat) : Int) from by omega)
      have C := Kp.mk (wfits_any a cap K x (w.alloc (.cells #[.slice a K cap] 78)) hK2 hxm)
      clear h hl hb hx2 hSl hSb hS hall
      go_enter Tryz.func56, Tryz.ntmps56
      go_wp2_with fail
      refine C.out.mono ?_
      rintro e w3 ⟨rfl, hb⟩
      rw [HD.out]
      have HB3 := Kp.mk (below_step HA.out hb)
      clear hb
      go_wp2
      go_ret
      exact ⟨by rw [← HR.out]; rfl, HB3.out⟩

end Go.Proofs.YtladgklnacihkaaGreat

/- Package wave: kth, Below, Kth, Next. -/
namespace Go.Proofs.YtladgklnacihkaaGreat
set_option linter.unusedVariables false
open Go.RowKit

theorem pk_lt {P k K : Nat} (h : P < 2 ^ k) (hk : k ≤ K) (hK : K ≤ 21) : P < 2097152 :=
  Nat.lt_of_lt_of_le h (Nat.le_trans (Nat.pow_le_pow_right (by omega) (Nat.le_trans hk hK)) (by decide))

set_option maxHeartbeats 1000000 in
theorem wBelow_any (a : Option Addr) (cap K n x p q : Nat) (l : List Nat) (w : World) (h : IsWave w a cap K l) (hl : l.length = n) (hn : n ≤ 300) (hK : 0 < K) (hK2 : K ≤ 21) (hpq : p ≤ q) (hq : q ≤ n) (hb : ∀ y ∈ l, y < 2 ^ K) (hxm : x ≤ 1000000000) :
    Calls Tryz.prog 36 #[.agg #[.slice a K cap], .int .i64 p, .int .i64 q, .int .i64 x] w fun e w' => e = .returned (.tuple #[.int .i64 (cntBelow (sg l p q) x : Nat), .int .i64 0]) ∧ Below w.heap.size w w' := by
  have HA := Kp.mk (below_alloc (Nat.le_refl w.heap.size) (.cells #[.slice a K cap] 78))
  have HBX := Kp.mk (Box.new w #[.slice a K cap] 78)
  have C := Kp.mk (wfault_any a cap K n p q l _ (h.below HA.out) hl hn hK hK2 hpq hq)
  have H := Kp.mk (h.below HA.out)
  have HLn := Kp.mk hl
  have HB := Kp.mk hb
  have d0 : (w.alloc (.cells #[.slice a K cap] 78)).cell? ⟨w.heap.size, 0, none⟩ = some (.slice a K cap) := HBX.out.cell 0 rfl
  clear h hl hb
  go_enter Tryz.func36, Tryz.ntmps36
  go_wp2_with fail
  refine C.out.mono ?_
  rintro e w1 ⟨rfl, hb⟩
  have HB1 := Kp.mk (below_step HA.out hb)
  have H1 := Kp.mk (H.out.below hb)
  have d1 : w1.cell? ⟨w.heap.size, 0, none⟩ = some (.slice a K cap) := (HBX.out.below hb).cell 0 rfl
  clear hb C d0 H HBX HA
  have C2 := Kp.mk (wbelow_any a cap K n x p q l w1 H1.out HLn.out hn hK hK2 hpq hq HB.out hxm)
  obtain ⟨y, hy⟩ : ∃ y, cntBelow (sg l p q) x = y := ⟨_, rfl⟩
  rw [hy] at C2
  have HY := Kp.mk hy
  clear hy
  go_wp2_with fail
  refine C2.out.mono ?_
  rintro e w2 ⟨rfl, hb⟩
  have HB2 := Kp.mk (below_step HB1.out hb)
  clear hb C2
  go_wp2
  go_ret2
  exact ⟨by rw [HY.out]; rfl, HB2.out⟩


end Go.Proofs.YtladgklnacihkaaGreat

