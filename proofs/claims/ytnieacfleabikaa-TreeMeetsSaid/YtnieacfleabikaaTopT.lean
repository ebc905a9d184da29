/- Package rmq: the walk of Top, and the laws' own 'topped'. -/
import Derived.Test.YtnieacfleabikaaTopM
import Derived.Test.YtnieacfleabikaaBitLen
import Derived.Shelf.Abstract
namespace Go.Proofs.Ytnieacfleabikaa
set_option linter.unusedVariables false
open Go.RowKit

set_option maxHeartbeats 400000 in
theorem equal_same (a b : Option Addr) (c d n : Nat) (l : List Int) (w : World) (h1 : SlI w a c l) (h2 : SlI w b d l) (hl : l.length = n) (hn : n ≤ 9223372036854775806) :
    Calls Try.prog 54 #[.slice a n c, .slice b n d] w fun e w' => e = .returned (.bool true) ∧ Drew w w' := by
  have H1 := Kp.mk h1
  have H2 := Kp.mk h2
  have HL := Kp.mk hl
  have e1 : ((n : Int) != n) = false := by simp
  clear h1 h2 hl
  go_enter Try.func54, Try.ntmps54
  go_wp2
  go_loopw [13] (fun i wr => ∃ k : Nat, k ≤ n ∧ i = .int .i64 k ∧ Kp (Drew w wr)) (fun i _ => n - (intOf i).toNat)
  case atStart => exact ⟨0, Nat.zero_le _, rfl, ⟨Drew.refl _⟩⟩
  case round =>
    obtain ⟨k, hk, rfl, HD⟩ := hrel
    obtain ⟨nd, rfl⟩ := HD.out
    by_cases hlt : k < n
    · obtain ⟨b1, o1, rfl, c1⟩ := H1.out.at k (by rw [HL.out]; exact hlt)
      obtain ⟨b2, o2, rfl, c2⟩ := H2.out.at k (by rw [HL.out]; exact hlt)
      generalize l[k]'(by rw [HL.out]; exact hlt) = x at *
      go_wp2
      go_quiet (fail)
      go_wp2
      go_roundw
      case rel => exact ⟨k + 1, by omega, by go_num, ⟨⟨_, rfl⟩⟩⟩
      case measure => simp [intOf]; omega
    · go_wp2
      go_ret
      exact ⟨rfl, nd, rfl⟩

set_option maxHeartbeats 400000 in
theorem eq1_same (a b : Option Addr) (c d n : Nat) (l : List Int) (w : World) (h1 : SlI w a c l) (h2 : SlI w b d l) (hl : l.length = n) (hn : n ≤ 9223372036854775806) :
    Calls Try.prog 53 #[.slice a n c, .slice b n d] w fun e w' => e = .returned (.bool true) ∧ Drew w w' := by
  have C := Kp.mk (equal_same a b c d n l w h1 h2 hl hn)
  clear h1 h2 hl hn
  go_enter Try.func53, Try.ntmps53
  go_wp2_with fail
  refine C.out.mono ?_
  rintro e w' ⟨rfl, nd, rfl⟩
  go_wp2
  go_ret
  exact ⟨rfl, nd, rfl⟩

theorem sl_drew {w w' : World} {a : Option Addr} {c : Nat} {l : List Int} (h : SlI w a c l) (hd : Drew w w') : SlI w' a c l := h.below (hd.below _)
theorem rows_drew {w w' : World} {a : Option Addr} {n c : Nat} {D : List (List Int)} (h : RowsI w a n c D) (hd : Drew w w') : RowsI w' a n c D := h.below (hd.below _)

set_option maxHeartbeats 400000 in
theorem eqf_same (a b : Option Addr) (c d n : Nat) (D : List (List Int)) (w : World) (h1 : RowsI w a n c D) (h2 : RowsI w b n d D) (hs : ∀ x ∈ D, x.length ≤ 9223372036854775806) (hn : n ≤ 9223372036854775806) :
    Calls Try.prog 52 #[.slice a n c, .slice b n d, .func (.func 53) #[] #[]] w fun e w' => e = .returned (.bool true) ∧ Drew w w' := by
  have H1 := Kp.mk h1
  have H2 := Kp.mk h2
  have HL := Kp.mk h1.len
  have HS := Kp.mk hs
  have e1 : ((n : Int) != n) = false := by simp
  have eg := enters_of Try.func53 (by kernel_rfl) rfl
  clear h1 h2 hs
  go_enter Try.func52, Try.ntmps52
  go_wp2
  go_loopw [17] (fun i wr => ∃ k : Nat, k ≤ n ∧ i = .int .i64 k ∧ Kp (Drew w wr)) (fun i _ => n - (intOf i).toNat)
  case atStart => exact ⟨0, Nat.zero_le _, rfl, ⟨Drew.refl _⟩⟩
  case round =>
    obtain ⟨k, hk, rfl, HD⟩ := hrel
    by_cases hlt : k < n
    · obtain ⟨b1, o1, x1, y1, rfl, c1, s1⟩ := (rows_drew H1.out HD.out).at k (by rw [HL.out]; exact hlt)
      obtain ⟨b2, o2, x2, y2, rfl, c2, s2⟩ := (rows_drew H2.out HD.out).at k (by rw [HL.out]; exact hlt)
      have C := Kp.mk (eq1_same x1 x2 y1 y2 _ _ wr s1 s2 rfl (HS.out _ (List.getElem_mem _)))
      clear s1 s2
      generalize (D[k]'(by rw [HL.out]; exact hlt)).length = m at *
      go_wp2_with fail
      refine C.out.mono ?_
      rintro e w' ⟨rfl, hd⟩
      have HD2 := Kp.mk (HD.out.trans hd)
      clear hd
      go_wp2
      go_roundw
      case rel => exact ⟨k + 1, by omega, by go_num, HD2⟩
      case measure => simp [intOf]; omega
    · go_wp2
      go_ret
      exact ⟨rfl, HD.out⟩

set_option maxRecDepth 100000 in
set_option maxHeartbeats 1000000 in
theorem rtop_any (a : Option Addr) (cap n : Nat) (l : List Int) (ta : Option Addr) (tc x y : Nat) (w : World) (h : SlI w a cap l) (hl : l.length = n) (hn : n ≤ 300) (ht : RowsI w ta (lvl n) tc (rowsT l)) (hxy : x ≤ y) (hy : y < n) :
    Calls Try.prog 43 #[.slice a n cap, .slice ta (lvl n) tc, .int .i64 x, .int .i64 y] w (fun e w' => e = .returned (.tuple #[.int .i64 (tix l x (y + 1 - x) : Nat), .int .i64 0]) ∧ Below w.heap.size w w') := by
  have H := Kp.mk h
  have HL := Kp.mk hl
  have HT := Kp.mk ht
  have CM := Kp.mk (rmake_any a cap n l w h hl hn)
  have hlv := lvl_small n hn
  have hrl := Kp.mk (show ∀ r ∈ rowsT l, r.length ≤ 9223372036854775806 from fun r hr => by
    obtain ⟨k, _, rfl⟩ := List.mem_map.1 hr
    rw [rowT_length, hl]
    have := Nat.pow_pos (n := k) (show 0 < 2 by omega)
    omega)
  obtain ⟨m, hm⟩ : ∃ m, m = y + 1 - x := ⟨_, rfl⟩
  have hb1 := bitLen_lt m (by omega)
  have hb2 := bitLen_pred m (by omega)
  obtain ⟨k, hk⟩ : ∃ k, Lib.bitLen m = k + 1 := by
    cases hq : Lib.bitLen m with
    | zero => rw [hq] at hb1; simp at hb1; omega
    | succ k => exact ⟨k, rfl⟩
  have CL := Kp.mk (len_any m (by omega))
  rw [hk] at hb1 hb2 CL
  rw [Nat.add_sub_cancel] at hb2
  have hkl : k < lvl n := lvl_of n k (by omega)
  obtain ⟨p, hp⟩ : ∃ p, p = 2 ^ k := ⟨_, rfl⟩
  have hp0 : 0 < p := by rw [hp]; exact Nat.pow_pos (by omega)
  rw [← hp] at hb2
  rw [Nat.pow_succ, ← hp] at hb1
  have hj := Kp.mk (tix_join l x p (y + 1 - p) p m hp0 hp0 (by omega) (by omega) (by omega) (by omega))
  have b1 := tix_bd l x p hp0
  have b2 := tix_bd l (y + 1 - p) p hp0
  have hsh : IntKind.i64.wrap (2 ^ k) = (p : Int) := by
    rw [show ((2 : Int) ^ k) = ((2 ^ k : Nat) : Int) by push_cast; rfl, ← hp]
    exact IntWalk.i64_in _ (by omega)
  have HP := Kp.mk hp
  rw [← hm]
  have HM := Kp.mk hm
  clear h hl ht hk hp hm
  obtain ⟨K, hKK⟩ : ∃ K, K = lvl n := ⟨_, rfl⟩
  rw [← hKK] at HT CM hlv hkl ⊢
  have HKN := Kp.mk hKK.symm
  clear hKK
  have hmi : (y : Int) - x + 1 = m := by have := HM.out; omega
  go_enter Try.func43, Try.ntmps43
  go_wp2_with fail
  refine CM.out.mono ?_
  rintro e w1 ⟨oa, oc, rfl, hr, hb⟩
  have HR := Kp.mk hr
  have HT1 := Kp.mk (HT.out.below hb)
  have H1 := Kp.mk (H.out.below hb)
  have HB := Kp.mk hb
  clear hr hb CM
  go_wp2_with fail
  refine (eqf_same _ _ _ _ K (rowsT l) w1 HT1.out HR.out hrl.out (by omega)).mono ?_
  rintro e w2 ⟨rfl, hd⟩
  have HT2 := Kp.mk (rows_drew HT1.out hd)
  have H2 := Kp.mk (sl_drew H1.out hd)
  have HB2 := Kp.mk (HB.out.trans (hd.below _))
  clear hd HT1 H1 HR
  go_wp2_with fail
  refine (CL.out _).mono ?_
  rintro e w' ⟨rfl, rfl⟩
  obtain ⟨bt, ot, ra, rc, rfl, ct, hR⟩ := HT2.out.at k (by rw [rowsT_length, HL.out, HKN.out]; exact hkl)
  rw [rowsT_get] at ct hR
  have hq : (rowT l k).length = n + 1 - p := by rw [rowT_length, HL.out, ← HP.out]
  obtain ⟨bx, ox, rfl, cx⟩ := hR.at x (by omega)
  obtain ⟨by', oy, hb, cy⟩ := hR.at (y + 1 - p) (by omega)
  simp only [Option.some.injEq, Addr.mk.injEq, and_true] at hb
  obtain ⟨rfl, rfl⟩ := hb
  rw [rowT_get, ← HP.out] at cx cy
  rw [hq] at ct
  have hql := Kp.mk hq
  have CT := Kp.mk (fun w' hs => top_any a cap n (tix l x p) (tix l (y + 1 - p) p) l w' hs HL.out (by omega) (by omega) (by omega))
  rw [hj.out] at CT
  obtain ⟨q, hqq⟩ : ∃ q, q = n + 1 - p := ⟨_, rfl⟩
  rw [← hqq] at ct
  obtain ⟨z, hz⟩ : ∃ z, z = y + 1 - p := ⟨_, rfl⟩
  rw [← hz] at cy
  have i1 : (x : Int) < q := by omega
  have i2 : (z : Int) < q := by omega
  have i3 : (k : Int) < K := by omega
  have i4 : (y : Int) + 1 - p = z := by omega
  have s1 : IntKind.i64.wrap ((y : Int) + 1) = (y : Int) + 1 := IntWalk.i64_in _ (by omega)
  have s2 : IntKind.i64.wrap (z : Int) = z := IntWalk.i64_in _ (by omega)
  have HZ := Kp.mk hz
  rw [← hz] at CT
  clear hq hqq hz hR b1 b2 hrl HT
  generalize tix l x p = u at *
  generalize tix l z p = v at *
  go_wp2
  go_quiet ((go_at_call 51; exact q_drew (CT.out _ (sl_drew H2.out ⟨_, rfl⟩))))
  go_wp2
  go_ret2
  exact ⟨rfl, below_drewN HB2.out _⟩

end Go.Proofs.Ytnieacfleabikaa
