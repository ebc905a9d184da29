/- Package gam: the reader of bits. -/
import Derived.Test.YtjofajpcchncpaaGamPL
namespace Go.Proofs.Ytjofajpcchncpaa
set_option linter.unusedVariables false
open Go.RowKit

/-- The reader of a row of n bits at a place. -/
def Rd (w : World) (b n : Nat) (sa : Option Addr) (cap at' : Nat) : Prop := Box w b #[.int .i64 n, .slice sa (bwN n) cap, .int .i64 at', .int .i64 0] 81
def bv (N p : Nat) : Nat := if bitB N p then 1 else 0
theorem bv_one {N p : Nat} (h : bitB N p = true) : bv N p = 1 := by unfold bv; rw [h]; rfl
theorem bv_zero {N p : Nat} (h : bitB N p = false) : bv N p = 0 := by unfold bv; rw [h]; rfl
attribute [irreducible] bv

theorem box_set {w : World} {b : Nat} {cs : Array Value} {t : TypeId} (h : Box w b cs t) (i : Nat) (v : Value) : Box (w.setCell ⟨b, i, none⟩ v) b (cs.setIfInBounds i v) t := heap_setCell_same w b i cs t v h
theorem later_cell {w : World} {b o : Nat} {v : Value} (h : w.cell? ⟨b, o, none⟩ = some v) : ∀ x : Later w, x.val.cell? ⟨b, o, none⟩ = some v := fun x => by
  rw [x.le.cell (p := ⟨b, o, none⟩) (World.block_lt_of_cell? w _ h)]; exact h

set_option maxHeartbeats 1000000 in
theorem gbit_any (b B n cap p N : Nat) (sa : Option Addr) (w : World) (hR : Rd w b n sa cap p) (hO : w.ownsRow B 78 1 (.slice sa (bwN n) cap) (bwN n) (wds (wordsOf N (bwN n)))) (hn : n ≤ 4096) (hp : p < n) (hN : N < 2 ^ n) :
    Calls Try.prog 66 #[.pointer (some ⟨b, 0, none⟩)] w (fun e w' => e = .returned (.int .i64 (bv N p : Nat)) ∧ Rd w' b n sa cap (p + 1) ∧ w.grownBy w' (some b)) := by
  have HR := Kp.mk hR
  have HO := Kp.mk hO
  have HN := Kp.mk hN
  have r0 := later_cell (hR.cell 0 rfl)
  have r1 := later_cell (hR.cell 1 rfl)
  have r2 := later_cell (hR.cell 2 rfl)
  have r3 : w.cell? ⟨b, 3, none⟩ = some (.int .i64 0) := hR.cell 3 rfl
  have C := Kp.mk (fun x : Later w => bat_ok B sa (bwN n) cap n p N x.val rfl (own_below HO.out x.le) hn hp HN.out)
  simp only [List.getElem_toArray, List.getElem_cons_zero, List.getElem_cons_succ] at r0 r1 r2
  clear hR hO hN
  go_enter Try.func66, Try.ntmps66
  go_wp2
  refine region_later (by kernel_rfl) (by kernel_rfl) ?_
  repeat (quiet_step ((go_at_call 33; exact q_later (C.out _))))
  refine wpQuiet_nil ?_
  rintro w' ⟨xl, rfl⟩
  have hB := HR.out.below xl.le
  have q2 := r2 xl
  have f2 : xl.val.frozen? ⟨b, 2, none⟩ = false := hB.free 2
  have hset := Kp.mk (box_set hB 2 (.int .i64 ((p : Int) + 1)))
  have hgr := Kp.mk (grown_trans (grown_of_below (r := some b) xl.le) (grown_set xl.val b 2 (.int .i64 ((p : Int) + 1))))
  clear hB r0 r1 r2 r3 C
  cases hb : bitB N p with
  | true =>
    have e1 := Kp.mk (bv_one hb)
    clear hb
    go_wp2
    go_ret
    exact ⟨by rw [e1.out]; rfl, hset.out, hgr.out⟩
  | false =>
    have e1 := Kp.mk (bv_zero hb)
    clear hb
    go_wp2
    go_ret
    exact ⟨by rw [e1.out]; rfl, hset.out, hgr.out⟩

theorem own_below' {w w' : World} {B r e size n m c : Nat} {a : Option Addr} {xs : List Value} (h : w.ownsRow B e size (.slice a m c) n xs) (hb : Below r w w') (hlt : ∀ k, blk a = some k → k < r) : w'.ownsRow B e size (.slice a m c) n xs := by
  refine ⟨h.1, ?_⟩
  rcases h.2 with h | ⟨g, cap, cur, hv, hB, hg, h1, h2, h3, h4⟩
  · exact .inl h
  · refine .inr ⟨g, cap, cur, hv, hB, ?_, h1, h2, h3, h4⟩
    simp only [Value.slice.injEq] at hv
    rw [hb.block g (hlt g (by rw [hv.1]; rfl))]; exact hg

/-- A number of so many bits behind a 1. -/
theorem num_step (m K j : Nat) (h : j < K) : bv m (K - 1 - j) + m / 2 ^ (K - j) * 2 ^ 1 = m / 2 ^ (K - (j + 1)) := by
  have e : K - j = (K - (j + 1)) + 1 := by omega
  rw [e, Nat.pow_succ, ← Nat.div_div_eq_div_mul, show K - 1 - j = K - (j + 1) by omega]
  have hb : bv m (K - (j + 1)) = m / 2 ^ (K - (j + 1)) % 2 := by
    cases hb : bitB m (K - (j + 1)) with
    | true =>
      rw [bv_one hb]
      unfold bitB at hb
      exact (by simpa using hb : _ = 1).symm
    | false =>
      rw [bv_zero hb]
      unfold bitB at hb
      have := Nat.mod_two_eq_zero_or_one (m / 2 ^ (K - (j + 1)))
      rcases this with h | h
      · exact h.symm
      · rw [h] at hb; cases hb
  rw [hb]; omega
theorem bv_le (N p : Nat) : bv N p ≤ 1 := by unfold bv; split <;> omega
theorem bv_eq {N M p q : Nat} (h : bitB N p = bitB M q) : bv N p = bv M q := by unfold bv; rw [h]
theorem or_bit (v y : Nat) (hv : v ≤ 1048576) (hy : y ≤ 1) : bits .or .i64 ((v : Int) * 2) (y : Int) = ((y + v * 2 ^ 1 : Nat) : Int) := by
  have h := i64_or_nat (v * 2) y (by omega) (by omega)
  rw [show ((v : Int) * 2) = ((v * 2 : Nat) : Int) by push_cast; rfl, h, add_or y v 1 (by omega), Nat.or_comm]

set_option maxHeartbeats 1000000 in
theorem gnumber_any (b B n cap p N K m : Nat) (sa : Option Addr) (w : World) (hR : Rd w b n sa cap p) (hO : w.ownsRow B 78 1 (.slice sa (bwN n) cap) (bwN n) (wds (wordsOf N (bwN n)))) (hn : n ≤ 4096) (hN : N < 2 ^ n) (hne : blk sa ≠ some b) (hK : K ≤ 20) (hp : p + K ≤ n) (hm : m ≤ 1048576) (htop : m / 2 ^ K = 1) (hbits : ∀ i, i < K → bitB N (p + i) = bitB m (K - 1 - i)) :
    Calls Try.prog 67 #[.pointer (some ⟨b, 0, none⟩), .int .i64 K] w (fun e w' => e = .returned (.int .i64 m) ∧ Rd w' b n sa cap (p + K) ∧ w.grownBy w' (some b)) := by
  have HR := Kp.mk hR
  have HO := Kp.mk hO
  have HN := Kp.mk hN
  have HNE := Kp.mk hne
  have HT := Kp.mk htop
  have HBI := Kp.mk hbits
  clear hR hO hN hne htop hbits
  go_enter Try.func67, Try.ntmps67
  go_wp2
  go_loopw [5, 7] (fun v i wr => ∃ j : Nat, j ≤ K ∧ i = .int .i64 j ∧ v = .int .i64 (m / 2 ^ (K - j) : Nat) ∧ Rd wr b n sa cap (p + j) ∧ w.grownBy wr (some b)) (fun _ i _ => K - (intOf i).toNat)
  case atStart => exact ⟨0, Nat.zero_le _, rfl, by rw [Nat.sub_zero, HT.out]; rfl, HR.out, grown_refl _ _⟩
  case round =>
    obtain ⟨j, hj, rfl, rfl, hR, hgr⟩ := hrel
    have HRJ := Kp.mk hR
    have HG := Kp.mk hgr
    have hv : m / 2 ^ (K - j) ≤ m := Nat.div_le_self _ _
    clear hR hgr
    by_cases hlt : j < K
    · have C := Kp.mk (gbit_any b B n cap (p + j) N sa wr HRJ.out (own_keep HO.out HG.out (fun k hk => by cases hk; exact HNE.out)) hn (by omega) HN.out)
      have hst := Kp.mk (num_step m K j hlt)
      rw [← bv_eq (HBI.out j hlt)] at hst
      have hy := bv_le N (p + j)
      generalize bv N (p + j) = y at *
      generalize m / 2 ^ (K - j) = v at *
      have ho := or_bit v y (by omega) hy
      rw [hst.out] at ho
      have hv2 : m / 2 ^ (K - (j + 1)) ≤ m := Nat.div_le_self _ _
      generalize hqe : m / 2 ^ (K - (j + 1)) = q at *
      have HQE := Kp.mk hqe
      clear hqe hst
      go_wp2_with fail
      refine C.out.mono ?_
      rintro e wa ⟨rfl, hRa, hga⟩
      have HRA := Kp.mk hRa
      have HGA := Kp.mk (grown_trans HG.out hga)
      clear hRa hga C
      go_wp2
      go_roundw
      case rel => exact ⟨j + 1, by omega, by go_num, by rw [HQE.out], HRA.out, HGA.out⟩
      case measure => simp [intOf]; omega
    · obtain rfl : j = K := by omega
      have e1 : Kp (m / 2 ^ (j - j) = m) := ⟨by rw [Nat.sub_self, Nat.pow_zero, Nat.div_one]⟩
      rw [e1.out]
      go_wp2
      go_ret
      exact ⟨rfl, HRJ.out, HG.out⟩

/-- The bits of a list stand from a place on. -/
def Stands (N p : Nat) (c : List Bool) : Prop := ∀ i (h : i < c.length), bitB N (p + i) = c[i]
theorem Stands.left {N p : Nat} {c d : List Bool} (h : Stands N p (c ++ d)) : Stands N p c := fun i hi => by
  have := h i (by rw [List.length_append]; omega)
  rw [this, List.getElem_append_left hi]
theorem Stands.right {N p : Nat} {c d : List Bool} (h : Stands N p (c ++ d)) : Stands N (p + c.length) d := fun i hi => by
  have := h (c.length + i) (by rw [List.length_append]; omega)
  rw [Nat.add_assoc, this, List.getElem_append_right (by omega)]
  congr 1; omega
theorem stands_bin {N p m K j : Nat} (h : Stands N p (binP m K j)) (i : Nat) (hi : i < j) : bitB N (p + i) = bitB m (K - 1 - i) := by
  have h1 := h i (by rw [binP_length]; exact hi)
  have h2 := binP_get m K j i hi
  rw [List.getElem?_eq_getElem (by rw [binP_length]; exact hi)] at h2
  rw [h1]
  simpa using h2
theorem top_div (m K : Nat) (h : 0 < m) (h2 : m < 2 ^ 64) (hK : Lib.bitLen m = K + 1) : m / 2 ^ K = 1 := by
  have h3 := bitLen_lt m h2
  have h4 := bitLen_pred m (by omega)
  rw [hK] at h3 h4
  rw [Nat.add_sub_cancel] at h4
  rw [Nat.pow_succ] at h3
  apply Nat.div_eq_of_lt_le <;> omega
theorem stands_gam {N p m K : Nat} (hm : 0 < m) (h2 : m < 2 ^ 64) (hK : Lib.bitLen m = K + 1) (h : Stands N p (gamL m)) :
    (∀ i, i < K → bitB N (p + i) = false) ∧ bitB N (p + K) = true ∧ ∀ i, i < K → bitB N (p + K + 1 + i) = bitB m (K - 1 - i) := by
  rw [gamL_def, hK, Nat.add_sub_cancel] at h
  have h1 := h.left
  have h3 := h.right
  rw [List.length_replicate] at h3
  have ht := top_bit m hm h2
  rw [hK, Nat.add_sub_cancel] at ht
  refine ⟨fun i hi => ?_, ?_, fun i hi => ?_⟩
  · have := h1 i (by rw [List.length_replicate]; exact hi)
    rw [this, List.getElem_replicate]
  · have := stands_bin h3 0 (by omega)
    rw [Nat.add_zero] at this
    rw [this]; simpa using ht
  · have := stands_bin h3 (1 + i) (by omega)
    rw [← Nat.add_assoc] at this
    rw [this]; congr 1; omega

set_option maxRecDepth 100000 in
set_option maxHeartbeats 1000000 in
theorem gnext_gam (b B n cap p N m : Nat) (sa : Option Addr) (w : World) (hR : Rd w b n sa cap p) (hO : w.ownsRow B 78 1 (.slice sa (bwN n) cap) (bwN n) (wds (wordsOf N (bwN n)))) (hn : n ≤ 4096) (hN : N < 2 ^ n) (hne : blk sa ≠ some b) (hm0 : 0 < m) (hm : m ≤ 1048576) (hs : Stands N p (gamL m)) (hp : p + (gamL m).length ≤ n) :
    Calls Try.prog 54 #[.pointer (some ⟨b, 0, none⟩), .int .i64 1] w (fun e w' => e = .returned (.int .i64 m) ∧ Rd w' b n sa cap (p + (gamL m).length) ∧ w.grownBy w' (some b)) := by
  have hbl := Lib.bitLen_le m 21 (by omega) (by omega)
  have hbp := bitLen_pos m hm0 (by omega)
  have hgl := gamL_length m hm0 (by omega)
  obtain ⟨K, hK⟩ : ∃ K, Lib.bitLen m = K + 1 := ⟨Lib.bitLen m - 1, by omega⟩
  obtain ⟨s1, s2, s3⟩ := stands_gam hm0 (by omega) hK hs
  have ht := Kp.mk (top_div m K hm0 (by omega) hK)
  have hgl2 : (gamL m).length = K + 1 + K := by omega
  rw [hgl2] at hp ⊢
  have hK20 : K ≤ 20 := by omega
  have S1 := Kp.mk s1
  have S2 := Kp.mk s2
  have S3 := Kp.mk s3
  have HR := Kp.mk hR
  have HO := Kp.mk hO
  have HN := Kp.mk hN
  have HNE := Kp.mk hne
  clear s1 s2 s3 hR hO hN hne hs hgl hgl2 hK hbl hbp
  go_enter Try.func54, Try.ntmps54
  go_wp2
  go_loopw [5] (fun v wr => ∃ j : Nat, j ≤ K ∧ v = .int .i64 j ∧ Rd wr b n sa cap (p + j) ∧ w.grownBy wr (some b)) (fun v _ => K - (intOf v).toNat)
  case atStart => exact ⟨0, Nat.zero_le _, rfl, HR.out, grown_refl _ _⟩
  case round =>
    obtain ⟨j, hj, rfl, hR, hgr⟩ := hrel
    have HRJ := Kp.mk hR
    have HG := Kp.mk hgr
    clear hR hgr
    have C := Kp.mk (gbit_any b B n cap (p + j) N sa wr HRJ.out (own_keep HO.out HG.out (fun k hk => by cases hk; exact HNE.out)) hn (by omega) HN.out)
    by_cases hlt : j < K
    · rw [bv_zero (S1.out j hlt)] at C
      go_wp2_with fail
      refine C.out.mono ?_
      rintro e wa ⟨rfl, hRa, hga⟩
      have HRA := Kp.mk hRa
      have HGA := Kp.mk (grown_trans HG.out hga)
      have r3 : wa.cell? ⟨b, 3, none⟩ = some (.int .i64 0) := hRa.cell 3 rfl
      clear hRa hga C
      go_wp2
      go_roundw
      case rel => exact ⟨j + 1, by omega, by go_num, HRA.out, HGA.out⟩
      case measure => simp [intOf]; omega
    · obtain rfl : j = K := by omega
      rw [bv_one S2.out] at C
      go_wp2_with fail
      refine C.out.mono ?_
      rintro e wa ⟨rfl, hRa, hga⟩
      have HRA := Kp.mk hRa
      have HGA := Kp.mk (grown_trans HG.out hga)
      have r3 : wa.cell? ⟨b, 3, none⟩ = some (.int .i64 0) := hRa.cell 3 rfl
      have C2 := Kp.mk (gnumber_any b B n cap (p + j + 1) N j m sa wa HRA.out (own_keep HO.out HGA.out (fun k hk => by cases hk; exact HNE.out)) hn HN.out HNE.out hK20 (by omega) hm ht.out S3.out)
      clear hRa hga C
      go_wp2_with fail
      refine C2.out.mono ?_
      rintro e wb ⟨rfl, hRb, hgb⟩
      have HRB := Kp.mk hRb
      have HGB := Kp.mk (grown_trans HGA.out hgb)
      have r4 : wb.cell? ⟨b, 3, none⟩ = some (.int .i64 0) := hRb.cell 3 rfl
      clear hRb hgb C2 r3
      go_wp2
      go_ret
      refine ⟨rfl, ?_, HGB.out⟩
      have h9 := HRB.out
      rwa [show p + j + 1 + j = p + (j + 1 + j) by omega] at h9

set_option maxRecDepth 100000 in
set_option maxHeartbeats 1000000 in
theorem gnext_del (b B n cap p N m : Nat) (sa : Option Addr) (w : World) (hR : Rd w b n sa cap p) (hO : w.ownsRow B 78 1 (.slice sa (bwN n) cap) (bwN n) (wds (wordsOf N (bwN n)))) (hn : n ≤ 4096) (hN : N < 2 ^ n) (hne : blk sa ≠ some b) (hm0 : 0 < m) (hm : m ≤ 1048576) (hs : Stands N p (delL m)) (hp : p + (delL m).length ≤ n) :
    Calls Try.prog 54 #[.pointer (some ⟨b, 0, none⟩), .int .i64 2] w (fun e w' => e = .returned (.int .i64 m) ∧ Rd w' b n sa cap (p + (delL m).length) ∧ w.grownBy w' (some b)) := by
  have hbl := Lib.bitLen_le m 21 (by omega) (by omega)
  have hbp := bitLen_pos m hm0 (by omega)
  obtain ⟨K, hK⟩ : ∃ K, Lib.bitLen m = K + 1 := ⟨Lib.bitLen m - 1, by omega⟩
  rw [delL_def, hK, Nat.add_sub_cancel] at hs hp ⊢
  rw [List.length_append, binP_length] at hp ⊢
  have ht := Kp.mk (top_div m K hm0 (by omega) hK)
  have hK20 : K ≤ 20 := by omega
  have C := Kp.mk (gnext_gam b B n cap p N (K + 1) sa w hR hO hn hN hne (by omega) (by omega) hs.left (by omega))
  have S3 := Kp.mk (fun i hi => stands_bin hs.right i hi)
  obtain ⟨g, hg⟩ : ∃ g, (gamL (K + 1)).length = g := ⟨_, rfl⟩
  rw [hg] at C S3 hp ⊢
  have HO := Kp.mk hO
  have HN := Kp.mk hN
  have HNE := Kp.mk hne
  clear hR hO hN hne hs hg hK hbl hbp
  go_enter Try.func54, Try.ntmps54
  go_wp2_with fail
  refine C.out.mono ?_
  rintro e wa ⟨rfl, hRa, hga⟩
  have HRA := Kp.mk hRa
  have HGA := Kp.mk hga
  have r3 : wa.cell? ⟨b, 3, none⟩ = some (.int .i64 0) := hRa.cell 3 rfl
  have C2 := Kp.mk (gnumber_any b B n cap (p + g) N K m sa wa HRA.out (own_keep HO.out HGA.out (fun k hk => by cases hk; exact HNE.out)) hn HN.out HNE.out hK20 (by omega) hm ht.out S3.out)
  clear hRa hga C
  go_wp2_with fail
  refine C2.out.mono ?_
  rintro e wb ⟨rfl, hRb, hgb⟩
  have HRB := Kp.mk hRb
  have HGB := Kp.mk (grown_trans HGA.out hgb)
  have r4 : wb.cell? ⟨b, 3, none⟩ = some (.int .i64 0) := hRb.cell 3 rfl
  clear hRb hgb C2 r3
  go_wp2
  go_ret
  refine ⟨rfl, ?_, HGB.out⟩
  have h9 := HRB.out
  rwa [Nat.add_assoc] at h9

theorem gnext_any (k b B n cap p N m : Nat) (sa : Option Addr) (w : World) (hk : k = 1 ∨ k = 2) (hR : Rd w b n sa cap p) (hO : w.ownsRow B 78 1 (.slice sa (bwN n) cap) (bwN n) (wds (wordsOf N (bwN n)))) (hn : n ≤ 4096) (hN : N < 2 ^ n) (hne : blk sa ≠ some b) (hm0 : 0 < m) (hm : m ≤ 1048576) (hs : Stands N p (codeL k m)) (hp : p + (codeL k m).length ≤ n) :
    Calls Try.prog 54 #[.pointer (some ⟨b, 0, none⟩), .int .i64 k] w (fun e w' => e = .returned (.int .i64 m) ∧ Rd w' b n sa cap (p + (codeL k m).length) ∧ w.grownBy w' (some b)) := by
  unfold codeL at *
  rcases hk with rfl | rfl
  · exact gnext_gam b B n cap p N m sa w hR hO hn hN hne hm0 hm hs hp
  · exact gnext_del b B n cap p N m sa w hR hO hn hN hne hm0 hm hs hp

end Go.Proofs.Ytjofajpcchncpaa
