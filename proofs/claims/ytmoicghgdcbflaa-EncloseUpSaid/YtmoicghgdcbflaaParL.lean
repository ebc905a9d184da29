/- The walk of MatchTwice. -/
import Derived.Test.YtmoicghgdcbflaaBrk
namespace Go.Proofs.Ytmoicghgdcbflaa
set_option linter.unusedVariables false
open Go.RowKit

theorem bal_wrap {b : List Bool} (h : Bal b) : Bal ([true] ++ b ++ [false]) := by
  have e1 : Opn ([true] ++ b) 1 := by
    have e2 : ht [true] 1 = 1 := by decide
    have hA : ∀ i, i ≤ b.length → ht ([true] ++ b) (1 + i) = 1 + ht b i := fun i hi => by
      have := ht_append2 [true] b i hi
      rw [List.length_singleton, e2] at this
      exact this
    refine ⟨fun i hi => ?_, ?_⟩
    · cases i with
      | zero => rw [ht_zero]; omega
      | succ i =>
        simp at hi
        rw [Nat.add_comm i 1, hA i (by omega)]
        have := h.1 i (by omega); omega
    · rw [List.length_append, List.length_singleton, hA _ (Nat.le_refl _), h.2]; rfl
  have := opn_shut e1
  exact ⟨this.1, this.2⟩
theorem str_wrap {s : ByteArray} {b : List Bool} (hs : s.data.toList = enc b) : ((⟨#[40]⟩ ++ s) ++ ⟨#[41]⟩ : ByteArray).data.toList = enc ([true] ++ b ++ [false]) := by
  rw [ByteArray.data_append, ByteArray.data_append, Array.toList_append, Array.toList_append, hs]
  simp [enc]
theorem part_inj {b : List Bool} {k q k' : Nat} (h : Part b k q) (h' : Part b q k') : k' = k := by
  rcases h with h | h
  · rcases h' with h' | h'
    · exact absurd rfl (pair_apart h' h)
    · exact ((pair_inj h h' (.inr rfl)).1).symm
  · rcases h' with h' | h'
    · exact ((pair_inj h h' (.inl rfl)).2).symm
    · exact absurd rfl (pair_apart h h')
theorem enc_extract {s : ByteArray} {b : List Bool} (hs : s.data.toList = enc b) (i j : Nat) : (s.extract i j).data.toList = enc ((b.take j).drop i) := by
  rw [ByteArray.data_extract, Array.toList_extract, List.extract_eq_take_drop, hs]
  simp only [enc, List.map_drop, List.map_take, List.drop_take]

theorem below_step2 {w w1 w2 : World} (h : Below w.heap.size w w1) (hb : Below w1.heap.size w1 w2) : Below w.heap.size w w2 := h.trans (hb.mono h.size)

set_option maxHeartbeats 1000000 in
theorem walk_MatchTwice (a0 : Option Addr) (len0 cap0 : Nat) (z0 : List Int) (a1 : Int) (w : World) (w0 : IsRow .i64 w a0 len0 cap0 z0) (w1 : (Lit.int .i64 a1).wf = true) :
    Calls Try.prog 9 #[.slice a0 len0 cap0, .int .i64 a1] w fun e w' => e = .returned (.bool true) ∧ Below w.heap.size w w' := by
  obtain ⟨l, rfl, hl, wl, nl⟩ := row_sl w0
  obtain ⟨b1, b2⟩ := wf_bd w1
  have HB := Kp.mk (brackets_any a0 cap0 l w hl (by unfold maxLen at nl; omega) wl)
  clear w0 w1 hl wl
  go_enter Try.func9, Try.ntmps9
  go_wp2_with fail
  refine HB.out.mono ?_
  rintro e wa ⟨r, b, rfl, hr, hb, hbl, hbel⟩
  have hrs : r.size ≤ 120 := by rw [str_size hr]; omega
  have hs := Kp.mk (str_wrap hr)
  have hB := Kp.mk (bal_wrap hb)
  have hsz := str_size hs.out
  have hBl : ([true] ++ b ++ [false]).length = b.length + 2 := by simp
  rw [hBl] at hsz
  obtain ⟨n, hn⟩ : ∃ n, n = b.length + 2 := ⟨_, rfl⟩
  rw [← hn] at hBl hsz
  have hn2 : 2 ≤ n := by omega
  have hn122 : n ≤ 122 := by omega
  have HBL := Kp.mk hBl
  clear hr hb hBl
  generalize [true] ++ b ++ [false] = c at *
  have hpb := pick_bd a1 n (by omega)
  obtain ⟨k, hk⟩ : ∃ q : Nat, pick a1 n = q := ⟨_, (Int.toNat_of_nonneg hpb.1).symm⟩
  have HK := Kp.mk hk
  have hkn : k < n := by omega
  clear hpb hk hn hbl
  go_wp2_with fail
  refine (picked_any a1 n _ (by omega) (by omega) b1 b2).mono ?_
  rintro e w' ⟨rfl, rfl⟩
  rw [HK.out]
  generalize ({ data := #[40] } ++ r ++ { data := #[41] } : ByteArray) = s at *
  go_wp2_with fail
  refine (match_any s c n k wa hs.out HBL.out (by omega) hB.out hkn).mono ?_
  rintro e wb ⟨q, rfl, hP, hbel2⟩
  have hqn : q < n := by rw [← HBL.out]; rcases hP with h | h <;> have := h.1 <;> have := h.2.1 <;> omega
  have HP := Kp.mk hP
  have hbel3 := Kp.mk (below_step2 hbel hbel2)
  clear hP hbel hbel2 hrs
  go_wp2_with fail
  refine (match_any s c n q wb hs.out HBL.out (by omega) hB.out hqn).mono ?_
  rintro e wc ⟨k', rfl, hP, hbel2⟩
  have hkk : k' = k := part_inj HP.out hP
  subst hkk
  have hbel4 := Kp.mk (below_step2 hbel3.out hbel2)
  clear hP hbel2 hbel3
  obtain ⟨lo, hi, hPr, hor⟩ : ∃ lo hi, Pair c lo hi ∧ ((k' = lo ∧ q = hi) ∨ (k' = hi ∧ q = lo)) := by
    rcases HP.out with h | h
    · exact ⟨k', q, h, .inl ⟨rfl, rfl⟩⟩
    · exact ⟨q, k', h, .inr ⟨rfl, rfl⟩⟩
  have hlh : lo < hi := hPr.1
  have hhn : hi < n := by rw [← HBL.out]; exact hPr.2.1
  have x1 := str_at hs.out lo true 40 (by have := hPr.2.2.1; have h := HBL.out; simpa [show lo < c.length by omega] using this) rfl
  have x2 := str_at hs.out hi false 41 (by have := hPr.2.2.2.1; have h := HBL.out; simpa [show hi < c.length by omega] using this) rfl
  obtain ⟨t, ht⟩ : ∃ t, t = s.extract 0 lo ++ s.extract (hi + 1) n := ⟨_, rfl⟩
  have htl : Kp (t.data.toList = enc (c.take lo ++ c.drop (hi + 1))) := ⟨by
    rw [ht, ByteArray.data_append, Array.toList_append, enc_extract hs.out, enc_extract hs.out]
    rw [List.drop_zero, show c.take n = c from List.take_of_length_le (by rw [HBL.out]; exact Nat.le_refl _)]
    simp [enc]⟩
  have hadd : ∀ W, (Op.stringOp .add (s.extract 0 lo) (s.extract (hi + 1) n)).run Try.prog W = .ok (.string t) W := fun W => by
    rw [run_string_add_sum W _ _ (by rw [ByteArray.size_extract, ByteArray.size_extract]; omega), ht]
  have q1 : Kp (∀ W, Calls Try.prog 31 #[.string (s.extract (lo + 1) hi)] W (fun e w' => e = .returned (.int .i64 0) ∧ Below W.heap.size W w')) := ⟨fun W =>
    pcheck_any _ _ W (enc_extract hs.out (lo + 1) hi) (by have h := HBL.out; simp; omega) (pair_inside hPr)⟩
  have q2 : Kp (∀ W, Calls Try.prog 31 #[.string t] W (fun e w' => e = .returned (.int .i64 0) ∧ Below W.heap.size W w')) := ⟨fun W =>
    pcheck_any t _ W htl.out (by have h := HBL.out; simp; omega) (pair_outside hB.out hPr)⟩
  have q3 : Kp (∀ W, Calls Try.prog 31 #[.string ⟨#[41, 40]⟩] W (fun e w' => e = .returned (.int .i64 4) ∧ Below W.heap.size W w')) := ⟨fun W =>
    pcheck_bad ⟨#[41, 40]⟩ 2 W rfl (by omega) (by omega) (fun W => by
      rw [show (0 : Int) = ((0 : Nat) : Int) from rfl]
      exact str_at (b := [false, true]) rfl 0 false 41 rfl rfl W)⟩
  have HPR := Kp.mk hPr
  clear hPr ht
  rcases hor with ⟨e1, e2⟩ | ⟨e1, e2⟩
  all_goals
    have f1 := e1.symm
    have f2 := e2.symm
    clear e1 e2
    subst f1
    subst f2
    have z1 : IntKind.i64.wrap ((lo : Int) + 1) = (lo : Int) + 1 := IntWalk.i64_in _ (by omega)
    have z2 : IntKind.i64.wrap ((hi : Int) + 1) = (hi : Int) + 1 := IntWalk.i64_in _ (by omega)
    have z3 : ((lo : Int) + 1).toNat = lo + 1 := by omega
    have z4 : ((hi : Int) + 1).toNat = hi + 1 := by omega
    have z5 : (0 : Int) ≤ (lo : Int) + 1 := by omega
    have z6 : (0 : Int) ≤ (hi : Int) + 1 := by omega
    have z7 : (lo : Int) + 1 ≤ hi := by omega
    have z8 : (hi : Int) + 1 ≤ n := by omega
    have z9 : (lo : Int) ≤ n := by omega
    have z10 : (hi : Int) ≤ n := by omega
    have y1 : ((lo : Int) == lo) = true := by simp
    have y2 : ((hi : Int) == hi) = true := by simp
    go_wp2
    refine region_later (by kernel_rfl) (by kernel_rfl) ?_
    repeat (quiet_step ((go_at_call 31; first | with_reducible exact q_later (q1.out _)  | with_reducible exact q_later (q2.out _) | with_reducible exact q_later (q3.out _))))
    refine wpQuiet_nil ?_
    rintro w' ⟨xl, rfl⟩
    clear z1 z2 z3 z4 hadd x1 x2
    go_wp2
    go_ret
    exact ⟨rfl, below_step2 hbel4.out xl.le⟩

end Go.Proofs.Ytmoicghgdcbflaa
