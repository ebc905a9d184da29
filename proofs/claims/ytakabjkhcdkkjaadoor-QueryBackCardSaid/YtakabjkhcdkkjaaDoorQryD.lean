/- The parser: numbers. -/
import Derived.Test.YtakabjkhcdkkjaaDoorQryL
import Derived.Test.YtakabjkhcdkkjaaDoorQryT
import Derived.Lib.AtoiErrMem
namespace Go.Proofs.YtakabjkhcdkkjaaDoor
set_option linter.unusedVariables false
open Go.RowKit Qk

theorem atoi_dig : ∀ i : Fin 10, Lib.atoi [UInt8.ofNat (48 + i.val)] = some (i.val : Int) ∧ UInt8.ofNat (48 + i.val) ≠ 45 := by decide
theorem atoi_dig2 : ∀ i : Fin 100, 10 ≤ i.val → Lib.atoi [UInt8.ofNat (48 + i.val / 10), UInt8.ofNat (48 + i.val % 10)] = some (i.val : Int) ∧ UInt8.ofNat (48 + i.val / 10) ≠ 45 := by decide
theorem atoi_neg : ∀ i : Fin 10, 1 ≤ i.val → Lib.atoi [45, UInt8.ofNat (48 + i.val)] = some (-(i.val : Int)) := by decide
/-- Small numbers come back from their numerals. -/
theorem itoa_back {n : Int} (h1 : -10 < n) (h2 : n < 100) : ∃ c r, Lib.itoa n = c :: r ∧ r.length ≤ 1 ∧ Lib.atoi (Lib.itoa n) = some n := by
  rcases Int.lt_or_le n 0 with h | h
  · obtain ⟨u, rfl⟩ : ∃ u : Nat, n = -(u : Int) := ⟨n.natAbs, by omega⟩
    rw [Lib.itoa_neg u (by omega), Lib.decDigits_one (by omega)]
    exact ⟨_, _, rfl, by simp, atoi_neg ⟨u, by omega⟩ (by show 1 ≤ u; omega)⟩
  · obtain ⟨u, rfl⟩ : ∃ u : Nat, n = (u : Int) := ⟨n.toNat, by omega⟩
    rw [Lib.itoa_nonneg]
    by_cases h3 : u < 10
    · rw [Lib.decDigits_one h3]
      exact ⟨_, _, rfl, by simp, (atoi_dig ⟨u, h3⟩).1⟩
    · rw [Lib.decDigits_two h3 (by omega)]
      exact ⟨_, _, rfl, by simp, (atoi_dig2 ⟨u, by omega⟩ (by show 10 ≤ u; omega)).1⟩
theorem ext_one (c : UInt8) (r : List UInt8) : (⟨(c :: r).toArray⟩ : ByteArray).extract 0 1 = ⟨#[c]⟩ := by
  apply ByteArray.ext
  simp [ByteArray.extract, ByteArray.copySlice]
theorem ext_tail (c : UInt8) (r : List UInt8) : (⟨(c :: r).toArray⟩ : ByteArray).extract 1 (r.length + 1) = ⟨r.toArray⟩ := by
  apply ByteArray.ext
  simp [ByteArray.extract, ByteArray.copySlice]

set_option maxHeartbeats 1000000 in
theorem hasPrefix_any (c : UInt8) (r : List UInt8) (hr : r.length ≤ 100) (w : World) : Calls Tryd.prog 58 #[str (c :: r), str [45]] w fun e w' => e = .returned (.bool (c == 45)) ∧ w = w' := by
  have h1 := ext_one c r
  have hs : (⟨(c :: r).toArray⟩ : ByteArray).size = r.length + 1 := by show (c :: r).toArray.size = _; simp
  have hz : (1 : Int) ≤ (r.length : Int) + 1 := by omega
  go_enter Tryd.func58, Tryd.ntmps58
  go_wp2
  go_ret
  exact ⟨rfl, rfl⟩

set_option maxHeartbeats 1000000 in
theorem trimIn_any (c : UInt8) (r : List UInt8) (hr : r.length ≤ 100) (w : World) : Calls Tryd.prog 50 #[str (c :: r), str [45]] w fun e w' => e = .returned (str (if c = 45 then r else c :: r)) ∧ w = w' := by
  have h1 := ext_tail c r
  have hs : (⟨(c :: r).toArray⟩ : ByteArray).size = r.length + 1 := by show (c :: r).toArray.size = _; simp
  have hz : (1 : Int) ≤ (r.length : Int) + 1 := by omega
  have C := Kp.mk (fun W => hasPrefix_any c r hr W)
  by_cases hc : c = 45
  · rw [if_pos hc]
    rw [show (c == 45) = true from beq_iff_eq.2 hc] at C
    clear hc
    go_enter Tryd.func50, Tryd.ntmps50
    go_wp2_with ((go_at_call 58; refine (C.out _).mono ?_; rintro e w' ⟨rfl, rfl⟩))
    go_ret
    exact ⟨rfl, rfl⟩
  · rw [if_neg hc]
    rw [show (c == 45) = false by rw [beq_eq_false_iff_ne]; exact hc] at C
    clear hc
    go_enter Tryd.func50, Tryd.ntmps50
    go_wp2_with ((go_at_call 58; refine (C.out _).mono ?_; rintro e w' ⟨rfl, rfl⟩))
    go_ret
    exact ⟨rfl, rfl⟩
set_option maxHeartbeats 1000000 in
theorem trim_any (c : UInt8) (r : List UInt8) (hr : r.length ≤ 100) (w : World) : Calls Tryd.prog 42 #[str (c :: r), str [45]] w fun e w' => e = .returned (str (if c = 45 then r else c :: r)) ∧ w = w' := by
  have C := Kp.mk (fun W => trimIn_any c r hr W)
  generalize (if c = 45 then r else c :: r) = t at *
  go_enter Tryd.func42, Tryd.ntmps42
  go_wp2_with ((go_at_call 50; refine (C.out _).mono ?_; rintro e w' ⟨rfl, rfl⟩))
  go_ret
  exact ⟨rfl, rfl⟩

theorem bytes_below {W w' : World} (h : ∃ t, w' = Lib.bytesWorld W 5 t) : Below W.heap.size W w' := by
  obtain ⟨t, rfl⟩ := h
  exact Lib.bytesWorld_below W _ t
set_option maxRecDepth 100000 in
set_option maxHeartbeats 4000000 in
/-- The next word is a number. -/
theorem number_any (w0 w : World) (pb : Nat) (la : Option Addr) (lc : Nat) (n : Int) (R : List Wd) (h1 : -10 < n) (h2 : n < 100) (h : PS w0 w pb la lc (Lib.itoa n :: R)) :
    Calls Tryd.prog 34 #[.pointer (some ⟨pb, 0, none⟩)] w fun e w' => ∃ la' lc', e = .returned (.int .i64 n) ∧ Kp (PS w0 w' pb la' lc' R) ∧ Kp (w.grownBy w' (some pb)) := by
  obtain ⟨b, o, rfl, hc⟩ := h.head
  have k0 : w.cell? ⟨pb, 0, none⟩ = some (.slice (some ⟨b, o, none⟩) (R.length + 1) lc) := h.box.cell 0 rfl
  have hf := h.box.free 0
  have hlc := h.row.le
  simp only [List.length_cons] at hlc
  obtain ⟨c, r, hi, hr, ha⟩ := itoa_back h1 h2
  rw [hi] at ha hc
  have hsz : (⟨(c :: r).toArray⟩ : ByteArray).size ≤ 18 := str_size (by simp; omega)
  have CA := Kp.mk (fun W => Tryd.strconv_Atoi ⟨(c :: r).toArray⟩ n hsz (by simpa using ha) W)
  have CI := Kp.mk (fun W (hT : Tab W) => itoa_any n (by omega) (by omega) W hT)
  rw [hi] at CI
  have CT := Kp.mk (fun W => trim_any c r (by omega) W)
  have htl : (if c = 45 then r else c :: r).length ≤ 2 := by split <;> (try rw [List.length_cons]) <;> omega
  generalize (if c = 45 then r else c :: r) = t at *
  have htz : (t.length : Int) ≤ 7 := by omega
  have hts : (⟨t.toArray⟩ : ByteArray).size = t.length := by show t.toArray.size = _; simp
  have hor : (lc = 1 ∧ R = []) ∨ ¬ lc = 1 := by
    by_cases hc1 : lc = 1
    · exact .inl ⟨hc1, by rw [← List.length_eq_zero_iff]; omega⟩
    · exact .inr hc1
  rcases hor with ⟨rfl, rfl⟩ | hc1
  · rw [hi] at h
    obtain ⟨_, hp⟩ := h.tail0
    have HP := Kp.mk hp
    have HG := Kp.mk (grown_set w pb 0 (.slice (some ⟨b, o, none⟩) 0 0))
    have HTB := Kp.mk (hp.tabs)
    clear h hp hi ha h1 h2
    go_enter Tryd.func34, Tryd.ntmps34
    go_upto_region 6 with (fail)
    generalize w.setCell ⟨pb, 0, none⟩ (.slice (some ⟨b, o, none⟩) 0 0) = wp at *
    clear k0 hf hc
    go_wp2_with (first
      | (go_at_call 41; refine (CA.out _).mono ?_; rintro e w6 ⟨rfl, hb6⟩; have HB6 := Kp.mk (bytes_below hb6); clear hb6)
      | (go_at_call 17; refine (CI.out w6 (HTB.out.below HB6.out)).mono ?_; rintro e w7 ⟨rfl, hb7⟩; have HB7 := Kp.mk (below_step HB6.out hb7); clear hb7)
      | (go_at_call 42; refine (CT.out _).mono ?_; rintro e w8 ⟨rfl, rfl⟩)
      | fail)
    go_ret
    exact ⟨_, _, rfl, ⟨HP.out.later HB7.out⟩, ⟨grown_trans HG.out (grown_of_below HB7.out)⟩⟩
  · rw [hi] at h
    have hp := h.tail
    have HP := Kp.mk hp
    have HG := Kp.mk (grown_set w pb 0 (.slice (some ⟨b, o + 1, none⟩) R.length (lc - 1)))
    have HTB := Kp.mk (hp.tabs)
    have hcl : ¬ lc - 1 = 0 := by omega
    clear h hp hi ha h1 h2
    go_enter Tryd.func34, Tryd.ntmps34
    go_upto_region 6 with (fail)
    generalize w.setCell ⟨pb, 0, none⟩ (.slice (some ⟨b, o + 1, none⟩) R.length (lc - 1)) = wp at *
    clear k0 hf hc
    go_wp2_with (first
      | (go_at_call 41; refine (CA.out _).mono ?_; rintro e w6 ⟨rfl, hb6⟩; have HB6 := Kp.mk (bytes_below hb6); clear hb6)
      | (go_at_call 17; refine (CI.out w6 (HTB.out.below HB6.out)).mono ?_; rintro e w7 ⟨rfl, hb7⟩; have HB7 := Kp.mk (below_step HB6.out hb7); clear hb7)
      | (go_at_call 42; refine (CT.out _).mono ?_; rintro e w8 ⟨rfl, rfl⟩)
      | fail)
    go_ret
    exact ⟨_, _, rfl, ⟨HP.out.later HB7.out⟩, ⟨grown_trans HG.out (grown_of_below HB7.out)⟩⟩

end Go.Proofs.YtakabjkhcdkkjaaDoor
