/- The walk of EncloseUp. -/
import Derived.Test.YtmoicghgdcbflaaParL
namespace Go.Proofs.Ytmoicghgdcbflaa
set_option linter.unusedVariables false
open Go.RowKit

/-- Each bracket has a partner. -/
theorem all_mat {b : List Bool} (hb : Bal b) (k : Nat) (hk : k ≤ b.length) : ∃ o m, Open b k o ∧ Mat b k o m := by
  induction k with
  | zero => exact ⟨[], List.replicate b.length 0, open_nil b, by simp, fun q hq => by omega⟩
  | succ k ih =>
    obtain ⟨o, m, h1, h2⟩ := ih (by omega)
    cases hx : b[k]'(by omega) with
    | true => exact ⟨_, m, open_push h1 (by omega) hx, mat_push h2⟩
    | false =>
      have ho : 0 < o.length := by
        have h3 := hb.1 (k + 1) hk
        rw [ht_succ b k (by omega), hx] at h3
        simp at h3
        have := h1.1
        omega
      obtain ⟨p, g1, g2, g3, g4⟩ := open_pop h1 (by omega) hx ho
      exact ⟨_, _, g4, mat_pop h2 h1 g3 (by rw [List.getD_eq_getElem?_getD, List.getElem?_eq_getElem (by omega), Option.getD_some, g1]) ho⟩
theorem all_part {b : List Bool} (hb : Bal b) (k : Nat) (hk : k < b.length) : ∃ q, Part b k q := by
  obtain ⟨o, m, h1, h2⟩ := all_mat hb b.length (Nat.le_refl _)
  have ho : o = [] := by
    have := h1.1
    rw [hb.2] at this
    exact List.length_eq_zero_iff.1 (by omega)
  subst ho
  obtain ⟨q, _, h⟩ := mat_part h2 k hk
  exact ⟨q, h⟩
theorem open_pair {b : List Bool} (hb : Bal b) (k : Nat) (hk : b.getD k false = true) : ∃ q, Pair b k q := by
  have hkl : k < b.length := by
    apply Classical.byContradiction
    intro h
    simp [show b.length ≤ k by omega] at hk
  obtain ⟨q, h | h⟩ := all_part hb k hkl
  · exact ⟨q, h⟩
  · have := h.2.2.2.1
    rw [List.getD_eq_getElem?_getD, List.getElem?_eq_getElem hkl] at hk this
    simp at hk this
    rw [hk] at this; cases this

set_option maxHeartbeats 2000000 in
theorem walk_EncloseUp (a0 : Option Addr) (len0 cap0 : Nat) (z0 : List Int) (a1 : Int) (w : World) (w0 : IsRow .i64 w a0 len0 cap0 z0) (w1 : (Lit.int .i64 a1).wf = true) :
    Calls Try.prog 10 #[.slice a0 len0 cap0, .int .i64 a1] w fun e w' => e = .returned (.bool true) ∧ Below w.heap.size w w' := by
  obtain ⟨l, rfl, hl, wl, nl⟩ := row_sl w0
  obtain ⟨b1, b2⟩ := wf_bd w1
  have HB := Kp.mk (brackets_any a0 cap0 l w hl (by unfold maxLen at nl; omega) wl)
  clear w0 w1 hl wl
  go_enter Try.func10, Try.ntmps10
  go_wp2_with fail
  refine HB.out.mono ?_
  rintro e wa ⟨r, b, rfl, hr, hb, hbl, hbel⟩
  have hrs : r.size ≤ 120 := by rw [str_size hr]; omega
  have hs := Kp.mk (str_wrap hr)
  have hB := Kp.mk (bal_wrap hb)
  have hsz := str_size hs.out
  have hBl : ([true] ++ b ++ [false]).length = b.length + 2 := by simp
  rw [hBl] at hsz
  obtain ⟨n, hn⟩ : ∃ n, n = b.length + 2 := ⟨_, rfl⟩
  rw [← hn] at hBl hsz
  have hn2 : 2 ≤ n := by omega
  have hn122 : n ≤ 122 := by omega
  have HBL := Kp.mk hBl
  have HBel := Kp.mk hbel
  clear hr hb hBl hbel
  generalize [true] ++ b ++ [false] = c at *
  have hpb := pick_bd a1 n (by omega)
  obtain ⟨k, hk⟩ : ∃ q : Nat, pick a1 n = q := ⟨_, (Int.toNat_of_nonneg hpb.1).symm⟩
  have HK := Kp.mk hk
  have hkn : k < n := by omega
  clear hpb hk hn hbl
  go_wp2_with fail
  refine (picked_any a1 n _ (by omega) (by omega) b1 b2).mono ?_
  rintro e w' ⟨rfl, rfl⟩
  rw [HK.out]
  generalize ({ data := #[40] } ++ r ++ { data := #[41] } : ByteArray) = s at *
  clear hrs
  go_wp2
  go_loop [7, 8] (fun dv jv => ∃ (d : Int) (j : Nat), dv = .int .i64 d ∧ jv = .int .i64 j ∧ j ≤ k ∧ 0 ≤ d ∧ d ≤ j ∧ Kp (d = ht c j)) (fun _ jv => k - (intOf jv).toNat)
  case atStart => exact ⟨0, 0, rfl, rfl, Nat.zero_le _, Int.le_refl _, Int.le_refl _, ⟨(ht_zero c).symm⟩⟩
  case round =>
    obtain ⟨d, j, rfl, rfl, hj, hd0, hdj, HD⟩ := hrel
    by_cases hlt : j < k
    · have hjc : j < c.length := by rw [HBL.out]; omega
      have hsucc := ht_succ c j hjc
      have hge := hB.out.1 (j + 1) (by omega)
      rw [← HD.out] at hsucc
      cases hx : c[j] with
      | true =>
        rw [hx] at hsucc
        simp at hsucc
        have hidx := str_at hs.out j true 40 (by rw [List.getElem?_eq_getElem hjc, hx]) rfl
        have HS := Kp.mk hsucc
        clear hsucc hge hx
        go_wp2
        go_round
        case rel => exact ⟨d + 1, j + 1, rfl, by go_num, by omega, by omega, by omega, ⟨HS.out.symm⟩⟩
        case measure => simp [intOf]; omega
      | false =>
        rw [hx] at hsucc
        simp at hsucc
        have hidx := str_at hs.out j false 41 (by rw [List.getElem?_eq_getElem hjc, hx]) rfl
        have HS := Kp.mk hsucc
        have hd1 : 1 ≤ d := by omega
        clear hsucc hge hx
        go_wp2
        go_round
        case rel => exact ⟨d - 1, j + 1, by go_num, by go_num, by omega, by omega, by omega, ⟨by rw [HS.out]; omega⟩⟩
        case measure => simp [intOf]; omega
    · obtain rfl : j = k := by omega
      obtain ⟨q, hP⟩ := all_part hB.out j (by rw [HBL.out]; exact hkn)
      -- the depth of the pair
      obtain ⟨p0, q0, D, hPr, hor, hD, hcase⟩ : ∃ (p0 q0 D : Nat), Pair c p0 q0 ∧ (j = p0 ∨ j = q0) ∧ ht c p0 = (D : Int) ∧ ((c[j]? = some true ∧ d = D) ∨ (c[j]? = some false ∧ d = D + 1)) := by
        have hjc : j < c.length := by rw [HBL.out]; exact hkn
        rcases hP with h | h
        · refine ⟨j, q, d.toNat, h, .inl rfl, by rw [← HD.out]; omega, .inl ⟨?_, by omega⟩⟩
          have := h.2.2.1
          rw [List.getD_eq_getElem?_getD, List.getElem?_eq_getElem hjc] at this
          rw [List.getElem?_eq_getElem hjc]; simpa using this
        · have e1 := ht_succ c j hjc
          have h3 := h.2.2.2.1
          have h5 := h.2.2.2.2.1
          have h6 := hB.out.1 (j + 1) (by omega)
          rw [List.getD_eq_getElem?_getD, List.getElem?_eq_getElem hjc] at h3
          simp at h3
          rw [h3, ← HD.out] at e1
          simp at e1
          refine ⟨q, j, (d - 1).toNat, h, .inr rfl, by omega, .inr ⟨by rw [List.getElem?_eq_getElem hjc, h3], by omega⟩⟩
      have HPR := Kp.mk hPr
      have HDD := Kp.mk hD
      have HOR := Kp.mk hor
      have hD122 : D ≤ 122 := by omega
      clear hP hPr hor hD HD
      rcases hcase with ⟨hx, hd⟩ | ⟨hx, hd⟩
      all_goals
        have hidx := str_at hs.out j _ _ hx rfl
        simp only [if_true, if_false, Bool.false_eq_true] at hidx
        subst hd
        clear hx
        go_wp2
        go_loopw [4, 9, 10] (fun _ av nv wr => ∃ (m at' pp qq : Nat), nv = .int .i64 m ∧ av = .int .i64 at' ∧ m ≤ D ∧ at' < n ∧ Kp (Pair c pp qq ∧ (at' = pp ∨ at' = qq) ∧ ht c pp = (D : Int) - m ∧ Below w.heap.size w wr)) (fun _ _ nv _ => D - (intOf nv).toNat)
        case atStart => exact ⟨0, j, p0, q0, rfl, rfl, Nat.zero_le _, hkn, ⟨HPR.out, HOR.out, by rw [HDD.out]; omega, HBel.out⟩⟩
        case round =>
          obtain ⟨m, at', pp, qq, rfl, rfl, hm, hat, HI⟩ := hrel
          by_cases hlt2 : m < D
          · go_wp2_with fail
            refine (enclose_any s c n at' pp qq wr hs.out HBL.out (by omega) hB.out HI.out.1 HI.out.2.1).mono ?_
            rintro e w1 ⟨hE, hb⟩
            have hE2 : ∃ K : Nat, e = .returned (.tuple #[.int .i64 K, .int .i64 0]) ∧ K < pp ∧ c.getD K false = true ∧ ht c K = ht c pp - 1 := by
              rcases hE with ⟨_, h⟩ | h
              · have := HI.out.2.2.1; omega
              · exact h
            obtain ⟨K, rfl, hKp, hKt, hKd⟩ := hE2
            obtain ⟨r2, hP2⟩ := open_pair hB.out K hKt
            have hppat : pp ≤ at' := by
              have := HI.out.1.1
              rcases HI.out.2.1 with h | h <;> omega
            have hKat : K < at' := by omega
            have hKc : K < c.length := by rw [HBL.out]; omega
            have hidx2 := str_at hs.out K true 40 (by rw [List.getElem?_eq_getElem hKc]; rw [List.getD_eq_getElem?_getD, List.getElem?_eq_getElem hKc] at hKt; simpa using hKt) rfl
            have hN := Kp.mk (show Pair c K r2 ∧ ht c K = (D : Int) - ((m + 1 : Nat) : Int) ∧ Below w.heap.size w w1 from ⟨hP2, by have := HI.out.2.2.1; omega, below_step2 HI.out.2.2.2 hb⟩)
            clear hE hKt hKd hP2 hb hKc
            go_wp2
            go_roundw
            case rel => exact ⟨m + 1, K, K, r2, by go_num, rfl, by omega, by omega, ⟨hN.out.1, .inl rfl, hN.out.2.1, hN.out.2.2⟩⟩
            case measure => simp [intOf]; omega
          · obtain rfl : m = D := by omega
            go_wp2_with fail
            refine (enclose_any s c n at' pp qq wr hs.out HBL.out (by omega) hB.out HI.out.1 HI.out.2.1).mono ?_
            rintro e w1 ⟨hE, hb⟩
            have hE2 : e = .returned (.tuple #[.int .i64 0, .int .i64 7]) := by
              rcases hE with ⟨h, _⟩ | ⟨K, _, hKp, _, hKd⟩
              · exact h
              · exfalso
                have h1 := HI.out.2.2.1
                have h2 := HI.out.1
                have h3 := hB.out.1 K (by have := h2.1; have := h2.2.1; omega)
                omega
            subst hE2
            have hN := Kp.mk (below_step2 HI.out.2.2.2 hb)
            clear hE hb
            go_wp2
            go_ret
            exact ⟨rfl, hN.out⟩

end Go.Proofs.Ytmoicghgdcbflaa
