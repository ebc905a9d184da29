/- The laws' own sameInts. -/
import Derived.Test.YtlmdlholmlbcbaaKeep
namespace Go.Proofs.Ytlmdlholmlbcbaa
set_option linter.unusedVariables false
open Go.RowKit

set_option maxHeartbeats 400000 in
theorem sameInts_any (a b : Option Addr) (c d : Nat) (l m : List Int) (w : World) (h1 : SlI w a c l) (h2 : SlI w b d m) (hl : l.length ≤ 9223372036854775806) :
    Calls Try.prog 30 #[.slice a l.length c, .slice b m.length d] w fun e w' => e = .returned (.bool (l == m)) ∧ ∃ n, w' = w.drewN n := by
  by_cases hlm : l.length = m.length
  · have e1 : (((l.length : Int)) != m.length) = false := by simp [hlm]
    have hlm' := Lib.hid hlm
    have H1 := Lib.hid h1
    have H2 := Lib.hid h2
    clear hlm h1 h2
    go_enter Try.func30, Try.ntmps30
    go_wp2
    go_loopw [5] (fun i wr => ∃ k : Nat, k ≤ l.length ∧ i = .int .i64 k ∧ (∃ n, wr = w.drewN n) ∧ Hid (l.take k = m.take k)) (fun i _ => l.length - (intOf i).toNat)
    case atStart => exact ⟨0, Nat.zero_le _, rfl, ⟨0, rfl⟩, rfl⟩
    case round =>
      obtain ⟨k, hk, rfl, ⟨n, rfl⟩, HT⟩ := hrel
      by_cases hlt : k < l.length
      · have hlt2 : k < m.length := by have := hlm'.out; omega
        obtain ⟨b1, o1, rfl, c1⟩ := H1.out.at k hlt
        obtain ⟨b2, o2, rfl, c2⟩ := H2.out.at k hlt2
        by_cases hx : l[k] = m[k]
        · have ex : (l[k] != m[k]) = false := by simpa using hx
          have HX := Lib.hid hx
          clear hx
          go_wp2
          go_quiet (fail)
          go_wp2
          go_roundw
          case rel =>
            refine ⟨k + 1, by omega, by go_num, ⟨_, rfl⟩, ?_⟩
            have e := HT.out
            show l.take (k + 1) = m.take (k + 1)
            rw [List.take_succ_eq_append_getElem hlt, List.take_succ_eq_append_getElem hlt2, e, HX.out]
          case measure => simp [intOf]; omega
        · have ex : (l[k] != m[k]) = true := by simpa using hx
          have HX := Lib.hid (show (l == m) = false by
            rw [beq_eq_false_iff_ne]; intro h; subst h; exact hx rfl)
          clear hx
          go_wp2
          go_quiet (fail)
          go_wp2
          go_ret
          exact ⟨ret_bool HX.out.symm, _, World.drewN_drewN _ _ _⟩
      · go_wp2
        go_ret
        refine ⟨ret_bool ?_, _, rfl⟩
        symm
        rw [beq_iff_eq]
        have e := HT.out
        rwa [List.take_of_length_le (by omega), List.take_of_length_le (by have := hlm'.out; omega)] at e
  · have e1 : (((l.length : Int)) != m.length) = true := by simp; omega
    have hlm' := Lib.hid hlm
    clear hlm
    go_enter Try.func30, Try.ntmps30
    go_wp2
    go_ret
    exact ⟨ret_bool (beq_eq_false_iff_ne.2 (fun h => hlm'.out (by rw [h]))).symm, 0, rfl⟩

/-- Two slices that read as one list. -/
theorem sameInts_same (a b : Option Addr) (c d n : Nat) (l m : List Int) (w : World) (h1 : SlI w a c l) (h2 : SlI w b d m) (hl : l.length = n) (hm : m.length = n) (he : l = m) (hn : n ≤ 9223372036854775806) :
    Calls Try.prog 30 #[.slice a n c, .slice b n d] w fun e w' => e = .returned (.bool true) ∧ Below w.heap.size w w' := by
  subst hl
  have h := sameInts_any a b c d l m w h1 h2 hn
  rw [hm] at h
  exact h.mono fun e w' ⟨h1, n, h2⟩ => ⟨by rw [h1, he]; simp, by rw [h2]; exact drewN_below n⟩

end Go.Proofs.Ytlmdlholmlbcbaa
