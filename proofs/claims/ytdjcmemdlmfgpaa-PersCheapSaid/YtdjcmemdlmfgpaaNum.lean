/- The law's own Numbers. -/
import Derived.Test.YtdjcmemdlmfgpaaNumP
namespace Go.Proofs.Ytdjcmemdlmfgpaa
set_option linter.unusedVariables false
open Go.RowKit

set_option maxHeartbeats 1000000 in
theorem numbers_any (a : Option Addr) (cap n : Nat) (bound : Int) (l : List Int) (w : World) (h : SlI w a cap l) (hl : l.length ≤ 9223372036854775807) (hn : n ≤ 1000) (h0 : 0 < bound) (h1 : bound ≤ 9223372036854775807) (hw : ∀ x ∈ l, (Lit.int .i64 x).wf = true) :
    Calls Try.prog 8 #[.slice a l.length cap, .int .i64 n, .int .i64 bound] w (RetI w (nums l n bound)) := by
  have H := Kp.mk h
  have HW := Kp.mk hw
  clear h hw
  obtain ⟨B, hB⟩ : ∃ B, B = w.heap.size := ⟨_, rfl⟩
  have HB := Kp.mk hB
  clear hB
  go_enter Try.func8, Try.ntmps8
  go_wp2
  go_loopw [7, 8] (fun v i wr => ∃ (k : Nat) (sa : Option Addr) (sc : Nat), k ≤ l.length ∧ k ≤ n ∧ i = .int .i64 k ∧ v = .slice sa k sc ∧ wr.ownsRow B 3 1 (.slice sa k sc) k (ints (nums l k bound)) ∧ Below B w wr) (fun _ i _ => l.length - (intOf i).toNat)
  case atStart => exact ⟨0, none, 0, Nat.zero_le _, Nat.zero_le _, rfl, rfl, World.ownsRow_nil _ _ _ _, Below.refl _ _⟩
  case round =>
    obtain ⟨k, sa, sc, hkl, hkn, rfl, rfl, hown, hbel⟩ := hrel
    have hO := Kp.mk hown
    by_cases hgo : k < l.length ∧ k < n
    · obtain ⟨hlt, hltn⟩ := hgo
      obtain ⟨b, off, rfl, cl⟩ := (H.out.below (HB.out ▸ hbel)).at k hlt
      obtain ⟨w1, w2⟩ := wf_bd (HW.out l[k] (List.getElem_mem hlt))
      have hsu := Kp.mk (nums_succ l k bound hlt)
      obtain ⟨y, hy⟩ : ∃ y, y = l[k] := ⟨_, rfl⟩
      rw [← hy] at cl w1 w2
      have HY := Kp.mk hy
      have hBw : Kp (B ≤ wr.heap.size) := ⟨by rw [HB.out]; exact hbel.size⟩
      clear hown hy
      go_wp2_with fail
      refine (picked_any y bound _ h0 h1 w1 w2).mono ?_
      rintro e w' ⟨rfl, rfl⟩
      generalize hz : pick y bound = z at *
      have HZ := Kp.mk hz
      clear hz
      go_wp2_with (at_builtin; refine wpList_push tInts rfl _ _ rfl B _ _ _ _ rfl hO.out 1 1 _ rfl rfl ?c1 (by decide) ?c2 (by decide) hBw.out ?c4)
      case c1 => simp [Value.oneCell']
      case c2 => omega
      case c4 =>
        intro sa' sc' w' hown' hbel'
        have HO := Kp.mk hown'
        clear hown'
        go_wp2
        go_roundw
        case rel =>
          refine ⟨k + 1, sa', sc', by omega, by omega, by go_num, rfl, ?_, hbel.trans hbel'⟩
          rw [hsu.out, ints_append, ← HY.out, HZ.out]; exact HO.out
        case measure => simp [intOf]; omega
    · have hfin : Kp (nums l n bound = nums l k bound ∧ (nums l k bound).length = k) := by
        refine ⟨?_, by rw [nums_length]; omega⟩
        unfold nums
        by_cases h : k < l.length
        · rw [show k = n by omega]
        · rw [List.take_of_length_le (by omega), List.take_of_length_le (by omega)]
      have hor : (k < l.length ∧ ¬ k < n) ∨ ¬ k < l.length := by
        by_cases h1 : k < l.length
        · exact .inl ⟨h1, fun h2 => hgo ⟨h1, h2⟩⟩
        · exact .inr h1
      clear hgo hown
      rcases hor with ⟨hlt, hm60⟩ | hlt
      all_goals
        go_wp2
        go_ret
        refine ⟨sa, sc, ?_, ?_, ?_⟩
        · rw [hfin.out.1, hfin.out.2]; rfl
        · unfold OwnI
          rw [hfin.out.1, hfin.out.2, ← HB.out]
          exact hO.out
        · rw [← HB.out]; exact hbel

end Go.Proofs.Ytdjcmemdlmfgpaa
