/- The law's own Brackets: brackets that may be. -/
import Derived.Test.YtmfmknpkeniifaaParC
namespace Go.Proofs.Ytmfmknpkeniifaa
set_option linter.unusedVariables false
open Go.RowKit

theorem str_snoc {s : ByteArray} {b : List Bool} (hs : s.data.toList = enc b) (x : Bool) (c : UInt8) (hc : c = if x then 40 else 41) : (s ++ ⟨#[c]⟩).data.toList = enc (b ++ [x]) := by
  rw [ByteArray.data_append, Array.toList_append, hs, enc, enc, List.map_append, hc]
  rfl

/-- Brackets that are open, never below nought. -/
def Opn (b : List Bool) (d : Nat) : Prop := (∀ i, i ≤ b.length → 0 ≤ ht b i) ∧ ht b b.length = (d : Int)
theorem opn_open {b : List Bool} {d : Nat} (h : Opn b d) : Opn (b ++ [true]) (d + 1) := by
  have e := ht_append2 b [true] 1 (by simp)
  have e2 : ht [true] 1 = 1 := by decide
  refine ⟨fun i hi => ?_, ?_⟩
  · by_cases hib : i ≤ b.length
    · rw [ht_append _ _ _ hib]; exact h.1 i hib
    · simp at hi
      rw [show i = b.length + 1 by omega, e, h.2]; omega
  · rw [List.length_append, List.length_singleton, e, h.2]; omega
theorem opn_shut {b : List Bool} {d : Nat} (h : Opn b (d + 1)) : Opn (b ++ [false]) d := by
  have e := ht_append2 b [false] 1 (by simp)
  have e2 : ht [false] 1 = -1 := by decide
  refine ⟨fun i hi => ?_, ?_⟩
  · by_cases hib : i ≤ b.length
    · rw [ht_append _ _ _ hib]; exact h.1 i hib
    · simp at hi
      rw [show i = b.length + 1 by omega, e, h.2]; omega
  · rw [List.length_append, List.length_singleton, e, h.2]; omega

/-- What Brackets hands back. -/
def RetBr (w : World) (e : Ending) (w' : World) : Prop := ∃ (s : ByteArray) (b : List Bool), e = .returned (.string s) ∧ s.data.toList = enc b ∧ Bal b ∧ b.length ≤ 120 ∧ Below w.heap.size w w'

set_option maxHeartbeats 1000000 in
theorem brackets_any (a : Option Addr) (cap : Nat) (l : List Int) (w : World) (h : SlI w a cap l) (hl : l.length ≤ 9223372036854775807) (hw : ∀ x ∈ l, (Lit.int .i64 x).wf = true) :
    Calls Try.prog 21 #[.slice a l.length cap, .int .i64 60] w (RetBr w) := by
  have H := Kp.mk h
  have HW := Kp.mk hw
  clear h hw
  go_enter Try.func21, Try.ntmps21
  go_wp2
  go_loopw [5, 6, 7, 8] (fun sv dv mv iv wr => ∃ (s : ByteArray) (b : List Bool) (d md k : Nat), sv = .string s ∧ dv = .int .i64 d ∧ mv = .int .i64 md ∧ iv = .int .i64 k ∧ k ≤ l.length ∧ md ≤ 60 ∧ b.length + d = 2 * md ∧ Kp (s.data.toList = enc b ∧ Opn b d) ∧ Kp (Drew w wr)) (fun _ _ _ iv _ => l.length - (intOf iv).toNat)
  case atStart => exact ⟨⟨#[]⟩, [], 0, 0, 0, rfl, rfl, rfl, rfl, Nat.zero_le _, by omega, rfl, ⟨rfl, fun i hi => by simp at hi; rw [hi, ht_zero]; omega, by simp [ht_zero]⟩, ⟨Drew.refl w⟩⟩
  case round =>
    obtain ⟨s, b, d, md, k, rfl, rfl, rfl, rfl, hk, hmd, hbd, HI, HD⟩ := hrel
    have hsz : s.size ≤ 120 := by rw [str_size HI.out.1]; omega
    by_cases hgo : k < l.length ∧ md < 60
    · obtain ⟨hlt, hm60⟩ := hgo
      obtain ⟨b1, o1, rfl, c1⟩ := H.out.at k hlt
      rw [← HD.out.cell] at c1
      obtain ⟨w1, w2⟩ := wf_bd (HW.out l[k] (List.getElem_mem hlt))
      by_cases hd : 0 < d
      · have hp := pick_bd l[k] 5 (by omega)
        obtain ⟨x, hx⟩ : ∃ x, x = pick l[k] 5 := ⟨_, rfl⟩
        rw [← hx] at hp
        have HX := Kp.mk hx
        clear hx
        by_cases hx2 : x < 2
        · go_wp2_with fail
          refine (picked_any l[k] 5 _ (by omega) (by omega) w1 w2).mono ?_
          rintro e w' ⟨rfl, rfl⟩
          rw [← HX.out]
          obtain ⟨d', rfl⟩ : ∃ d', d = d' + 1 := ⟨d - 1, by omega⟩
          have hn := Kp.mk (And.intro (str_snoc HI.out.1 false 41 rfl) (opn_shut HI.out.2))
          go_wp2
          go_roundw
          case rel => exact ⟨_, b ++ [false], d', md, k + 1, rfl, by go_num, rfl, by go_num, by omega, by omega, by simp; omega, hn, HD⟩
          case measure => simp [intOf]; omega
        · go_wp2_with fail
          refine (picked_any l[k] 5 _ (by omega) (by omega) w1 w2).mono ?_
          rintro e w' ⟨rfl, rfl⟩
          rw [← HX.out]
          have hn := Kp.mk (And.intro (str_snoc HI.out.1 true 40 rfl) (opn_open HI.out.2))
          go_wp2
          go_roundw
          case rel => exact ⟨_, b ++ [true], d + 1, md + 1, k + 1, rfl, by go_num, by go_num, by go_num, by omega, by omega, by simp; omega, hn, HD⟩
          case measure => simp [intOf]; omega
      · obtain rfl : d = 0 := by omega
        have hn := Kp.mk (And.intro (str_snoc HI.out.1 true 40 rfl) (opn_open HI.out.2))
        go_wp2
        go_roundw
        case rel => exact ⟨_, b ++ [true], 1, md + 1, k + 1, rfl, rfl, by go_num, by go_num, by omega, by omega, by simp; omega, hn, HD⟩
        case measure => simp [intOf]; omega
    · have hor : (k < l.length ∧ ¬ md < 60) ∨ ¬ k < l.length := by
        by_cases h1 : k < l.length
        · exact .inl ⟨h1, fun h2 => hgo ⟨h1, h2⟩⟩
        · exact .inr h1
      clear hgo
      rcases hor with ⟨hlt, hm60⟩ | hlt
      all_goals
        go_wp2
        go_loop [5, 6] (fun sv dv => ∃ (s : ByteArray) (b : List Bool) (d : Nat), sv = .string s ∧ dv = .int .i64 d ∧ b.length + d ≤ 120 ∧ Kp (s.data.toList = enc b ∧ Opn b d)) (fun _ dv => (intOf dv).toNat)
        case atStart => exact ⟨s, b, d, rfl, rfl, by omega, HI⟩
        case round =>
          clear HI hsz hbd
          obtain ⟨s, b, d, rfl, rfl, hbd, HI⟩ := hrel
          have hsz : s.size ≤ 120 := by rw [str_size HI.out.1]; omega
          cases d with
          | zero =>
            have hB : Kp (Bal b) := ⟨HI.out.2.1, HI.out.2.2⟩
            go_wp2
            go_ret
            exact ⟨s, b, rfl, HI.out.1, hB.out, by omega, HD.out.below _⟩
          | succ d =>
            have hn := Kp.mk (And.intro (str_snoc HI.out.1 false 41 rfl) (opn_shut HI.out.2))
            go_wp2
            go_round
            case rel => exact ⟨_, b ++ [false], d, rfl, by go_num, by simp; omega, hn⟩
            case measure => simp [intOf]

end Go.Proofs.Ytmfmknpkeniifaa
