/- Functions of the library on slices of int: whether one meets a test, a copy. -/
import Derived.Test.YtlmdlholmlbcbaaKeep
import Derived.Shelf.Abstract
namespace Go.Proofs.Ytlmdlholmlbcbaa
set_option linter.unusedVariables false
open Go.RowKit

/-- A test that only computes. -/
def Tests (g : FuncId) (cb : Array Value) (p : Int → Bool) (x : Int) : Prop := ∀ W, Calls Try.prog g (#[.int .i64 x] ++ cb) W fun e w' => e = .returned (.bool (p x)) ∧ W = w'

set_option maxHeartbeats 400000 in
theorem index_none (g : FuncId) (cb : Array Value) (p : Int → Bool) (eg : ∀ args w, (callFunc g args).run Try.prog w = .ok (.enter g args) w) (a : Option Addr) (cap n : Nat) (l : List Int) (w : World) (h : SlI w a cap l) (hn : l.length = n) (hb : n ≤ 9223372036854775806)
    (hg : ∀ x ∈ l, Tests g cb p x) (hp : ∀ x ∈ l, p x = false) :
    Calls Try.prog 47 #[.slice a n cap, .func (.func g) #[] cb] w fun e w' => e = .returned (.int .i64 (-1)) ∧ w = w' := by
  have H := Kp.mk h
  have HN := Kp.mk hn
  have HG := Kp.mk hg
  have HP := Kp.mk hp
  clear h hn hg hp
  go_enter Try.func47, Try.ntmps47
  go_wp2
  go_loop [8] (fun i => ∃ k : Nat, k ≤ n ∧ i = .int .i64 k) (fun i => n - (intOf i).toNat)
  case atStart => exact ⟨0, Nat.zero_le _, rfl⟩
  case round =>
    obtain ⟨k, hk, rfl⟩ := hrel
    by_cases hlt : k < n
    · obtain ⟨b, off, rfl, c1⟩ := H.out.at k (by rw [HN.out]; exact hlt)
      have hm := List.getElem_mem (l := l) (n := k) (by rw [HN.out]; exact hlt)
      have C := Kp.mk (HG.out _ hm)
      unfold Tests at C
      rw [HP.out _ hm] at C
      generalize l[k]'(by rw [HN.out]; exact hlt) = x at *
      clear hm
      go_wp2_with (go_at_fn g; refine (C.out _).mono ?_; rintro e w' ⟨rfl, rfl⟩)
      go_round
      case rel => exact ⟨k + 1, by omega, by go_num⟩
      case measure => simp [intOf]; omega
    · go_wp2
      go_ret
      exact ⟨rfl, rfl⟩

set_option maxHeartbeats 400000 in
theorem index_some (g : FuncId) (cb : Array Value) (p : Int → Bool) (eg : ∀ args w, (callFunc g args).run Try.prog w = .ok (.enter g args) w) (a : Option Addr) (cap n : Nat) (l : List Int) (w : World) (h : SlI w a cap l) (hn : l.length = n) (hb : n ≤ 9223372036854775806)
    (hg : ∀ x ∈ l, Tests g cb p x) (j : Nat) (hj : j < l.length) (hp : ∀ i (hi : i < l.length), i < j → p l[i] = false) (hpj : p l[j] = true) :
    Calls Try.prog 47 #[.slice a n cap, .func (.func g) #[] cb] w fun e w' => e = .returned (.int .i64 j) ∧ w = w' := by
  have H := Kp.mk h
  have HG := Kp.mk hg
  have HP := Kp.mk hp
  have HPJ := Kp.mk hpj
  have HN := Kp.mk hn
  have hjn : j < n := by omega
  have HJ := Kp.mk hj
  clear h hn hg hp hpj
  go_enter Try.func47, Try.ntmps47
  go_wp2
  go_loop [8] (fun i => ∃ k : Nat, k ≤ j ∧ i = .int .i64 k) (fun i => n - (intOf i).toNat)
  case atStart => exact ⟨0, Nat.zero_le _, rfl⟩
  case round =>
    obtain ⟨k, hk, rfl⟩ := hrel
    have hlt : k < n := by omega
    obtain ⟨b, off, rfl, c1⟩ := H.out.at k (by rw [HN.out]; exact hlt)
    have hm := List.getElem_mem (l := l) (n := k) (by rw [HN.out]; exact hlt)
    have C := Kp.mk (HG.out _ hm)
    unfold Tests at C
    by_cases hkj : k < j
    · rw [HP.out k (by rw [HN.out]; exact hlt) hkj] at C
      generalize l[k]'(by rw [HN.out]; exact hlt) = x at *
      clear hm
      go_wp2_with (go_at_fn g; refine (C.out _).mono ?_; rintro e w' ⟨rfl, rfl⟩)
      go_round
      case rel => exact ⟨k + 1, by omega, by go_num⟩
      case measure => simp [intOf]; omega
    · obtain rfl : k = j := by omega
      rw [HPJ.out] at C
      clear HPJ hj
      generalize l[k]'(by rw [HN.out]; exact hlt) = x at *
      clear hm
      go_wp2_with (go_at_fn g; refine (C.out _).mono ?_; rintro e w' ⟨rfl, rfl⟩)
      go_ret
      exact ⟨rfl, rfl⟩

theorem first_at (p : Int → Bool) (l : List Int) (h : l.any p = true) : ∃ j, ∃ hj : j < l.length, (∀ i (hi : i < l.length), i < j → p l[i] = false) ∧ p l[j] = true := by
  induction l with
  | nil => simp at h
  | cons x l ih =>
    by_cases hx : p x = true
    · exact ⟨0, by simp, fun i hi h => by omega, hx⟩
    · have hx : p x = false := by simpa using hx
      rw [List.any_cons, hx, Bool.false_or] at h
      obtain ⟨j, hj, h1, h2⟩ := ih h
      refine ⟨j + 1, by simp; omega, fun i hi hij => ?_, by simpa using h2⟩
      cases i with
      | zero => exact hx
      | succ i => exact h1 i (by simp at hi; omega) (by omega)

set_option maxHeartbeats 400000 in
theorem contains_any (g : FuncId) (cb : Array Value) (p : Int → Bool) (eg : ∀ args w, (callFunc g args).run Try.prog w = .ok (.enter g args) w) (a : Option Addr) (cap n : Nat) (l : List Int) (w : World) (h : SlI w a cap l) (hn : l.length = n) (hb : n ≤ 9223372036854775806)
    (hg : ∀ x ∈ l, Tests g cb p x) :
    Calls Try.prog 155 #[.slice a n cap, .func (.func g) #[] cb] w fun e w' => e = .returned (.bool (l.any p)) ∧ w = w' := by
  cases hany : l.any p with
  | false =>
    have C := Kp.mk (index_none g cb p eg a cap n l w h hn hb hg (fun x hx => by
      have := List.any_eq_false.1 hany x hx
      simpa using this))
    clear h hn hg hany eg
    go_enter Try.func155, Try.ntmps155
    go_wp2_with fail
    refine C.out.mono ?_
    rintro e w' ⟨rfl, rfl⟩
    go_wp2
    go_ret
    exact ⟨rfl, rfl⟩
  | true =>
    obtain ⟨j, hj, h1, h2⟩ := first_at p l hany
    have C := Kp.mk (index_some g cb p eg a cap n l w h hn hb hg j hj h1 h2)
    clear h hn hg hany eg h1 h2 hj
    go_enter Try.func155, Try.ntmps155
    go_wp2_with fail
    refine C.out.mono ?_
    rintro e w' ⟨rfl, rfl⟩
    go_wp2
    go_ret
    exact ⟨rfl, rfl⟩

end Go.Proofs.Ytlmdlholmlbcbaa
