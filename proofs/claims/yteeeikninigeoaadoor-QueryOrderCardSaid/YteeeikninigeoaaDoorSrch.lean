/- sort.Search with a test that only reads. -/
import Derived.Test.YteeeikninigeoaaDoorKeep
import Derived.Shelf.Abstract
namespace Go.Proofs.YteeeikninigeoaaDoor
set_option linter.unusedVariables false
open Go.RowKit

/-- A test of places that only reads, in every world that has drawn more. -/
def Asks (g : FuncId) (cb : Array Value) (p : Nat → Bool) (n : Nat) (w : World) : Prop :=
  ∀ W, Drew w W → ∀ k : Nat, k < n → Calls Tryd.prog g (#[.int .i64 k] ++ cb) W fun e w' => e = .returned (.bool (p k)) ∧ Drew W w'

set_option maxHeartbeats 1000000 in
theorem search_any (g : FuncId) (cb : Array Value) (p : Nat → Bool) (n : Nat) (eg : ∀ args w, (callFunc g args).run Tryd.prog w = .ok (.enter g args) w) (w : World) (hn : n ≤ 1000000) (hg : Asks g cb p n w)
    (hm : ∀ a b, a ≤ b → b < n → p a = true → p b = true) :
    Calls Tryd.prog 82 #[.int .i64 n, .func (.func g) #[] cb] w fun e w' => ∃ k : Nat, e = .returned (.int .i64 k) ∧ k ≤ n ∧ (∀ i, i < k → p i = false) ∧ (k < n → p k = true) ∧ Drew w w' := by
  have HG := Kp.mk hg
  have HM := Kp.mk hm
  clear hg hm
  go_enter Tryd.func82, Tryd.ntmps82
  go_wp2
  go_loopw [5, 6] (fun x y wr => ∃ i j : Nat, i ≤ j ∧ j ≤ n ∧ x = .int .i64 i ∧ y = .int .i64 j ∧ Kp (∀ q, q < i → p q = false) ∧ Kp (j < n → p j = true) ∧ Kp (Drew w wr)) (fun x y _ => (intOf y).toNat - (intOf x).toNat)
  case atStart => exact ⟨0, n, Nat.zero_le _, Nat.le_refl _, rfl, rfl, ⟨fun q h => by omega⟩, ⟨fun h => by omega⟩, ⟨Drew.refl _⟩⟩
  case round =>
    obtain ⟨i, j, hij, hjn, rfl, rfl, H1, H2, HD⟩ := hrel
    by_cases hlt : i < j
    · obtain ⟨m, hm⟩ : ∃ m, m = (i + j) / 2 := ⟨_, rfl⟩
      have hmi : i ≤ m := by omega
      have hmj : m < j := by omega
      have e1 : ((i : Int) + j) / 2 = m := by omega
      have C := Kp.mk (HG.out wr HD.out m (by omega))
      clear hm
      cases hp : p m with
      | true =>
        rw [hp] at C
        have HP := Kp.mk hp
        clear hp
        go_wp2_with fail
        refine C.out.mono ?_
        rintro e w' ⟨rfl, hd⟩
        have HD2 := Kp.mk (HD.out.trans hd)
        clear hd C
        go_wp2
        go_roundw
        case rel => exact ⟨i, m, hmi, by omega, rfl, rfl, H1, ⟨fun _ => HP.out⟩, HD2⟩
        case measure => simp [intOf]; omega
      | false =>
        rw [hp] at C
        have HP := Kp.mk hp
        clear hp
        have H3 := Kp.mk (show ∀ q, q < m + 1 → p q = false from fun q hq => by
          cases hpq : p q with
          | false => rfl
          | true =>
            have := HM.out q m (by omega) (by omega) hpq
            rw [HP.out] at this
            cases this)
        go_wp2_with fail
        refine C.out.mono ?_
        rintro e w' ⟨rfl, hd⟩
        have HD2 := Kp.mk (HD.out.trans hd)
        clear hd C
        go_wp2
        go_roundw
        case rel => exact ⟨m + 1, j, by omega, hjn, by go_num, rfl, H3, H2, HD2⟩
        case measure => simp [intOf]; omega
    · obtain rfl : i = j := by omega
      go_wp2
      go_ret
      exact ⟨i, rfl, hjn, H1.out, H2.out, HD.out⟩

end Go.Proofs.YteeeikninigeoaaDoor
