/- Package skt: a sketch may be; a key is asked. -/
import Derived.Test.YtjofajpcchncpaaSkt
namespace Go.Proofs.Ytjofajpcchncpaa
set_option linter.unusedVariables false
open Go.RowKit

set_option maxHeartbeats 400000 in
theorem rindex_none (g : FuncId) (cb : Array Value) (eg : ∀ args w, (callFunc g args).run Try.prog w = .ok (.enter g args) w) (a : Option Addr) (cap n : Nat) (D : List (List Int)) (w : World) (h : RowsI w a n cap D) (hb : n ≤ 9223372036854775806)
    (hg : ∀ i (hi : i < D.length) ra rc, SlI w ra rc D[i] → Calls Try.prog g (#[.slice ra D[i].length rc] ++ cb) w fun e w' => e = .returned (.bool false) ∧ w = w') :
    Calls Try.prog 78 #[.slice a n cap, .func (.func g) #[] cb] w fun e w' => e = .returned (.int .i64 (-1)) ∧ w = w' := by
  have H := Kp.mk h
  have HN := Kp.mk h.len
  have HG := Kp.mk hg
  clear h hg
  go_enter Try.func78, Try.ntmps78
  go_wp2
  go_loop [8] (fun i => ∃ k : Nat, k ≤ n ∧ i = .int .i64 k) (fun i => n - (intOf i).toNat)
  case atStart => exact ⟨0, Nat.zero_le _, rfl⟩
  case round =>
    obtain ⟨k, hk, rfl⟩ := hrel
    by_cases hlt : k < n
    · have hkD : k < D.length := by rw [HN.out]; exact hlt
      obtain ⟨b, off, ra, rc, rfl, c1, hS⟩ := H.out.at k hkD
      have C := Kp.mk (HG.out k hkD ra rc hS)
      generalize D[k].length = m at *
      clear hS
      go_wp2_with (go_at_fn g; refine C.out.mono ?_; rintro e w' ⟨rfl, rfl⟩)
      go_round
      case rel => exact ⟨k + 1, by omega, by go_num⟩
      case measure => simp [intOf]; omega
    · go_wp2
      go_ret
      exact ⟨rfl, rfl⟩

theorem rcontains_none (g : FuncId) (cb : Array Value) (eg : ∀ args w, (callFunc g args).run Try.prog w = .ok (.enter g args) w) (a : Option Addr) (cap n : Nat) (D : List (List Int)) (w : World) (h : RowsI w a n cap D) (hb : n ≤ 9223372036854775806)
    (hg : ∀ i (hi : i < D.length) ra rc, SlI w ra rc D[i] → Calls Try.prog g (#[.slice ra D[i].length rc] ++ cb) w fun e w' => e = .returned (.bool false) ∧ w = w') :
    Calls Try.prog 70 #[.slice a n cap, .func (.func g) #[] cb] w fun e w' => e = .returned (.bool false) ∧ w = w' := by
  have C := Kp.mk (rindex_none g cb eg a cap n D w h hb hg)
  clear h hg eg
  go_enter Try.func70, Try.ntmps70
  go_wp2_with fail
  refine C.out.mono ?_
  rintro e w' ⟨rfl, rfl⟩
  go_wp2
  go_ret
  exact ⟨rfl, rfl⟩

theorem sodd_not (x : Int) (h1 : 0 ≤ x) (h2 : x ≤ 1048576) : Tests 69 #[] (fun _ => false) x := by
  intro w
  go_enter Try.func69, Try.ntmps69
  go_wp2_with fail
  refine (sfits_yes x w h1 h2).mono ?_
  rintro e w' ⟨rfl, rfl⟩
  go_wp2
  go_ret
  exact ⟨rfl, rfl⟩

theorem srow_not (ra : Option Addr) (rc : Nat) (l : List Int) (w : World) (h : SlI w ra rc l) (hl : l.length = 64) (hb : ∀ x ∈ l, 0 ≤ x ∧ x ≤ 1048576) :
    Calls Try.prog 68 #[.slice ra l.length rc] w fun e w' => e = .returned (.bool false) ∧ w = w' := by
  have C := Kp.mk (contains_any 69 #[] (fun _ => false) (fun _ _ => by kernel_rfl) ra rc 64 l w h hl (by omega) (fun x hx => sodd_not x (hb x hx).1 (hb x hx).2))
  rw [any_false'] at C
  rw [hl]
  clear h hl hb
  go_enter Try.func68, Try.ntmps68
  go_wp2_with fail
  refine C.out.mono ?_
  rintro e w' ⟨rfl, rfl⟩
  go_wp2
  go_ret
  exact ⟨rfl, rfl⟩

/-- What a sketch must be. -/
def Sketch (D : List (List Int)) : Prop := ∀ l ∈ D, l.length = 64 ∧ ∀ x ∈ l, 0 ≤ x ∧ x ≤ 1048576
theorem skL_sketch (ks : List Nat) (rows : Nat) (h : ks.length ≤ 300) : Sketch (skL ks rows) := by
  intro l hl
  obtain ⟨i, hi, rfl⟩ := List.getElem_of_mem hl
  rw [skL_get]
  refine ⟨skRow_length _ _ _, fun x hx => ?_⟩
  obtain ⟨c, hc, rfl⟩ := List.getElem_of_mem hx
  rw [skRow_get]
  have := cntK_le ks i c ks.length
  omega

theorem smay_yes (a : Option Addr) (cap n : Nat) (D : List (List Int)) (w : World) (h : RowsI w a n cap D) (h0 : 1 ≤ n) (h8 : n ≤ 8) (hD : Sketch D) :
    Calls Try.prog 58 #[.slice a n cap] w fun e w' => e = .returned (.bool true) ∧ w = w' := by
  have C := Kp.mk (rcontains_none 68 #[] (fun _ _ => by kernel_rfl) a cap n D w h (by omega) (fun i hi ra rc hS => srow_not ra rc D[i] w hS (hD _ (List.getElem_mem hi)).1 (hD _ (List.getElem_mem hi)).2))
  clear h hD
  go_enter Try.func58, Try.ntmps58
  go_wp2_with fail
  refine C.out.mono ?_
  rintro e w' ⟨rfl, rfl⟩
  go_wp2
  go_ret
  exact ⟨rfl, rfl⟩

end Go.Proofs.Ytjofajpcchncpaa
