/- near: far, coord: the walks; what a search is asked. -/
import Derived.Test.YtlmdlholmlbcbaaNrH
import Derived.Test.YtlmdlholmlbcbaaPts
import Derived.Test.YtlmdlholmlbcbaaTail
namespace Go.Proofs.Ytlmdlholmlbcbaa
set_option linter.unusedVariables false
open Go.RowKit
open Hp (nlt nlt_iff Best KT KD HeapF)

def fdist (p q : Pt) : Int := (p.x - q.x) * (p.x - q.x) + (p.y - q.y) * (p.y - q.y)
def crd (p : Pt) (deep : Nat) : Int := if deep % 2 = 0 then p.x else p.y
def NearXY (p : Pt) : Prop := (-1048576 ≤ p.x ∧ p.x ≤ 1048576) ∧ (-1048576 ≤ p.y ∧ p.y ≤ 1048576)
theorem Pt.Near.xy {p : Pt} (h : p.Near) : NearXY p := ⟨h.1, h.2.1⟩
theorem sq_le (a : Int) (h1 : -2097152 ≤ a) (h2 : a ≤ 2097152) : 0 ≤ a * a ∧ a * a ≤ 4398046511104 := by
  have h3 : 0 ≤ a * a := by
    rcases Int.le_total 0 a with h | h
    · exact Int.mul_nonneg h h
    · have := Int.mul_nonneg (show 0 ≤ -a by omega) (show 0 ≤ -a by omega)
      rwa [Int.neg_mul_neg] at this
  refine ⟨h3, ?_⟩
  rcases Int.le_total 0 a with h | h
  · have := Int.mul_le_mul h2 h2 h (by omega)
    omega
  · have := Int.mul_le_mul (show -a ≤ 2097152 by omega) (show -a ≤ 2097152 by omega) (show 0 ≤ -a by omega) (by omega)
    rw [Int.neg_mul_neg] at this; omega
theorem fdist_bd {p q : Pt} (hp : NearXY p) (hq : NearXY q) : 0 ≤ fdist p q ∧ fdist p q ≤ 8796093022208 := by
  have h1 := sq_le (p.x - q.x) (by have := hp.1; have := hq.1; omega) (by have := hp.1; have := hq.1; omega)
  have h2 := sq_le (p.y - q.y) (by have := hp.2; have := hq.2; omega) (by have := hp.2; have := hq.2; omega)
  unfold fdist; omega
theorem crd_bd {p : Pt} (hp : NearXY p) (d : Nat) : -1048576 ≤ crd p d ∧ crd p d ≤ 1048576 := by
  unfold crd
  split
  · exact hp.1
  · exact hp.2
theorem crd_far (p q : Pt) (d : Nat) : (crd p d - crd q d) * (crd p d - crd q d) ≤ fdist p q := by
  have sq : ∀ a : Int, 0 ≤ a * a := fun a => by
    rcases Int.le_total 0 a with h | h
    · exact Int.mul_nonneg h h
    · have := Int.mul_nonneg (show 0 ≤ -a by omega) (show 0 ≤ -a by omega)
      rwa [Int.neg_mul_neg] at this
  have h1 := sq (p.x - q.x)
  have h2 := sq (p.y - q.y)
  unfold crd fdist
  split <;> omega

set_option maxRecDepth 100000 in
set_option maxHeartbeats 2000000 in
theorem far_any (p q : Pt) (w : World) (hp : NearXY p) (hq : NearXY q) :
    Calls Try.prog 68 #[.agg #[.int .i64 p.x, .int .i64 p.y, .int .i64 p.w], .agg #[.int .i64 q.x, .int .i64 q.y, .int .i64 q.w]] w fun e w' => e = .returned (.int .i64 (fdist p q)) ∧ Below w.heap.size w w' := by
  obtain ⟨u, hu⟩ : ∃ u, p.x - q.x = u := ⟨_, rfl⟩
  obtain ⟨v, hv⟩ : ∃ v, p.y - q.y = v := ⟨_, rfl⟩
  have hub : -2097152 ≤ u ∧ u ≤ 2097152 := by have := hp.1; have := hq.1; omega
  have hvb : -2097152 ≤ v ∧ v ≤ 2097152 := by have := hp.2; have := hq.2; omega
  have hu2 := sq_le u hub.1 hub.2
  have hv2 := sq_le v hvb.1 hvb.2
  have HE := Kp.mk (show fdist p q = u * u + v * v by unfold fdist; rw [hu, hv])
  obtain ⟨u2, hu3⟩ : ∃ z, u * u = z := ⟨_, rfl⟩
  obtain ⟨v2, hv3⟩ : ∃ z, v * v = z := ⟨_, rfl⟩
  rw [hu3] at hu2 HE
  rw [hv3] at hv2 HE
  have e1 : IntKind.i64.wrap (p.x - q.x) = u := by rw [hu]; exact IntWalk.i64_in _ (by omega)
  have e2 : IntKind.i64.wrap (p.y - q.y) = v := by rw [hv]; exact IntWalk.i64_in _ (by omega)
  have e3 : IntKind.i64.wrap (u * u) = u2 := by rw [hu3]; exact IntWalk.i64_in _ (by omega)
  have e4 : IntKind.i64.wrap (v * v) = v2 := by rw [hv3]; exact IntWalk.i64_in _ (by omega)
  have e5 : IntKind.i64.wrap (u2 + v2) = u2 + v2 := IntWalk.i64_in _ (by omega)
  have HB := Kp.mk ((below_alloc (Nat.le_refl w.heap.size) (.cells #[.int .i64 p.x, .int .i64 p.y, .int .i64 p.w] 41)).alloc (by rw [alloc_size]; omega) (.cells #[.int .i64 q.x, .int .i64 q.y, .int .i64 q.w] 41))
  rw [HE.out]
  clear HE hu hv hub hvb hu2 hv2 hu3 hv3 hp hq
  go_enter Try.func68, Try.ntmps68
  go_wp2
  go_ret
  exact ⟨rfl, HB.out⟩

set_option maxRecDepth 100000 in
set_option maxHeartbeats 2000000 in
theorem coord_any (p : Pt) (deep : Nat) (w : World) (hd : deep ≤ 1000) :
    Calls Try.prog 99 #[.agg #[.int .i64 p.x, .int .i64 p.y, .int .i64 p.w], .int .i64 (deep : Int)] w fun e w' => e = .returned (.int .i64 (crd p deep)) ∧ w' = w.alloc (.cells #[.int .i64 p.x, .int .i64 p.y, .int .i64 p.w] 41) := by
  have e1 : IntKind.i64.wrap ((deep : Int).tmod 2) = ((deep % 2 : Nat) : Int) := by
    rw [show (deep : Int).tmod 2 = ((deep % 2 : Nat) : Int) from (Int.ofNat_tmod _ _).symm]
    exact IntWalk.i64_in _ (by omega)
  by_cases h : deep % 2 = 0
  · rw [show crd p deep = p.x from if_pos h]
    rw [h] at e1
    have t1 : ((deep : Int) % 2 == 0) = true := by rw [beq_iff_eq]; omega
    have hm : (deep : Int) % 2 = 0 := by omega
    clear h
    go_enter Try.func99, Try.ntmps99
    go_wp2
    go_ret
    exact ⟨rfl, rfl⟩
  · rw [show crd p deep = p.y from if_neg h]
    rw [show deep % 2 = 1 by omega] at e1
    have hm : (deep : Int) % 2 = 1 := by omega
    clear h
    go_enter Try.func99, Try.ntmps99
    go_wp2
    go_ret
    exact ⟨rfl, rfl⟩

end Go.Proofs.Ytlmdlholmlbcbaa
