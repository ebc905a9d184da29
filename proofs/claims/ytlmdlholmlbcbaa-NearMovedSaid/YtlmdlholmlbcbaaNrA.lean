/- The laws' own apart. -/
import Derived.Test.YtlmdlholmlbcbaaNrS
namespace Go.Proofs.Ytlmdlholmlbcbaa
set_option linter.unusedVariables false
open Go.RowKit

set_option maxRecDepth 100000 in
set_option maxHeartbeats 2000000 in
theorem apart_any (p q : Pt) (w : World) (hp : NearXY p) (hq : NearXY q) :
    Calls Try.prog 28 #[.agg #[.int .i64 p.x, .int .i64 p.y, .int .i64 p.w], .agg #[.int .i64 q.x, .int .i64 q.y, .int .i64 q.w]] w fun e w' => e = .returned (.int .i64 (fdist p q)) ∧ Below w.heap.size w w' := by
  obtain ⟨u, hu⟩ : ∃ u, p.x - q.x = u := ⟨_, rfl⟩
  obtain ⟨v, hv⟩ : ∃ v, p.y - q.y = v := ⟨_, rfl⟩
  have hub : -2097152 ≤ u ∧ u ≤ 2097152 := by have := hp.1; have := hq.1; omega
  have hvb : -2097152 ≤ v ∧ v ≤ 2097152 := by have := hp.2; have := hq.2; omega
  have hu2 := sq_le u hub.1 hub.2
  have hv2 := sq_le v hvb.1 hvb.2
  have HE := Kp.mk (show fdist p q = u * u + v * v by unfold fdist; rw [hu, hv])
  obtain ⟨u2, hu3⟩ : ∃ z, u * u = z := ⟨_, rfl⟩
  obtain ⟨v2, hv3⟩ : ∃ z, v * v = z := ⟨_, rfl⟩
  rw [hu3] at hu2 HE
  rw [hv3] at hv2 HE
  have e1 : IntKind.i64.wrap (p.x - q.x) = u := by rw [hu]; exact IntWalk.i64_in _ (by omega)
  have e2 : IntKind.i64.wrap (p.y - q.y) = v := by rw [hv]; exact IntWalk.i64_in _ (by omega)
  have e3 : IntKind.i64.wrap (u * u) = u2 := by rw [hu3]; exact IntWalk.i64_in _ (by omega)
  have e4 : IntKind.i64.wrap (v * v) = v2 := by rw [hv3]; exact IntWalk.i64_in _ (by omega)
  have e5 : IntKind.i64.wrap (u2 + v2) = u2 + v2 := IntWalk.i64_in _ (by omega)
  have HB := Kp.mk ((below_alloc (Nat.le_refl w.heap.size) (.cells #[.int .i64 p.x, .int .i64 p.y, .int .i64 p.w] 41)).alloc (by rw [alloc_size]; omega) (.cells #[.int .i64 q.x, .int .i64 q.y, .int .i64 q.w] 41))
  rw [HE.out]
  clear HE hu hv hub hvb hu2 hv2 hu3 hv3 hp hq
  go_enter Try.func28, Try.ntmps28
  go_wp2
  go_ret
  exact ⟨rfl, HB.out⟩

end Go.Proofs.Ytlmdlholmlbcbaa
