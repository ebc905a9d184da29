/- The law's own RectOf. -/
import Derived.Test.YtakabjkhcdkkjaaDoorNumP
namespace Go.Proofs.YtakabjkhcdkkjaaDoor
set_option linter.unusedVariables false
open Go.RowKit

/-- What RectOf hands back: a rectangle below a bound. -/
def RectPost (w : World) (n : Nat) (e : Ending) (w' : World) : Prop :=
  ∃ X0 Y0 X1 Y1 : Nat, X0 ≤ X1 ∧ X1 < n ∧ Y0 ≤ Y1 ∧ Y1 < n ∧ e = .returned (.agg #[.int .i64 X0, .int .i64 Y0, .int .i64 X1, .int .i64 Y1]) ∧ Below w.heap.size w w'

set_option maxHeartbeats 1000000 in
theorem rectOf_any (a b c d : Int) (n : Nat) (w : World) (hn : 0 < n) (hn2 : n ≤ 100000) (wa : (Lit.int .i64 a).wf = true) (wb : (Lit.int .i64 b).wf = true) (wc : (Lit.int .i64 c).wf = true) (wd : (Lit.int .i64 d).wf = true) :
    Calls Tryd.prog 10 #[.int .i64 a, .int .i64 b, .int .i64 c, .int .i64 d, .int .i64 n] w (RectPost w n) := by
  obtain ⟨a1, a2⟩ := wf_bd wa
  obtain ⟨b1, b2⟩ := wf_bd wb
  obtain ⟨c1, c2⟩ := wf_bd wc
  obtain ⟨d1, d2⟩ := wf_bd wd
  obtain ⟨x, hx, xl⟩ := pick_nat a n (by omega)
  obtain ⟨y, hy, yl⟩ := pick_nat b n (by omega)
  obtain ⟨p, hp, pl⟩ := pick_nat c ((n : Int) - x) (by omega)
  obtain ⟨q, hq, ql⟩ := pick_nat d ((n : Int) - y) (by omega)
  have HX := Kp.mk hx
  have HY := Kp.mk hy
  have HP := Kp.mk hp
  have HQ := Kp.mk hq
  clear wa wb wc wd hx hy hp hq
  go_enter Tryd.func10, Tryd.ntmps10
  go_wp2_with fail
  refine (picked_any a n _ (by omega) (by omega) a1 a2).mono ?_
  rintro e w' ⟨rfl, rfl⟩
  rw [HX.out]
  go_wp2_with fail
  refine (picked_any b n _ (by omega) (by omega) b1 b2).mono ?_
  rintro e w' ⟨rfl, rfl⟩
  rw [HY.out]
  go_wp2_with fail
  refine (picked_any c ((n : Int) - x) _ (by omega) (by omega) c1 c2).mono ?_
  rintro e w' ⟨rfl, rfl⟩
  rw [HP.out]
  go_wp2_with fail
  refine (picked_any d ((n : Int) - y) _ (by omega) (by omega) d1 d2).mono ?_
  rintro e w' ⟨rfl, rfl⟩
  rw [HQ.out]
  go_wp2
  exact bodyPost_ret (v := .agg #[.int .i64 x, .int .i64 y, .int .i64 (x + p), .int .i64 (y + q)]) (by simp [results, Tryd.results10, go_sem]) rfl ⟨x, y, x + p, y + q, by omega, by omega, by omega, by omega, by push_cast; rfl, (Below.refl _ _).alloc (Nat.le_refl _) _⟩

end Go.Proofs.YtakabjkhcdkkjaaDoor
