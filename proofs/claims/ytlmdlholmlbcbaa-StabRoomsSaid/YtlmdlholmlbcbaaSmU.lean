/- The places of spans, sorted by one of their ends. -/
import Derived.Test.YtlmdlholmlbcbaaSmT
import Derived.Test.YtlmdlholmlbcbaaSpn
namespace Go.Proofs.Ytlmdlholmlbcbaa
set_option linter.unusedVariables false
open Go.RowKit

theorem sortStable_any (f : FuncId) (cb : Array Value) (eg : ∀ args w, (callFunc f args).run Try.prog w = .ok (.enter f args) w) (key : Nat → Int) (B g c n mm : Nat) (w0 : World) (hc : CmpK f cb key g mm w0) (hn : n ≤ 100000)
    (X0 : List Nat) (w : World) (h : Rw B g c n mm w0 w X0) :
    Calls Try.prog 86 #[.slice (some ⟨g, 0, none⟩) n c, .func (.func f) #[] cb] w fun e w' => e = .returned (.tuple #[]) ∧ ∃ M, Kp (M.Perm X0 ∧ Up key M) ∧ Kp (Rw B g c n mm w0 w' M) := by
  have C := Kp.mk (stable_any f cb eg key B g c n mm w0 hc hn X0 w h)
  clear h hc
  go_enter Try.func86, Try.ntmps86
  go_wp2_with fail
  refine C.out.mono ?_
  rintro e w2 ⟨rfl, M, HM, HR⟩
  go_wp2
  go_end0
  exact ⟨rfl, M, HM, HR⟩

/-- A function that tells a number of a span. -/
def TellsBy (F : FuncId) (by' : Spn → Int) : Prop := ∀ (s : Spn) (w : World), Calls Try.prog F #[.agg #[.int .i64 s.lo, .int .i64 s.hi]] w fun e w' => e = .returned (.int .i64 (by' s)) ∧ Below w.heap.size w w'
theorem low_any : TellsBy 46 Spn.lo := by
  intro s w
  obtain ⟨x, y⟩ := s
  dsimp only
  go_enter Try.func46, Try.ntmps46
  go_wp2
  go_ret
  exact ⟨rfl, below_alloc (Nat.le_refl _) _⟩
theorem high_any : TellsBy 45 Spn.hi := by
  intro s w
  obtain ⟨x, y⟩ := s
  dsimp only
  go_enter Try.func45, Try.ntmps45
  go_wp2
  go_ret
  exact ⟨rfl, below_alloc (Nat.le_refl _) _⟩

set_option maxRecDepth 100000 in
set_option maxHeartbeats 2000000 in
theorem placesCmp_any (F : FuncId) (by' : Spn → Int) (hF : TellsBy F by') (eg : ∀ args w, (callFunc F args).run Try.prog w = .ok (.enter F args) w) (b2 b3 : Nat) (a : Option Addr) (cap n x y : Nat) (L : List Spn) (w : World) (h : SlF spL 2 w a n cap L)
    (h2 : w.cell? ⟨b2, 0, none⟩ = some (.slice a n cap)) (h3 : w.cell? ⟨b3, 0, none⟩ = some (.func (.func F) #[] #[])) (hx : x < n) (hy : y < n) :
    Calls Try.prog 87 #[.int .i64 x, .int .i64 y, .pointer (some ⟨b3, 0, none⟩), .pointer (some ⟨b2, 0, none⟩)] w fun e w' => e = .returned (.int .i64 (cmpI (by' (L.getD x sp0)) (by' (L.getD y sp0)))) ∧ Below w.heap.size w w' := by
  obtain ⟨b, off, rfl, x0, x1⟩ := sp_at h x hx
  obtain ⟨_, _, e1, y0, y1⟩ := sp_at h y hy
  simp only [Option.some.injEq, Addr.mk.injEq, and_true] at e1
  obtain ⟨rfl, rfl⟩ := e1
  generalize L.getD x sp0 = s at *
  generalize L.getD y sp0 = t at *
  have C1 := Kp.mk (fun W => hF s W)
  have C2 := Kp.mk (fun W => hF t W)
  have C3 := Kp.mk (fun W => show Calls Try.prog 67 #[.int .i64 (by' s), .int .i64 (by' t)] W (fun e w' => e = .returned (.int .i64 (cmpI (by' s) (by' t))) ∧ Below W.heap.size W w') from (compare_any (by' s) (by' t) W).mono (by rintro e w' ⟨rfl, rfl⟩; exact ⟨rfl, Below.refl _ _⟩))
  generalize cmpI (by' s) (by' t) = r at *
  obtain ⟨u, hu⟩ : ∃ u, by' s = u := ⟨_, rfl⟩
  obtain ⟨v, hv⟩ : ∃ v, by' t = v := ⟨_, rfl⟩
  rw [hu] at C1 C3
  rw [hv] at C2 C3
  obtain ⟨s0, s1⟩ := s
  obtain ⟨t0, t1⟩ := t
  dsimp only at x0 x1 y0 y1 C1 C2
  have k0 := later_cell x0
  have k1 := later_cell x1
  have k2 := later_cell y0
  have k3 := later_cell y1
  have k4 := later_cell h2
  have k5 := later_cell h3
  clear h hF hu hv
  go_enter Try.func87, Try.ntmps87
  go_wp2
  refine region_later (by kernel_rfl) (by kernel_rfl) ?_
  iterate 14 (go_big_quiet_step (first | (go_at_fn F; first | exact q_later (C1.out _) | exact q_later (C2.out _)) | (go_at_call 67; exact q_later (C3.out _)) | fail))
  refine wpQuiet_nil ?_
  rintro w' ⟨xl, rfl⟩
  go_wp2
  go_ret
  exact ⟨rfl, xl.le⟩

end Go.Proofs.Ytlmdlholmlbcbaa
