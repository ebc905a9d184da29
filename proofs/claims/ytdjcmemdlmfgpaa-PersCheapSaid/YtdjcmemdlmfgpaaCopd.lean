/- The laws' own copied. -/
import Derived.Test.YtdjcmemdlmfgpaaKeep
namespace Go.Proofs.Ytdjcmemdlmfgpaa
set_option linter.unusedVariables false
open Go.RowKit

set_option maxHeartbeats 400000 in
theorem copied_any (a : Option Addr) (cap : Nat) (l : List Int) (w : World) (h : SlI w a cap l) (hb : l.length * 8 ≤ 140737488355328) :
    Calls Try.prog 7 #[.slice a l.length cap] w (RetI w l) := by
  have hlen : l.length = (ints l).length := (ints_length l).symm
  have h' : SlC w a l.length cap 1 (ints l) := h
  have hH := Lib.hid hlen
  clear hlen
  go_enter Try.func7, Try.ntmps7
  go_wp2_with (at_builtin; refine wpList_cat tInts rfl _ _ rfl w.heap.size none 0 0 [] rfl (World.ownsRow_nil _ _ _ _) _ _ _ _ rfl h' (ints_one l) ?c1 (by decide) (Nat.le_refl _) ?c2)
  case c1 => simpa using hb
  case c2 =>
    intro sa cap' w' hown hbel
    go_wp2
    go_ret
    exact ⟨sa, cap', rfl, hown, hbel⟩

theorem copied_n (a : Option Addr) (cap n : Nat) (l : List Int) (w : World) (h : SlI w a cap l) (hn : l.length = n) (hb : n * 8 ≤ 140737488355328) :
    Calls Try.prog 7 #[.slice a n cap] w (RetS w n l) := by
  subst hn
  exact (copied_any a cap l w h hb).mono fun e w' ⟨a, c, h1, h2, h3⟩ => ⟨a, c, h1, h2.sl, h3⟩

end Go.Proofs.Ytdjcmemdlmfgpaa
