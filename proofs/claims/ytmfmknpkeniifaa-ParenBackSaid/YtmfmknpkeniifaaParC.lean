/- Package paren: matched and Check, of brackets that may be. -/
import Derived.Test.YtmfmknpkeniifaaPar
namespace Go.Proofs.Ytmfmknpkeniifaa
set_option linter.unusedVariables false
open Go.RowKit

set_option maxHeartbeats 400000 in
theorem matched_any (s : ByteArray) (b : List Bool) (n : Nat) (w : World) (hs : s.data.toList = enc b) (hn : b.length = n) (hl : n ≤ 400) (hb : Bal b) :
    Calls Try.prog 84 #[.string s] w (fun e w' => ∃ ma mc m, e = .returned (.tuple #[.slice ma n mc, .int .i64 0]) ∧ SlI w' ma mc m ∧ Mat b n [] m ∧ Below w.heap.size w w') := by
  have hsz : s.size = n := by rw [str_size hs, hn]
  have hM := Kp.mk (matches_any s b n w hs hn (by omega) hb)
  clear hs hn hb
  go_enter Try.func84, Try.ntmps84
  go_wp2_with fail
  refine hM.out.mono ?_
  rintro e w1 ⟨ma, mc, m, rfl, h1, h2, h3⟩
  have H1 := Kp.mk h1
  have H2 := Kp.mk h2
  clear h1 h2
  go_wp2
  go_ret2
  exact ⟨ma, mc, m, rfl, H1.out, H2.out, h3⟩

theorem pcheck_any (s : ByteArray) (b : List Bool) (w : World) (hs : s.data.toList = enc b) (hl : b.length ≤ 400) (hb : Bal b) :
    Calls Try.prog 49 #[.string s] w (fun e w' => e = .returned (.int .i64 0) ∧ Below w.heap.size w w') := by
  have hM := Kp.mk (matched_any s b _ w hs rfl hl hb)
  clear hs hl hb
  go_enter Try.func49, Try.ntmps49
  go_wp2_with fail
  refine hM.out.mono ?_
  rintro e w1 ⟨ma, mc, m, rfl, h1, h2, h3⟩
  clear h1 h2
  go_wp2
  go_ret
  exact ⟨rfl, h3⟩

end Go.Proofs.Ytmfmknpkeniifaa
