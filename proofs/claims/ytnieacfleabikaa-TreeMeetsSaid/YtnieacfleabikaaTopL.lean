/- The laws' own 'topped', and a number put behind others. -/
import Derived.Test.YtnieacfleabikaaTopT
import Derived.Test.YtnieacfleabikaaNum
namespace Go.Proofs.Ytnieacfleabikaa
set_option linter.unusedVariables false
open Go.RowKit

set_option maxHeartbeats 1000000 in
theorem topped_any (a : Option Addr) (cap n x y : Nat) (l : List Int) (w : World) (h : SlI w a cap l) (hl : l.length = n) (hn : n ≤ 300) (hxy : x ≤ y) (hy : y < n) :
    Calls Try.prog 26 #[.slice a n cap, .int .i64 x, .int .i64 y] w fun e w' => e = .returned (.int .i64 (tix l x (y + 1 - x) : Nat)) ∧ Below w.heap.size w w' := by
  have H := Kp.mk h
  have HL := Kp.mk hl
  clear h hl
  go_enter Try.func26, Try.ntmps26
  go_wp2_with fail
  refine (copied_n a cap n l _ H.out HL.out (by omega)).mono ?_
  rintro e w1 ⟨ca, cc, rfl, hs, hb⟩
  have H1 := Kp.mk (H.out.below hb)
  have HB1 := Kp.mk hb
  have HS1 := Kp.mk hs
  clear hs hb
  go_wp2_with fail
  refine (rmake_any ca cc n l _ HS1.out HL.out hn).mono ?_
  rintro e w2 ⟨ta, tc, rfl, hr, hb⟩
  have H2 := Kp.mk (H1.out.below hb)
  have HB2 := Kp.mk (below_step HB1.out hb)
  have HR2 := Kp.mk hr
  clear hr hb
  go_wp2_with fail
  refine (copied_n a cap n l _ H2.out HL.out (by omega)).mono ?_
  rintro e w3 ⟨da, dc, rfl, hs, hb⟩
  have HB3 := Kp.mk (below_step HB2.out hb)
  have HR3 := Kp.mk (HR2.out.below hb)
  have HS3 := Kp.mk hs
  clear hs hb
  go_wp2_with fail
  refine (rtop_any da dc n l ta tc x y _ HS3.out HL.out hn HR3.out hxy hy).mono ?_
  rintro e w4 ⟨rfl, hb⟩
  have HB4 := Kp.mk (below_step HB3.out hb)
  clear hb
  go_wp2
  go_ret
  exact ⟨rfl, HB4.out⟩

end Go.Proofs.Ytnieacfleabikaa
