/- The law's own 'then' of two orders. -/
import Derived.Test.YtnieacfleabikaaPermP
import Derived.Test.YtnieacfleabikaaPermT
namespace Go.Proofs.Ytnieacfleabikaa
set_option linter.unusedVariables false
open Go.RowKit

/-- The law's own 'then'. -/
theorem then_n (a b : Option Addr) (ca cb n : Nat) (p q : List Int) (w : World) (h : SlI w a ca p) (h' : SlI w b cb q) (hp : p.length = n) (hq : q.length = n) (hn : n ≤ 300) (op : Order p) (oq : Order q) :
    Calls Try.prog 22 #[.slice a n ca, .slice b n cb] w (RetS w n (thenL p q)) := by
  have F : Facts w [(a, ca, p), (b, cb, q)] := ((Facts.nil w).cons h').cons h
  have HB : Below w.heap.size w w := Below.refl _ _
  have OP := Lib.hid op
  have OQ := Lib.hid oq
  have HP := Lib.hid hp
  have HQ := Lib.hid hq
  clear h h' op oq hp hq
  go_enter Try.func22, Try.ntmps22
  go_wp2_with fail
  refine (copied_n _ _ n p _ (F.get 0 rfl) HP.out (by omega)).mono ?_
  rintro e w1 ⟨pa, pc, rfl, hs, hb⟩
  replace F := (F.below hb).cons hs
  replace HB := below_step HB hb
  clear hs hb
  go_wp2_with fail
  refine (copied_n _ _ n q _ (F.get 2 rfl) HQ.out (by omega)).mono ?_
  rintro e w2 ⟨qa, qc, rfl, hs, hb⟩
  replace F := (F.below hb).cons hs
  replace HB := below_step HB hb
  clear hs hb
  go_wp2_with fail
  have hT := pthen_any pa qa pc qc p q w2 (F.get 1 rfl) (F.get 0 rfl) (by rw [HP.out]; exact hn) (by rw [HP.out, HQ.out]) OP.out OQ.out
  rw [HP.out, HQ.out] at hT
  refine hT.mono ?_
  rintro e w3 ⟨ra, rc, rfl, hs, hb⟩
  replace HB := below_step HB hb
  have hR : Hid (SlI w3 ra rc (thenL p q)) := by
    have := own_slc hs
    show SlI w3 ra rc (thenL p q)
    unfold SlI
    rw [thenL_length, HP.out]
    exact this
  clear hs hb hT
  go_wp2
  go_ret
  exact ⟨ra, rc, rfl, hR.out, HB⟩

end Go.Proofs.Ytnieacfleabikaa
