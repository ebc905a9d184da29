/- Package lis: Falls, and the laws' own rising. -/
import Derived.Test.YtnieacfleabikaaRise
namespace Go.Proofs.Ytnieacfleabikaa
set_option linter.unusedVariables false
open Go.RowKit

set_option maxHeartbeats 1000000 in
theorem falls_any (a : Option Addr) (cap n : Nat) (l : List Int) (w : World) (h : SlI w a cap l) (hl : l.length = n) (hn : n ≤ 300) (hn0 : 0 < n) :
    Calls Try.prog 41 #[.slice a n cap] w (fun e w' => ∃ oa r oc, e = .returned (.tuple #[.slice oa r oc, .int .i64 0]) ∧ Kp ((pilesK l n).length = r) ∧ Kp (RowsI w' oa r oc ((pilesK l n).map nts)) ∧ Below w.heap.size w w') := by
  have H := Kp.mk h
  have HL := Kp.mk hl
  have hn' : ¬ (300 < (n : Int)) := by omega
  clear h hl
  go_enter Try.func41, Try.ntmps41
  go_wp2_with fail
  refine (piles_any a cap n l w H.out HL.out hn hn0).mono ?_
  rintro e w1 ⟨oa, oc, r, la, lc, rfl, HR, HP, _, hb1⟩
  go_wp2
  go_ret2
  exact ⟨oa, r, oc, rfl, HR, HP, hb1⟩

theorem rise35 : (riseOf [3, 5]).length = 2 := by rw [riseOf_length]; decide

set_option maxHeartbeats 1000000 in
theorem rising_any (a : Option Addr) (cap n : Nat) (l : List Int) (w : World) (h : SlI w a cap l) (hl : l.length = n) (hn : n ≤ 300) (hn0 : 0 < n) :
    Calls Try.prog 25 #[.slice a n cap] w (fun e w' => ∃ ra rc r fa fc, e = .returned (.tuple #[.slice ra r rc, .slice fa r fc, .bool true]) ∧ Kp ((pilesK l n).length = r) ∧ Kp (SlI w' ra rc (nts (riseOf l))) ∧ Kp (RowsI w' fa r fc ((pilesK l n).map nts)) ∧ Below w.heap.size w w') := by
  have H := Kp.mk h
  have HL := Kp.mk hl
  clear h hl
  go_enter Try.func25, Try.ntmps25
  go_wp2_with fail
  refine (copied_n _ _ _ _ _ H.out HL.out (by omega)).mono ?_
  rintro e w1 ⟨c1, d1, rfl, h1, hb1⟩
  have H1 := Kp.mk h1
  clear h1
  go_wp2_with fail
  refine (rise_any _ _ _ _ _ H1.out HL.out hn hn0).mono ?_
  rintro e w2 ⟨ra, r, rc, rfl, HR, HS, hb2⟩
  have hb02 := below_step hb1 hb2
  have H2 := Kp.mk (H.out.below hb02)
  go_wp2_with fail
  refine (copied_n _ _ _ _ _ H2.out HL.out (by omega)).mono ?_
  rintro e w3 ⟨c3, d3, rfl, h3, hb3⟩
  have H3 := Kp.mk h3
  clear h3
  go_wp2_with fail
  refine (falls_any _ _ _ _ _ H3.out HL.out hn hn0).mono ?_
  rintro e w4 ⟨fa, r', fc, rfl, HR', HF, hb4⟩
  obtain rfl : r' = r := by
    have e1 := HR.out
    have e2 := HR'.out
    rw [riseOf_length, HL.out] at e1
    omega
  have hb24 := below_step hb3 hb4
  have HS4 := Kp.mk (HS.out.below hb24)
  have hb04 := below_step hb02 hb24
  have hlit := World.ownsRow_lit (base := w4.heap.size) (size := 1) (e := 3) w4 #[.int .i64 3, .int .i64 5] 2 (Nat.le_refl _) (by decide) rfl
  have HLT := Kp.mk (own_sl_len (l := [3, 5]) hlit rfl)
  have hbl := below_alloc (Nat.le_refl w4.heap.size) (.cells #[.int .i64 3, .int .i64 5] 3)
  have HBL := Kp.mk hbl
  have hone : (1 : Int) < 3 := by omega
  clear hlit hbl
  go_wp2_with fail
  refine (rise_any _ _ 2 [3, 5] _ HLT.out rfl (by omega) (by omega)).mono ?_
  rintro e w5 ⟨oa, o, oc, rfl, HO, _, hb5⟩
  obtain rfl : 2 = o := by have := HO.out; rw [rise35] at this; exact this
  have hb45 := below_step HBL.out hb5
  go_wp2
  refine bodyPost_ret (v := .tuple #[.slice ra r' rc, .slice fa r' fc, .bool true]) (by simp [results, Try.results25, go_sem]) rfl ?_
  exact ⟨ra, rc, r', fa, fc, rfl, HR', ⟨HS4.out.below hb45⟩, ⟨HF.out.below hb45⟩, below_step hb04 hb45⟩

end Go.Proofs.Ytnieacfleabikaa
