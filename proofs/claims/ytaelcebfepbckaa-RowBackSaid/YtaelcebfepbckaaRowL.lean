/- The walk of RowBack. -/
import Derived.Test.YtaelcebfepbckaaRowK
import Derived.Test.YtaelcebfepbckaaRank
namespace Go.Proofs.Ytaelcebfepbckaa
set_option linter.unusedVariables false
open Go.RowKit

set_option maxRecDepth 100000 in
set_option maxHeartbeats 1000000 in
theorem walk_RowBack (a0 : Option Addr) (len0 cap0 : Nat) (z0 : Nat → Bool) (w : World) (w0 : IsBools w a0 len0 cap0 z0) :
    Calls Try.prog 8 #[.slice a0 len0 cap0] w fun e w' => e = .returned (.bool true) ∧ Below w.heap.size w w' := by
  obtain ⟨l, hll, hl, nl⟩ := row_bools w0
  have HL := Kp.mk hl
  have HLL := Kp.mk hll
  unfold maxLen at nl
  clear w0 hl hll
  go_enter Try.func8, Try.ntmps8
  go_wp2_with fail
  refine (flags_any a0 cap0 len0 200 l w HL.out (by omega) (by omega)).mono ?_
  rintro e wa ⟨sf, cf, rfl, hof, hb⟩
  have hlen := hof.len
  have hm200 : min len0 200 ≤ 200 := Nat.min_le_right _ _
  generalize l.take (min len0 200) = E at *
  generalize min len0 200 = n at *
  have HF := Kp.mk hof.sl
  have HB := Kp.mk hb
  have HN := Kp.mk hlen
  clear hof hb hlen
  go_wp2_with fail
  refine (row_any sf cf n E _ HF.out (by omega)).mono ?_
  rintro e wb ⟨sx, cx, rfl, hox, hbx⟩
  have hal := below_alloc (Nat.le_refl wb.heap.size) (Obj.cells #[Value.int IntKind.i64 ↑n, Value.slice sx (bwN n) cx] 57)
  have HX := Kp.mk (own_below hox hal)
  have HB2 := Kp.mk (below_step (below_step HB.out hbx) hal)
  have HF2 := Kp.mk ((HF.out.below hbx).below hal)
  have HBx := Kp.mk (Box.new wb #[Value.int IntKind.i64 ↑n, Value.slice sx (bwN n) cx] 57)
  have CM := Kp.mk (bmay_ok sx n (bwN n) cx _ _ rfl (own_slc HX.out) (by omega) (by rw [← HN.out]; exact bitsN_lt E _))
  clear hox hbx hal HB HF
  go_wp2_with fail
  refine CM.out.mono ?_
  rintro e wc ⟨rfl, hb⟩
  have HXc := Kp.mk (own_below HX.out hb)
  have HBc := Kp.mk (below_step HB2.out hb)
  have HFc := Kp.mk (HF2.out.below hb)
  have HBxc := Kp.mk (HBx.out.below hb)
  have hwbc : wb.heap.size < wc.heap.size := HBxc.out.lt
  clear hb CM HX HB2 HF2 HBx
  go_wp2
  go_loopw [6, 7] (fun s i wr => ∃ j : Nat, j ≤ n ∧ i = .int .i64 j ∧ s = .int .i64 (cntB E j : Nat) ∧ Below wc.heap.size wc wr) (fun _ i _ => n - (intOf i).toNat)
  case atStart => exact ⟨0, Nat.zero_le _, rfl, by rw [cntB_zero]; rfl, Below.refl _ _⟩
  case round =>
    obtain ⟨j, hj, rfl, rfl, hbel⟩ := hrel
    have HBE := Kp.mk hbel
    have hcj := cntB_le E j
    obtain ⟨⟨d0, d1⟩, -⟩ := box2 (HBxc.out.below hbel)
    clear hbel
    have hn : E.length = n := HN.out
    by_cases hlt : j < n
    · have hjE : j < E.length := by omega
      have hsu := cntB_succ E j hjE
      have hbt := bitsN_at E n j hlt
      rw [getD_at _ _ hjE] at hbt
      have C1 := Kp.mk (bat_ok _ sx (bwN n) cx n j (bitsN E n) wr rfl (own_below HXc.out HBE.out) (by omega) hlt (bitsN_lt E _))
      rw [hbt] at C1
      generalize ht : E[j] = t at *
      have HT := Kp.mk ht
      have HSU := Kp.mk hsu
      clear hbt hn ht hsu
      go_wp2_with fail
      refine C1.out.mono ?_
      rintro e wd ⟨rfl, hbd⟩
      have HBD := Kp.mk (below_step HBE.out hbd)
      obtain ⟨⟨d2, d3⟩, -⟩ := box2 (HBxc.out.below HBD.out)
      have C2 := Kp.mk (brank_ok _ sx (bwN n) cx n j (bitsN E n) wd rfl (own_below HXc.out HBD.out) (by omega) (by omega) (bitsN_lt E _))
      have hp := pcn_bits E j (by omega)
      rw [HN.out] at hp
      rw [hp] at C2
      clear hbd C1 d0 d1 hp
      generalize cntB E j = z at *
      go_wp2_with fail
      refine C2.out.mono ?_
      rintro e we ⟨rfl, hbe⟩
      have HBF := Kp.mk (below_step HBD.out hbe)
      obtain ⟨b, off, rfl, c1⟩ := (HFc.out.below HBF.out).at j hjE
      rw [HT.out] at c1
      clear hbe C2 d2 d3
      cases t with
      | true =>
        have HSU' := Kp.mk (show cntB E (j + 1) = z + 1 from HSU.out)
        go_wp2
        go_roundw
        case rel => exact ⟨j + 1, by omega, by go_num, by rw [HSU'.out]; go_num, HBF.out⟩
        case measure => simp [intOf]; omega
      | false =>
        have HSU' := Kp.mk (show cntB E (j + 1) = z from HSU.out)
        go_wp2
        go_roundw
        case rel => exact ⟨j + 1, by omega, by go_num, by rw [HSU'.out], HBF.out⟩
        case measure => simp [intOf]; omega
    · obtain rfl : j = n := by omega
      have C2 := Kp.mk (brank_ok _ sx (bwN j) cx j j (bitsN E j) wr rfl (own_below HXc.out HBE.out) (by omega) (by omega) (bitsN_lt E _))
      have hp := pcn_bits E j (by omega)
      rw [HN.out] at hp
      rw [hp] at C2
      clear hp hn
      generalize cntB E j = z at *
      have t1 : ((z : Int) == z) = true := by simp
      go_wp2_with fail
      refine C2.out.mono ?_
      rintro e we ⟨rfl, hbe⟩
      have HBF := Kp.mk (below_step HBc.out (below_step HBE.out hbe))
      clear hbe C2 d0 d1
      go_wp2
      go_ret
      exact ⟨rfl, HBF.out⟩

end Go.Proofs.Ytaelcebfepbckaa
