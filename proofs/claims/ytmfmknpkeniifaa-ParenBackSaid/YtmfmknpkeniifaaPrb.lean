/- ParenBack: the walk. -/
import Derived.Test.YtmfmknpkeniifaaTxt
import Derived.Test.YtmfmknpkeniifaaBrk
import Derived.Test.YtmfmknpkeniifaaCopd
namespace Go.Proofs.Ytmfmknpkeniifaa
set_option linter.unusedVariables false
open Go.RowKit

set_option maxHeartbeats 4000000 in
theorem text_bad (a : Option Addr) (cap : Nat) (w : World) (h : SlI w a cap [0]) :
    Calls Try.prog 23 #[.slice a 1 cap] w fun e w' => e = .returned (.tuple #[.string ⟨#[]⟩, .int .i64 4]) ∧ Kp (Below w.heap.size w w') := by
  obtain ⟨b, off, rfl, c0⟩ := h.at 0 (by simp)
  have HB := Kp.mk (below_alloc (Nat.le_refl w.heap.size) (.cells #[.pointer none, .slice none 0 0] 83))
  have ct : (w.alloc (.cells #[.pointer none, .slice none 0 0] 83)).cell? ⟨b, off, none⟩ = some (.int .i64 0) := by
    rw [← show w.cell? ⟨b, off, none⟩ = some (.int .i64 0) from c0]
    exact HB.out.cell (p := ⟨b, off, none⟩) (World.block_lt_of_cell? w _ c0)
  have CI := Kp.mk (fun W => Try.slices_Index_int_empty none 0 0 W)
  have e0 : Lib.idxOf [] 0 = -1 := rfl
  rw [e0] at CI
  clear c0 h e0
  go_enter Try.func23, Try.ntmps23
  go_wp2
  refine wp_loop_rounds 1 ?_
  rw [rounds_succ]
  go_wp2_with fail
  refine (CI.out _).mono ?_
  rintro e w2 ⟨rfl, rfl⟩
  go_wp2
  refine bodyPost_ret (v := .tuple #[.string ⟨#[]⟩, .int .i64 4]) (by simp [results, Try.results23, go_sem]) rfl ?_
  exact ⟨rfl, HB⟩

set_option maxRecDepth 100000 in
set_option maxHeartbeats 4000000 in
theorem walk_ParenBack (a0 : Option Addr) (len0 cap0 : Nat) (z0 : List Int) (w : World) (w0 : IsRow .i64 w a0 len0 cap0 z0) :
    Calls Try.prog 5 #[.slice a0 len0 cap0] w fun e w' => e = .returned (.bool true) ∧ Below w.heap.size w w' := by
  obtain ⟨l, rfl, hs, hw, hlm⟩ := row_slc w0
  have C1 := Kp.mk (brackets_any a0 cap0 l w hs (by unfold maxLen at hlm; omega) hw)
  clear w0 hs hw
  go_enter Try.func5, Try.ntmps5
  go_wp2_with fail
  refine C1.out.mono ?_
  rintro e w1 ⟨s, b, rfl, hsb, hbal, hb120, hb1⟩
  have HB1 := Kp.mk hb1
  obtain ⟨n, hn⟩ : ∃ n, n = b.length := ⟨_, rfl⟩
  have hss : s.size = n := by rw [hn]; exact str_size hsb
  have C2 := Kp.mk (tree_any s b n w1 hsb hn.symm (by omega) hbal)
  have hse : s = ⟨(enc b).toArray⟩ := by
    cases s with
    | mk d =>
      have : d = (enc b).toArray := by rw [← hsb]
      rw [this]
  have HSE := Kp.mk hse
  have HN := Kp.mk hn
  clear C1 hb1 hsb hbal hse
  have hb120' : n ≤ 120 := by omega
  clear hb120 hn
  go_wp2_with fail
  refine C2.out.mono ?_
  rintro e w2 ⟨ta, m, tc, t, rfl, hm, HTL, HT, HTS, HB2⟩
  have HB2' := Kp.mk (below_step HB1.out HB2.out)
  have h2m : m * 2 = n := by rw [← HTL.out, HN.out]; exact HT.out.2.2
  have C3 := Kp.mk (copied_n ta tc m t w2 HTS.out HTL.out (by omega))
  clear C2 HB1 HB2
  go_wp2_with fail
  refine C3.out.mono ?_
  unfold RetS
  rintro e w3 ⟨ca, cc, rfl, HCS, hb3⟩
  have HB3 := Kp.mk (below_step HB2'.out hb3)
  have C4 := Kp.mk (text_any ca m cc t w3 HCS HTL.out (by omega) HT.out.1)
  rw [HT.out.2.1] at C4
  rw [← HSE.out] at C4
  clear C3 hb3 HCS HTS HB2'
  go_wp2_with fail
  refine C4.out.mono ?_
  rintro e w4 ⟨rfl, HB4⟩
  have HB4' := Kp.mk (below_step HB3.out HB4.out)
  have hz : SlI (w4.alloc (.cells #[.int .i64 0] 3)) (some ⟨w4.heap.size, 0, none⟩) 1 [0] := by
    refine ⟨rfl, Nat.le_refl _, by decide, (fun h => by cases h), fun i hi => ⟨w4.heap.size, 0, rfl, ?_⟩⟩
    have hi1 : i < 1 := hi
    obtain rfl : i = 0 := by omega
    exact (Box.new w4 #[.int .i64 0] 3).cell 0 rfl
  have HBA := Kp.mk (below_then_alloc HB4'.out (.cells #[.int .i64 0] 3))
  have C5 := Kp.mk (text_bad _ 1 _ hz)
  clear C4 hz HB3 HB4
  go_wp2_with fail
  refine C5.out.mono ?_
  rintro e w5 ⟨rfl, HB5⟩
  have HB5' := Kp.mk (below_step HBA.out HB5.out)
  have td : (n : Int).tdiv 2 = (m : Int) := by rw [show (n : Int).tdiv 2 = ((n / 2 : Nat) : Int) from (Int.ofNat_tdiv n 2).symm]; omega
  clear C5 HBA HB5
  go_wp2
  go_ret
  exact ⟨rfl, HB5'.out⟩

end Go.Proofs.Ytmfmknpkeniifaa
