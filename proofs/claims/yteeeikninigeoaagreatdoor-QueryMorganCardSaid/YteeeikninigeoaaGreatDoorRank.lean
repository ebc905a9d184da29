import Derived.Test.YteeeikninigeoaaGreatDoorMPo
import Derived.Test.YteeeikninigeoaaGreatDoorBits
import Derived.Test.YteeeikninigeoaaGreatDoorPop
/- Package bits: ranks. -/
namespace Go.Proofs.YteeeikninigeoaaGreatDoor
set_option linter.unusedVariables false
open Go.RowKit

set_option maxRecDepth 100000 in
set_option maxHeartbeats 1000000 in
theorem brank_ok (B : Nat) (sa : Option Addr) (m cap n i N : Nat) (w : World) (hm : m = bwN n) (hO : w.ownsRow B 176 1 (.slice sa m cap) m (wds (wordsOf N m))) (hn : n ≤ 4096) (hi : i ≤ n) (hN : N < 2 ^ n) :
    Calls Tryz.prog 233 #[.agg #[.int .i64 n, .slice sa m cap], .int .i64 i] w (fun e w' => e = .returned (.tuple #[.int .i64 (pcn i N : Nat), .int .i64 0]) ∧ Below w.heap.size w w') := by
  have HM := Kp.mk hm
  have HO := Kp.mk hO
  have HN := Kp.mk hN
  have hqm : i / 64 ≤ m := by rw [hm]; unfold bwN; omega
  have hqm2 : 0 < i % 64 → i / 64 < m := fun h => by rw [hm]; unfold bwN; omega
  have hm64 : m ≤ 64 := by rw [hm]; unfold bwN; omega
  clear hm hO hN
  go_enter Tryz.func233, Tryz.ntmps233
  go_wp2_with fail
  refine (bmay_ok sa n m cap N _ HM.out ((own_slc HO.out).below (below_alloc (Nat.le_refl _) _)) hn HN.out).mono ?_
  rintro e w1 ⟨rfl, hbel⟩
  have h4 := (Box.new w #[Value.int IntKind.i64 ↑n, Value.slice sa m cap] 229).below hbel
  obtain ⟨⟨d0, d1⟩, -⟩ := box2 h4
  have hB : Kp (Below w.heap.size w w1) := ⟨below_step (below_alloc (Nat.le_refl _) _) hbel⟩
  have HW := Kp.mk (own_below HO.out hB.out)
  have hcap : m ≤ cap := (own_slc HO.out).le
  have t1 : decide ((i : Int) < 0) = false := decide_eq_false (by omega)
  have t2 : decide ((n : Int) < i) = false := decide_eq_false (by omega)
  have t4 : decide (n < i) = false := decide_eq_false (by omega)
  have hq' : (i : Int) / 64 = ((i / 64 : Nat) : Int) := by omega
  have hr' : (i : Int) % 64 = ((i % 64 : Nat) : Int) := by omega
  have hr64 : i % 64 < 64 := by omega
  have hres := Kp.mk (show pcn i N = pcn (64 * (i / 64)) N + pcn (i % 64) (wrd N (i / 64)) by rw [← pcn_rest N _ _ (by omega), show 64 * (i / 64) + i % 64 = i by omega])
  clear hbel h4 HO
  generalize hqe : i / 64 = q at *
  generalize hre : i % 64 = r at *
  have HQR := Kp.mk (show i = 64 * q + r by omega)
  clear hqe hre
  have hqc : q ≤ cap := by omega
  go_wp2
  go_loop [6, 30] (fun s i => ∃ j : Nat, j ≤ q ∧ i = .int .i64 j ∧ s = .int .i64 (pcn (64 * j) N : Nat)) (fun _ i => q - (intOf i).toNat)
  case atStart => exact ⟨0, Nat.zero_le _, rfl, by rw [Nat.mul_zero, pcn_none]; rfl⟩
  case round =>
    obtain ⟨j, hj, rfl, rfl⟩ := hrel
    have hpl := pcn_le (64 * j) N
    by_cases hlt : j < q
    · obtain ⟨g, rfl, _, _⟩ := own_some HW.out (by omega)
      have c2 := wds_cell HW.out (show j < m by omega)
      have hx : wrd N j < 18446744073709551616 := wrd_lt _ _
      have hsu := Kp.mk (pcn_words N j)
      have hp2 := pcn_le 64 (wrd N j)
      have C := Kp.mk (fun W => ones_any (wrd N j) W hx)
      generalize pcn 64 (wrd N j) = y at *
      generalize wrd N j = x at *
      generalize pcn (64 * j) N = z at *
      go_wp2_with fail
      refine (C.out _).mono ?_
      rintro e w' ⟨rfl, rfl⟩
      go_wp2
      go_round
      case rel => exact ⟨j + 1, by omega, by go_num, by rw [hsu.out]; go_num⟩
      case measure => simp [intOf]; omega
    · obtain rfl : j = q := by omega
      by_cases hr0 : 0 < r
      · have hjm := hqm2 hr0
        obtain ⟨g, rfl, _, _⟩ := own_some HW.out (by omega)
        have c2 := wds_cell HW.out hjm
        have hx : wrd N j < 18446744073709551616 := wrd_lt _ _
        have hp2 := pcn_le r (wrd N j)
        have C := Kp.mk (fun W => rank_any (wrd N j) r W hx (by omega))
        generalize pcn r (wrd N j) = y at *
        generalize wrd N j = x at *
        generalize pcn (64 * j) N = z at *
        clear hqm2
        go_wp2_with fail
        refine (C.out _).mono ?_
        rintro e w' ⟨rfl, rfl⟩
        go_wp2
        go_ret2
        exact ⟨by rw [hres.out]; rfl, hB.out⟩
      · have hr0' : r = 0 := by omega
        subst hr0'
        rw [pcn_none] at hres
        generalize pcn (64 * j) N = z at *
        clear hqm2
        go_wp2
        go_ret2
        exact ⟨by rw [hres.out]; rfl, hB.out⟩

/-- The rank in a row of a list of bits. -/
theorem brank_list (B : Nat) (sa : Option Addr) (cap i : Nat) (E : List Bool) (w : World) (hO : w.ownsRow B 176 1 (.slice sa (bwN E.length) cap) (bwN E.length) (wds (wordsOf (bitsN E E.length) (bwN E.length)))) (hn : E.length ≤ 4096) (hi : i ≤ E.length) :
    Calls Tryz.prog 233 #[.agg #[.int .i64 (E.length : Nat), .slice sa (bwN E.length) cap], .int .i64 i] w (fun e w' => e = .returned (.tuple #[.int .i64 (cntB E i : Nat), .int .i64 0]) ∧ Below w.heap.size w w') := by
  have := brank_ok B sa (bwN E.length) cap E.length i (bitsN E E.length) w rfl hO hn hi (bitsN_lt E _)
  rwa [pcn_bits E i hi] at this

end Go.Proofs.YteeeikninigeoaaGreatDoor

