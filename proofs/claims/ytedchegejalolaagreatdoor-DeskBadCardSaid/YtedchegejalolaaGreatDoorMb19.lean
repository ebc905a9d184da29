import Derived.Test.YtedchegejalolaaGreatDoorMb15
import Derived.Test.YtedchegejalolaaGreatDoorMb18
import Derived.Test.YtedchegejalolaaGreatDoorMb0
import Derived.Test.YtedchegejalolaaGreatDoorMb7
/- Package bits: ranks. -/
namespace Go.Proofs.YtedchegejalolaaGreatDoor
set_option linter.unusedVariables false
open Go.RowKit

set_option maxRecDepth 100000 in
set_option maxHeartbeats 1000000 in
theorem brank_ok (B : Nat) (sa : Option Addr) (m cap n i N : Nat) (w : World) (hm : m = bwN n) (hO : w.ownsRow B 191 1 (.slice sa m cap) m (wds (wordsOf N m))) (hn : n ≤ 4096) (hi : i ≤ n) (hN : N < 2 ^ n) :
    Calls Tryz.prog 197 #[.agg #[.int .i64 n, .slice sa m cap], .int .i64 i] w (fun e w' => e = .returned (.tuple #[.int .i64 (pcn i N : Nat), .int .i64 0]) ∧ Below w.heap.size w w') := by
  have HM := Kp.mk hm
  have HO := Kp.mk hO
  have HN := Kp.mk hN
  have hqm : i / 64 ≤ m := by rw [hm]; unfold bwN; omega
  have hqm2 : 0 < i % 64 → i / 64 < m := fun h => by rw [hm]; unfold bwN; omega
  have hm64 : m ≤ 64 := by rw [hm]; unfold bwN; omega
  clear hm hO hN
  go_enter Tryz.func197, Tryz.ntmps197
  go_wp2_with fail
  refine (bmay_ok sa n m cap N _ HM.out ((own_slc HO.out).below (below_alloc (Nat.le_refl _) _)) hn HN.out).mono ?_
  rintro e w1 ⟨rfl, hbel⟩
  have h4 := (Box.new w #[Value.int IntKind.i64 ↑n, Value.slice sa m cap] 177).below hbel
  obtain ⟨⟨d0, d1⟩, -⟩ := box2 h4
  have hB : Kp (Below w.heap.size w w1) := ⟨below_step (below_alloc (Nat.le_refl _) _) hbel⟩
  have HW := Kp.mk (own_below HO.out hB.out)
  have hcap : m ≤ cap := (own_slc HO.out).le
  have t1 : decide ((i : Int) < 0) = false := decide_eq_false (by omega)
  have t2 : decide ((n : Int) < i) = false := decide_eq_false (by omega)
  have t4 : decide (n < i) = false := decide_eq_false (by omega)
  have hq' : (i : Int) / 64 = ((i / 64 : Nat) : Int) := by omega
  have hr' : (i : Int) % 64 = ((i % 64 : Nat) : Int) := by omega
  have hr64 : i % 64 < 64 := by omega
  have hres := Kp.mk (show pcn i N = pcn (64 * (i / 64)) N + pcn (i % 64) (wrd N (i / 64)) by rw [← pcn_rest N _ _ (by omega), show 64 * (i / 64) + i % 64 = i by omega])
  clear hbel h4 HO
  generalize hqe : i / 64 = q at *
  generalize hre : i % 64 = r at *
  have HQR := Kp.mk (show i = 64 * q + r by omega)
  clear hqe hre
  have hqc : q ≤ cap := by omega
  go_wp2
  go_loop [6, 30] (fun s i => ∃ j : Nat, j ≤ q ∧ i = .int .i64 j ∧ s = .int .i64 (pcn (64 * j) N : Nat)) (fun _ i => q - (intOf i).toNat)
  case atStart => exact ⟨0, Nat.zero_le _, rfl, by rw [Nat.mul_zero, pcn_none]; rfl⟩
  case round =>
    obtain ⟨j, hj, rfl, rfl⟩ := hrel
    have hpl := pcn_le (64 * j) N
    by_cases hlt : j < q
    · obtain ⟨g, rfl, _, _⟩ := own_some HW.out (by omega)
      have c2 := wds_cell HW.out (show j < m by omega)
      have hx : wrd N j < 18446744073709551616 := wrd_lt _ _
      have hsu := Kp.mk (pcn_words N j)
      have hp2 := pcn_le 64 (wrd N j)
      have C := Kp.mk (fun W => ones_any (wrd N j) W hx)
      generalize pcn 64 (wrd N j) = y at *
      generalize wrd N j = x at *
      generalize pcn (64 * j) N = z at *
      go_wp2_with fail
      refine (C.out _).mono ?_
      rintro e w' ⟨rfl, rfl⟩
      go_wp2
      go_round
      case rel => exact ⟨j + 1, by omega, by go_num, by rw [hsu.out]; go_num⟩
      case measure => simp [intOf]; omega
    · obtain rfl : j = q := by omega
      by_cases hr0 : 0 < r
      · have hjm := hqm2 hr0
        obtain ⟨g, rfl, _, _⟩ := own_some HW.out (by omega)
        have c2 := wds_cell HW.out hjm
        have hx : wrd N j < 18446744073709551616 := wrd_lt _ _
        have hp2 := pcn_le r (wrd N j)
        have C := Kp.mk (fun W => rank_any (wrd N j) r W hx (by omega))
        generalize pcn r (wrd N j) = y at *
        generalize wrd N j = x at *
        generalize pcn (64 * j) N = z at *
        clear hqm2
        go_wp2_with fail
        refine (C.out _).mono ?_
        rintro e w' ⟨rfl, rfl⟩
        go_wp2
        go_ret2
        exact ⟨by rw [hres.out]; rfl, hB.out⟩
      · have hr0' : r = 0 := by omega
        subst hr0'
        rw [pcn_none] at hres
        generalize pcn (64 * j) N = z at *
        clear hqm2
        go_wp2
        go_ret2
        exact ⟨by rw [hres.out]; rfl, hB.out⟩

/-- The rank in a row of a list of bits. -/
theorem brank_list (B : Nat) (sa : Option Addr) (cap i : Nat) (E : List Bool) (w : World) (hO : w.ownsRow B 191 1 (.slice sa (bwN E.length) cap) (bwN E.length) (wds (wordsOf (bitsN E E.length) (bwN E.length)))) (hn : E.length ≤ 4096) (hi : i ≤ E.length) :
    Calls Tryz.prog 197 #[.agg #[.int .i64 (E.length : Nat), .slice sa (bwN E.length) cap], .int .i64 i] w (fun e w' => e = .returned (.tuple #[.int .i64 (cntB E i : Nat), .int .i64 0]) ∧ Below w.heap.size w w') := by
  have := brank_ok B sa (bwN E.length) cap E.length i (bitsN E E.length) w rfl hO hn hi (bitsN_lt E _)
  rwa [pcn_bits E i hi] at this

end Go.Proofs.YtedchegejalolaaGreatDoor

/- Package wave: waves in memory; length, May, rank, down. -/
namespace Go.Proofs.YtedchegejalolaaGreatDoor
set_option linter.unusedVariables false
open Go.RowKit

/-- A row of bits in memory. -/
def BitsIn (w : World) (sa : Option Addr) (cap : Nat) (E : List Bool) : Prop :=
  w.ownsRow 0 191 1 (.slice sa (bwN E.length) cap) (bwN E.length) (wds (wordsOf (bitsN E E.length) (bwN E.length)))
theorem BitsIn.below {w w' : World} {sa : Option Addr} {cap : Nat} {E : List Bool} (h : BitsIn w sa cap E) (hb : Below w.heap.size w w') : BitsIn w' sa cap E := own_below h hb
/-- The cells of a level. -/
def lvC (x : Option Addr × Nat × List Bool) : List Value := [.int .i64 x.2.2.length, .slice x.1 (bwN x.2.2.length) x.2.1]
theorem lvC_len (x : Option Addr × Nat × List Bool) : (lvC x).length = 2 := rfl
/-- The rows of a wave. -/
def rowsW (K : Nat) (l : List Nat) : List (List Bool) := (List.range K).map (rowAt K l)
theorem rowsW_length (K : Nat) (l : List Nat) : (rowsW K l).length = K := by simp [rowsW]
theorem rowsW_at (K : Nat) (l : List Nat) (j : Nat) (h : j < (rowsW K l).length) : (rowsW K l)[j] = rowAt K l j := by simp [rowsW]
/-- A wave of K levels of a list, in memory. -/
def IsWave (w : World) (a : Option Addr) (cap K : Nat) (l : List Nat) : Prop :=
  ∃ L : List (Option Addr × Nat × List Bool), L.map (fun x => x.2.2) = rowsW K l ∧ w.ownsRow 0 177 2 (.slice a K cap) K (flat lvC L) ∧ ∀ x ∈ L, BitsIn w x.1 x.2.1 x.2.2
theorem IsWave.below {w w' : World} {a : Option Addr} {cap K : Nat} {l : List Nat} (h : IsWave w a cap K l) (hb : Below w.heap.size w w') : IsWave w' a cap K l := by
  obtain ⟨L, h1, h2, h3⟩ := h
  exact ⟨L, h1, own_below h2 hb, fun x hx => (h3 x hx).below hb⟩
theorem IsWave.at {w : World} {a : Option Addr} {cap K n : Nat} {l : List Nat} (h : IsWave w a cap K l) (hn : l.length = n) (j : Nat) (hj : j < K) :
    ∃ b off sa sc, a = some ⟨b, off, none⟩ ∧ b < w.heap.size ∧ w.cell? ⟨b, off + j * 2, none⟩ = some (.int .i64 n) ∧ w.cell? ⟨b, off + j * 2 + 1, none⟩ = some (.slice sa (bwN n) sc) ∧ BitsIn w sa sc (rowAt K l j) := by
  obtain ⟨L, h1, h2, h3⟩ := h
  have hL : L.length = K := by
    have := congrArg List.length h1
    rwa [List.length_map, rowsW_length] at this
  have hjL : j < L.length := by omega
  obtain ⟨b, off, ha, hb, hc⟩ := SlF.at lvC_len (by omega) (own_slc h2 : SlF lvC 2 w a K cap L) j hjL
  have e1 : L[j].2.2 = rowAt K l j := by
    have h4 : (L.map (fun x => x.2.2))[j]? = (rowsW K l)[j]? := by rw [h1]
    rw [List.getElem?_map, List.getElem?_eq_getElem hjL, List.getElem?_eq_getElem (by rw [rowsW_length]; exact hj), rowsW_at] at h4
    simpa using h4
  have e2 : L[j].2.2.length = n := by rw [e1, rowAt_length, hn]
  refine ⟨b, off, L[j].1, L[j].2.1, ha, hb, ?_, ?_, ?_⟩
  · have := hc 0 (by omega)
    rw [show (lvC L[j])[0]? = some (.int .i64 (L[j].2.2.length : Nat)) from rfl, e2] at this
    exact this
  · have := hc 1 (by omega)
    rw [show (lvC L[j])[1]? = some (.slice L[j].1 (bwN L[j].2.2.length) L[j].2.1) from rfl, e2] at this
    exact this
  · have := h3 _ (List.getElem_mem hjL)
    rwa [e1] at this
attribute [irreducible] IsWave

set_option maxHeartbeats 1000000 in
theorem wlen_any (a : Option Addr) (cap K n : Nat) (l : List Nat) (w : World) (h : IsWave w a cap K l) (hl : l.length = n) (hK : 0 < K) (hK2 : K ≤ 21) :
    Calls Tryz.prog 160 #[.agg #[.slice a K cap]] w fun e w' => e = .returned (.int .i64 n) ∧ Below w.heap.size w w' := by
  obtain ⟨b, off, sa, sc, rfl, hb, c0, c1, _⟩ := (h.below (below_alloc (Nat.le_refl w.heap.size) (.cells #[.slice a K cap] 138))).at hl 0 hK
  have t0 : ((K : Int) == 0) = false := beq_eq_false_iff_ne.2 (by omega)
  have c0' : (w.alloc (.cells #[.slice (some ⟨b, off, none⟩) K cap] 138)).cell? ⟨b, off, none⟩ = some (.int .i64 n) := by simpa using c0
  have HB := Kp.mk (below_alloc (Nat.le_refl w.heap.size) (.cells #[.slice (some ⟨b, off, none⟩) K cap] 138))
  have d0 := (Box.new w #[.slice (some ⟨b, off, none⟩) K cap] 138).cell 0 rfl
  clear h c0 c1
  go_enter Tryz.func160, Tryz.ntmps160
  go_wp2
  go_ret
  exact ⟨rfl, HB.out⟩

set_option maxHeartbeats 1000000 in
theorem wrk_any (sa : Option Addr) (cap n i : Nat) (E : List Bool) (w : World) (h : BitsIn w sa cap E) (hl : E.length = n) (hn : n ≤ 300) (hi : i ≤ n) :
    Calls Tryz.prog 180 #[.agg #[.int .i64 n, .slice sa (bwN n) cap], .int .i64 i] w fun e w' => e = .returned (.int .i64 (cntB E i : Nat)) ∧ Below w.heap.size w w' := by
  subst hl
  have HB := Kp.mk (below_alloc (Nat.le_refl w.heap.size) (.cells #[.int .i64 (E.length : Nat), .slice sa (bwN E.length) cap] 177))
  have C := Kp.mk (brank_list 0 sa cap i E _ (h.below HB.out) (by omega) hi)
  clear h
  generalize E.length = n at *
  go_enter Tryz.func180, Tryz.ntmps180
  go_wp2_with fail
  refine C.out.mono ?_
  rintro e w1 ⟨rfl, hb⟩
  have HB1 := Kp.mk (below_step HB.out hb)
  clear hb C
  go_wp2
  go_ret
  exact ⟨rfl, HB1.out⟩

theorem dwn_true (E : List Bool) (i : Nat) : dwn E i true = E.length - cntB E E.length + cntB E i := by unfold dwn; rfl
theorem dwn_false (E : List Bool) (i : Nat) : dwn E i false = i - cntB E i := by unfold dwn; rfl

set_option maxHeartbeats 1000000 in
theorem down_any (sa : Option Addr) (cap n i : Nat) (one : Bool) (E : List Bool) (w : World) (h : BitsIn w sa cap E) (hl : E.length = n) (hn : n ≤ 300) (hi : i ≤ n) :
    Calls Tryz.prog 162 #[.agg #[.int .i64 n, .slice sa (bwN n) cap], .int .i64 i, .bool one] w fun e w' => e = .returned (.int .i64 (dwn E i one : Nat)) ∧ Below w.heap.size w w' := by
  have HA := Kp.mk (below_alloc (Nat.le_refl w.heap.size) (.cells #[.int .i64 n, .slice sa (bwN n) cap] 177))
  have C := Kp.mk (wrk_any sa cap n i E _ (h.below HA.out) hl hn hi)
  have hBox := Kp.mk (Box.new w #[.int .i64 n, .slice sa (bwN n) cap] 177)
  have H := Kp.mk h
  have HLn := Kp.mk hl
  have hc1 := cntB_le E i
  have hc2 := cntB_le E n
  clear h hl
  cases one with
  | true =>
    have HD := Kp.mk (dwn_true E i)
    rw [HLn.out] at HD
    go_enter Tryz.func162, Tryz.ntmps162
    go_wp2_with fail
    refine C.out.mono ?_
    rintro e w1 ⟨rfl, hb⟩
    have HB1 := Kp.mk (below_step HA.out hb)
    have hb1 := hBox.out.below hb
    have r0 := later_cell (hb1.cell 0 rfl)
    have r1 := later_cell (hb1.cell 1 rfl)
    simp only [List.getElem_toArray, List.getElem_cons_zero, List.getElem_cons_succ] at r0 r1
    have C2 := Kp.mk (fun x : Later w1 => wrk_any sa cap n n E x.val (H.out.below (below_step HB1.out x.le)) HLn.out hn (Nat.le_refl n))
    clear hb C hb1
    generalize cntB E i = y at *
    generalize cntB E n = z at *
    have e1 : IntKind.i64.wrap ((n : Int) - z) = (n : Int) - z := IntWalk.i64_in _ (by omega)
    have e2 : IntKind.i64.wrap ((n : Int) - z + y) = (n : Int) - z + y := IntWalk.i64_in _ (by omega)
    go_wp2
    refine region_later (by kernel_rfl) (by kernel_rfl) ?_
    repeat (quiet_step ((go_at_call 180; exact q_later (C2.out _))))
    refine wpQuiet_nil ?_
    rintro w' ⟨xl, rfl⟩
    clear r0 r1 C2 e1 e2
    have e3 : ((n : Int) - z + y) = ((dwn E i true : Nat) : Int) := by rw [HD.out]; omega
    go_wp2
    go_ret
    exact ⟨ret_int e3, below_step HB1.out xl.le⟩
  | false =>
    have HD := Kp.mk (dwn_false E i)
    go_enter Tryz.func162, Tryz.ntmps162
    go_wp2_with fail
    refine C.out.mono ?_
    rintro e w1 ⟨rfl, hb⟩
    have HB1 := Kp.mk (below_step HA.out hb)
    clear hb C
    generalize cntB E i = y at *
    go_wp2
    have e3 : ((i : Int) - y) = ((dwn E i false : Nat) : Int) := by rw [HD.out]; omega
    go_ret
    exact ⟨ret_int e3, HB1.out⟩

set_option maxRecDepth 100000 in
set_option maxHeartbeats 2000000 in
theorem wmay_any (a : Option Addr) (cap K n : Nat) (l : List Nat) (w : World) (h : IsWave w a cap K l) (hl : l.length = n) (hn : n ≤ 300) (hK : 0 < K) (hK2 : K ≤ 21) :
    Calls Tryz.prog 159 #[.agg #[.slice a K cap]] w fun e w' => e = .returned (.bool true) ∧ Below w.heap.size w w' := by
  have HA := Kp.mk (below_alloc (Nat.le_refl w.heap.size) (.cells #[.slice a K cap] 138))
  have HBX := Kp.mk (Box.new w #[.slice a K cap] 138)
  have H := Kp.mk (h.below HA.out)
  have HLn := Kp.mk hl
  obtain ⟨bx, hbx⟩ : ∃ bx, bx = w.heap.size := ⟨_, rfl⟩
  have C := Kp.mk (wlen_any a cap K n l _ H.out hl hK hK2)
  have d0 : (w.alloc (.cells #[.slice a K cap] 138)).cell? ⟨w.heap.size, 0, none⟩ = some (.slice a K cap) := HBX.out.cell 0 rfl
  have t0 : ¬ (21 : Int) < K := by omega
  have t1 : ¬ (300 : Int) < n := by omega
  clear h hl
  go_enter Tryz.func159, Tryz.ntmps159
  go_wp2_with fail
  refine C.out.mono ?_
  rintro e w1 ⟨rfl, hb⟩
  have HB1 := Kp.mk (below_step HA.out hb)
  have hb1 := Kp.mk (HBX.out.below hb)
  have H1 := Kp.mk (H.out.below hb)
  rw [← hbx] at hb1 ⊢
  have d1 : w1.cell? ⟨bx, 0, none⟩ = some (.slice a K cap) := hb1.out.cell 0 rfl
  clear hb C d0 H HBX HA
  clear hbx
  go_wp2
  go_loopw [17] (fun i wr => ∃ k : Nat, k ≤ K ∧ i = .int .i64 k ∧ Kp (Below w1.heap.size w1 wr)) (fun i _ => K - (intOf i).toNat)
  case atStart => exact ⟨0, Nat.zero_le _, rfl, ⟨Below.refl _ _⟩⟩
  case round =>
    obtain ⟨k, hk, rfl, HBL⟩ := hrel
    by_cases hlt : k < K
    · obtain ⟨b, off, sa, sc, rfl, hbw, c0, c1, hbi⟩ := (H1.out.below HBL.out).at HLn.out k hlt
      have hE := rowAt_length K l k
      rw [HLn.out] at hE
      generalize rowAt K l k = E at *
      have HE := Kp.mk hE
      have HBI := Kp.mk hbi
      clear hE hbi
      have z0 := (hb1.out.below HBL.out)
      have z1 : (wr.alloc (.cells #[.int .i64 n, .slice sa (bwN n) sc] 177)).cell? ⟨bx, 0, none⟩ = some (.slice (some ⟨b, off, none⟩) K cap) := (z0.alloc _).cell 0 rfl
      have yb := Box.new wr #[.int .i64 n, .slice sa (bwN n) sc] 177
      have y0 : (wr.alloc (.cells #[.int .i64 n, .slice sa (bwN n) sc] 177)).cell? ⟨wr.heap.size, 0, none⟩ = some (.int .i64 n) := yb.cell 0 rfl
      have y1 : (wr.alloc (.cells #[.int .i64 n, .slice sa (bwN n) sc] 177)).cell? ⟨wr.heap.size, 1, none⟩ = some (.slice sa (bwN n) sc) := yb.cell 1 rfl
      have hba := below_alloc (Nat.le_refl wr.heap.size) (.cells #[.int .i64 n, .slice sa (bwN n) sc] 177)
      have HB2 := Kp.mk (HBL.out.trans (hba.mono HBL.out.size))
      have C2 := Kp.mk (fun x : Later (wr.alloc (.cells #[.int .i64 n, .slice sa (bwN n) sc] 177)) => bmay_ok sa n (bwN n) sc (bitsN E n) x.val rfl (own_slc (by have := ((HBI.out.below hba).below x.le); unfold BitsIn at this; rwa [HE.out] at this)) (by omega) (by exact bitsN_lt E n))
      have C3 := Kp.mk (fun x : Later (wr.alloc (.cells #[.int .i64 n, .slice sa (bwN n) sc] 177)) => wlen_any (some ⟨b, off, none⟩) cap K n l x.val ((H1.out.below HB2.out).below x.le) HLn.out hK hK2)
      clear yb hba z0
      go_upto_region 6 with (fail)
      have w0' := later_cell z1
      have w1' := later_cell y0
      have w2' := later_cell y1
      clear z1 y0 y1
      refine region_later (by kernel_rfl) (by kernel_rfl) ?_
      repeat (quiet_step ((first | (go_at_call 179; exact q_later (C2.out _)) | (go_at_call 160; exact q_later (C3.out _)))))
      refine wpQuiet_nil ?_
      rintro w' ⟨xl, rfl⟩
      have HB3 := Kp.mk (HB2.out.trans (xl.le.mono HB2.out.size))
      clear w0' w1' w2' C2 C3
      go_wp2
      go_roundw
      case rel => exact ⟨k + 1, by omega, by go_num, HB3⟩
      case measure => simp [intOf]; omega
    · have HB3 := Kp.mk (below_step HB1.out HBL.out)
      go_wp2
      go_ret
      exact ⟨rfl, HB3.out⟩

end Go.Proofs.YtedchegejalolaaGreatDoor

/- Package wave: At, Rank. -/
namespace Go.Proofs.YtedchegejalolaaGreatDoor
set_option linter.unusedVariables false
open Go.RowKit

set_option maxHeartbeats 1000000 in
theorem wfits_any (a : Option Addr) (cap K x : Nat) (w : World) (hK2 : K ≤ 21) (hx : x ≤ 1000000000) :
    Calls Tryz.prog 161 #[.agg #[.slice a K cap], .int .i64 x] w fun e w' => e = .returned (.bool (decide (x < 2 ^ K))) ∧ Below w.heap.size w w' := by
  have HA := Kp.mk (below_alloc (Nat.le_refl w.heap.size) (.cells #[.slice a K cap] 138))
  have d0 : (w.alloc (.cells #[.slice a K cap] 138)).cell? ⟨w.heap.size, 0, none⟩ = some (.slice a K cap) := (Box.new w #[.slice a K cap] 138).cell 0 rfl
  have e1 : (x : Int) / 2 ^ K = ((x / 2 ^ K : Nat) : Int) := by push_cast; rfl
  have hd : x / 2 ^ K ≤ x := Nat.div_le_self _ _
  have hp : 0 < 2 ^ K := Nat.pow_pos (by omega)
  by_cases h : x < 2 ^ K
  · have hz : x / 2 ^ K = 0 := Nat.div_eq_of_lt h
    rw [hz] at e1
    have HD := Kp.mk (show decide (x < 2 ^ K) = true from decide_eq_true h)
    clear h hz hp hd
    go_enter Tryz.func161, Tryz.ntmps161
    go_wp2
    go_ret
    exact ⟨by rw [HD.out]; rfl, HA.out⟩
  · have hz : 0 < x / 2 ^ K := Nat.div_pos (by omega) hp
    have HD := Kp.mk (show decide (x < 2 ^ K) = false from decide_eq_false h)
    generalize x / 2 ^ K = y at *
    have hb : ((y : Int) == 0) = false := beq_eq_false_iff_ne.2 (by omega)
    clear h hz hp
    go_enter Tryz.func161, Tryz.ntmps161
    go_wp2
    go_ret
    exact ⟨by rw [HD.out]; rfl, HA.out⟩

end Go.Proofs.YtedchegejalolaaGreatDoor

/- Package wave: Rank, below, kth, Below, Kth, Next. -/
namespace Go.Proofs.YtedchegejalolaaGreatDoor
set_option linter.unusedVariables false
open Go.RowKit

theorem i64_bit (x r : Nat) (hx : x < 9223372036854775808) : (bits BinOp.and IntKind.i64 ((x : Int) / 2 ^ r) 1 == 1) = bitB x r ∧ ∃ y : Nat, bits BinOp.and IntKind.i64 ((x : Int) / 2 ^ r) 1 = (y : Int) ∧ ((y : Int) == 1) = bitB x r := by
  have e : (x : Int) / 2 ^ r = ((x / 2 ^ r : Nat) : Int) := by push_cast; rfl
  have hd : x / 2 ^ r ≤ x := Nat.div_le_self _ _
  have := i64_and_nat (x / 2 ^ r) 1 (by omega) (by decide)
  have h2 : bits BinOp.and IntKind.i64 ((x : Int) / 2 ^ r) 1 = ((x / 2 ^ r % 2 : Nat) : Int) := by
    rw [e, show (1 : Int) = ((1 : Nat) : Int) from rfl, this, Nat.and_one_is_mod]
  refine ⟨?_, x / 2 ^ r % 2, h2, bitB_eq x r _ rfl⟩
  rw [h2]; exact bitB_eq x r _ rfl
/-- One step of a range down a wave. -/
theorem wsg_step (K n k a b : Nat) (o : Bool) (l S : List Nat) (hl : l.length = n) (hk : k < K) (hab : a ≤ b) (hb : b ≤ n) (hs : sg (lst K l k) a b = S) :
    dwn (rowAt K l k) a o ≤ dwn (rowAt K l k) b o ∧ dwn (rowAt K l k) b o ≤ n ∧ sg (lst K l (k + 1)) (dwn (rowAt K l k) a o) (dwn (rowAt K l k) b o) = S.filter (fun y => bitB y (K - 1 - k) == o) := by
  have hL : (lst K l k).length = n := by rw [lst_length, hl]
  have e : lst K l (k + 1) = stepL (K - 1 - k) (lst K l k) := lst_succ K l k
  have e2 : rowAt K l k = rowL (K - 1 - k) (lst K l k) := by unfold rowAt; rfl
  rw [e, e2]
  refine ⟨dwn_mono _ _ _ _ hab (by omega) _, by rw [← hL]; exact dwn_le _ _ _ (by omega) _, ?_⟩
  rw [dwn_sg _ _ _ _ hab (by omega), hs]
theorem wzeros (K n k a b : Nat) (l S : List Nat) (hl : l.length = n) (hk : k < K) (hab : a ≤ b) (hb : b ≤ n) (hs : sg (lst K l k) a b = S) :
    dwn (rowAt K l k) b false = dwn (rowAt K l k) a false + (S.filter fun y => bitB y (K - 1 - k) == false).length := by
  obtain ⟨h1, h2, h3⟩ := wsg_step K n k a b false l S hl hk hab hb hs
  have h4 := congrArg List.length h3
  rw [sg_length _ _ _ (by rw [lst_length, hl]; exact h2)] at h4
  omega
theorem wsame (K k x : Nat) (S : List Nat) (hk : k < K) : (same (K - k) x S).filter (fun y => bitB y (K - 1 - k) == bitB x (K - 1 - k)) = same (K - (k + 1)) x S := by
  have := same_step (K - 1 - k) x S
  rw [show K - 1 - k + 1 = K - k by omega] at this
  rw [this, show K - 1 - k = K - (k + 1) by omega]

end Go.Proofs.YtedchegejalolaaGreatDoor

