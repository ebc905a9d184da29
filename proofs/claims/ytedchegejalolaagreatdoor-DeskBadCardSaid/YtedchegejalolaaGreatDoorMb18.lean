import Derived.Test.YtedchegejalolaaGreatDoorMb17
import Derived.Test.YtedchegejalolaaGreatDoorMb14
import Derived.Test.YtedchegejalolaaGreatDoorMb15
/- Package ranks: Make, Find. -/
namespace Go.Proofs.YtedchegejalolaaGreatDoor
set_option linter.unusedVariables false
open Go.RowKit

/-- sort.SearchInts: the rank. -/
theorem srank_any (a : Option Addr) (cap n : Nat) (V : List Int) (x : Int) (w : World) (h : SlI w a cap V) (hl : V.length = n) (hn : n ≤ 100000) (hu : Up V) :
    Calls Tryz.prog 128 #[.slice a n cap, .int .i64 x] w fun e w' => ∃ k : Nat, e = .returned (.int .i64 k) ∧ Kp (IsRk V x k) ∧ Kp (Below w.heap.size w w') :=
  (srchInts_any a cap n V x w h hl hn (fun i j hij hj => up_le hu hij (by rw [hl]; exact hj))).mono fun e w' ⟨k, h1, h2, h3, h4, h5⟩ => ⟨k, h1, ⟨by rw [hl]; exact h2, h3.out, by rw [hl]; exact h4.out⟩, h5⟩

set_option maxRecDepth 100000 in
set_option maxHeartbeats 2000000 in
theorem rmake_any (a : Option Addr) (cap n : Nat) (l : List Int) (w : World) (h : SlI w a cap l) (hl : l.length = n) (hn : n ≤ 300) :
    Calls Tryz.prog 98 #[.slice a n cap] w fun e w' => ∃ va v vc ra rc R, e = .returned (.tuple #[.slice va v vc, .slice ra n rc, .int .i64 0]) ∧ Kp ((valL l).length = v) ∧ Kp (SlI w' va vc (valL l)) ∧ Kp (SlI w' ra rc (R.map Int.ofNat)) ∧ Kp (Rks l (valL l) R) ∧ Kp (Below w.heap.size w w') := by
  have hal := below_alloc (Nat.le_refl w.heap.size) (.cells #[.slice a n cap] 33)
  have hbx := (Box.new w #[.slice a n cap] 33).cell 0 rfl
  have CS := Kp.mk (sorted_any a cap n w.heap.size l w _ h hl (by omega) hal hbx)
  have H := Kp.mk h
  have HL := Kp.mk hl
  have HA := Kp.mk hal
  have hn' : ¬ (300 < (n : Int)) := by omega
  clear h hl hal hbx
  go_enter Tryz.func98, Tryz.ntmps98
  go_wp2_with fail
  refine (values_any a n cap w).mono ?_
  rintro e w' ⟨rfl, rfl⟩
  go_wp2_with fail
  refine CS.out.mono ?_
  rintro e w1 ⟨sa, sc, rfl, HS, HB1⟩
  have hs1 : (w.alloc (.cells #[.slice a n cap] 33)).heap.size ≤ w1.heap.size := HB1.out.size
  go_wp2_with fail
  refine (compact_own _ sa sc n _ w1 HS.out (by rw [List.length_mergeSort]; exact HL.out) (by omega) hs1).mono ?_
  rintro e w2 ⟨v, rfl, hv, HV, HB2⟩
  have HVL := Kp.mk (show (valL l).length = v from by unfold valL; exact hv.symm)
  have HVS := Kp.mk (show SlI w2 sa sc (valL l) from by
    have := own_sl_len HV.out hv.symm
    unfold valL; exact this)
  have HBW := Kp.mk (show Below w.heap.size w w2 from HA.out.trans ((HB1.out.trans HB2.out).mono (by rw [alloc_size]; omega)))
  have HVU := Kp.mk (valL_up l)
  have hv3 : v ≤ 300 := by have := valL_length l; have := HVL.out; have := HL.out; omega
  obtain ⟨B, hB⟩ : ∃ B, B = w2.heap.size := ⟨_, rfl⟩
  have HBE := Kp.mk hB
  obtain ⟨V, hVe⟩ : ∃ V, V = valL l := ⟨_, rfl⟩
  rw [← hVe] at HVL HVS HVU
  have HVE := Kp.mk hVe
  clear CS HS HB1 HB2 HV hv hB hs1 HA hVe
  go_wp2
  go_loopw [3, 16] (fun x i wr => ∃ (k : Nat) (ra : Option Addr) (rc : Nat) (R : List Nat), k ≤ n ∧ i = .int .i64 k ∧ x = .slice ra k rc ∧ Kp (R.length = k) ∧ Kp (∀ i, i < k → IsRk V (l.getD i 0) (R.getD i 0)) ∧ Kp (wr.ownsRow B 3 1 (.slice ra k rc) k (ints (R.map Int.ofNat))) ∧ Kp (Below B w2 wr)) (fun _ i _ => n - (intOf i).toNat)
  case atStart => exact ⟨0, none, 0, [], Nat.zero_le _, rfl, rfl, ⟨rfl⟩, ⟨fun i hi => by omega⟩, ⟨World.ownsRow_nil _ _ _ _⟩, ⟨Below.refl _ _⟩⟩
  case round =>
    obtain ⟨k, ra, rc, R, hk, rfl, rfl, HRL, HRK, HO, HBL⟩ := hrel
    have hb2r : Below w2.heap.size w2 wr := by rw [← HBE.out]; exact HBL.out
    by_cases hlt : k < n
    · obtain ⟨b, off, rfl, cx⟩ := (H.out.below (HBW.out.trans (hb2r.mono HBW.out.size))).at k (by rw [HL.out]; exact hlt)
      have hbW : B ≤ wr.heap.size := by rw [HBE.out]; exact hb2r.size
      have hg := getD_at l 0 (show k < l.length by rw [HL.out]; exact hlt)
      have CR := Kp.mk (srank_any sa sc v V (l[k]'(by rw [HL.out]; exact hlt)) wr (HVS.out.below hb2r) HVL.out (by omega) HVU.out)
      have HG := Kp.mk hg
      generalize l[k]'(by rw [HL.out]; exact hlt) = x at *
      clear hg
      go_wp2_with fail
      refine CR.out.mono ?_
      rintro e w3 ⟨r, rfl, HIR, HB3⟩
      have HO3 := Kp.mk (own_below HO.out HB3.out)
      have HBL3 := Kp.mk (HBL.out.trans (HB3.out.mono hbW))
      have hb3 : B ≤ w3.heap.size := Nat.le_trans hbW HB3.out.size
      clear CR HO cx
      go_wp2_with (at_builtin; refine wpList_push tInts rfl _ _ rfl B ra k rc _ rfl HO3.out 1 1 _ rfl rfl ?d1 (by decide) ?d2 (by decide) hb3 ?d4)
      case d1 => simp [Value.oneCell']
      case d2 => omega
      case d4 =>
        intro ya yc w4 ho4 hb4
        have HO4 := Kp.mk (show w4.ownsRow B 3 1 (.slice ya (k + 1) yc) (k + 1) (ints ((R ++ [r]).map Int.ofNat)) from by
          rw [List.map_append, ints_append]; exact ho4)
        have HRK4 := Kp.mk (show ∀ i, i < k + 1 → IsRk V (l.getD i 0) ((R ++ [r]).getD i 0) from fun i hi => by
          by_cases hik : i = k
          · subst hik
            rw [HG.out, show (R ++ [r]).getD i 0 = r by rw [getD_at _ _ (by rw [List.length_append, HRL.out]; simp), List.getElem_append_right (by rw [HRL.out]; exact Nat.le_refl _)]; simp]
            exact HIR.out
          · have hi' : i < k := by omega
            rw [show (R ++ [r]).getD i 0 = R.getD i 0 by rw [getD_at _ _ (by rw [List.length_append, HRL.out]; simp; omega), getD_at _ _ (by rw [HRL.out]; exact hi'), List.getElem_append_left]]
            exact HRK.out i hi')
        have HRL4 := Kp.mk (show (R ++ [r]).length = k + 1 by rw [List.length_append, HRL.out]; rfl)
        have HBL4 := Kp.mk (HBL3.out.trans hb4)
        clear ho4 hb4
        go_wp2
        go_roundw
        case rel => exact ⟨k + 1, ya, yc, R ++ [r], by omega, by go_num, rfl, HRL4, HRK4, HO4, HBL4⟩
        case measure => simp [intOf]; omega
    · obtain rfl : k = n := by omega
      have HVr := Kp.mk (HVS.out.below hb2r)
      have HBr := Kp.mk (HBW.out.trans (hb2r.mono HBW.out.size))
      go_wp2_with fail
      refine (clone_any sa sc v V wr HVr.out HVL.out (by omega)).mono ?_
      rintro e w3 ⟨ca, cc, rfl, hcl, hb3⟩
      have HC := Kp.mk hcl.sl
      have HR3 := Kp.mk (show SlI w3 ra rc (R.map Int.ofNat) from (own_sl_len HO.out (by rw [List.length_map]; exact HRL.out)).below hb3)
      have HB3 := Kp.mk (HBr.out.trans (hb3.mono HBr.out.size))
      have HRF := Kp.mk (show Rks l V R from ⟨by rw [HRL.out, HL.out], by rw [HL.out]; exact HRK.out⟩)
      clear hcl hb3
      go_wp2
      refine bodyPost_ret (v := .tuple #[.slice ca v cc, .slice ra k rc, .int .i64 0]) (by simp [results, Tryz.results98, go_sem]) rfl ?_
      refine ⟨ca, v, cc, ra, rc, R, rfl, ?_⟩
      rw [← HVE.out]
      exact ⟨HVL, HC, HR3, HRF, HB3⟩

end Go.Proofs.YtedchegejalolaaGreatDoor

/- Slices of words of 64 bits. -/
namespace Go.Proofs.YtedchegejalolaaGreatDoor
set_option linter.unusedVariables false
open Go.RowKit

theorem info_word : (Tryz.prog.info? 191).map (fun i => (i.zero, i.size, i.bytes)) = some (some (.int .u64 0), 1, 8) := by kernel_rfl
theorem tWords : ElemTy Tryz.prog 175 191 1 8 (.int .u64 0) :=
  ⟨Tryz.underlying175, by obtain ⟨i0, hi, h0, h1, h2⟩ := info_parts info_word; exact ⟨i0, hi, h0, h1, h2⟩, rfl, by decide⟩
def wds (l : List Nat) : List Value := l.map fun (n : Nat) => .int .u64 (n : Int)
theorem wds_length (l : List Nat) : (wds l).length = l.length := by simp [wds]
theorem wds_set (l : List Nat) (i x : Nat) : (wds l).set i (.int .u64 x) = wds (l.set i x) := by simp [wds, List.map_set]
theorem wds_cell {w : World} {B e g m cap j N : Nat} (h : w.ownsRow B e 1 (.slice (some ⟨g, 0, none⟩) m cap) m (wds (wordsOf N m))) (hj : j < m) :
    w.cell? ⟨g, j, none⟩ = some (.int .u64 (wrd N j)) := by
  rw [h.cellAt j (by omega)]
  simp [wds, wordsOf_get N m j hj]

end Go.Proofs.YtedchegejalolaaGreatDoor

/- Package bits: a row of bits is made, may be, is asked. -/
namespace Go.Proofs.YtedchegejalolaaGreatDoor
set_option linter.unusedVariables false
open Go.RowKit

/-- A row of n bits that holds the number N, its words the call's own. -/
def BitsRet (w : World) (n N : Nat) (e : Ending) (w' : World) : Prop :=
  ∃ sa cap, e = .returned (.tuple #[.agg #[.int .i64 n, .slice sa (bwN n) cap], .int .i64 0]) ∧ w'.ownsRow w.heap.size 191 1 (.slice sa (bwN n) cap) (bwN n) (wds (wordsOf N (bwN n))) ∧ Below w.heap.size w w'

theorem box2 {W : World} {b : Nat} {x y : Value} {t : TypeId} (h : W.heap[b]? = some (.cells #[x, y] t)) :
    (W.cell? ⟨b, 0, none⟩ = some x ∧ W.cell? ⟨b, 1, none⟩ = some y) ∧ W.frozen? ⟨b, 0, none⟩ = false ∧ W.frozen? ⟨b, 1, none⟩ = false := by
  refine ⟨⟨?_, ?_⟩, ?_, ?_⟩ <;> simp [World.cell?, World.frozen?, h]
theorem wds_zero2 (m : Nat) : wds (wordsOf 0 m) = List.replicate m (.int .u64 0) := by
  apply List.ext_getElem
  · simp [wds, wordsOf]
  · intro i h1 h2
    simp [wds, wordsOf, wrd_zero]
theorem shl_or (x r : Nat) (hx : x < 18446744073709551616) (hr : r < 64) : bits .or .u64 (x : Int) (IntKind.u64.wrap (2 ^ r)) = ((x ||| 2 ^ r : Nat) : Int) := by
  have e : (2 : Int) ^ r = ((2 ^ r : Nat) : Int) := by push_cast; rfl
  have h2 : 2 ^ r < 2 ^ 64 := Nat.pow_lt_pow_right (by omega) hr
  rw [e]
  generalize 2 ^ r = y at *
  rw [IntWalk.u64_in _ (by omega)]
  exact u64_or_nat x _ hx h2
set_option maxRecDepth 100000 in
set_option maxHeartbeats 1000000 in
theorem bmake_any (a : Option Addr) (cap n : Nat) (L : List Bool) (w : World) (h : SlBo w a n cap L) (hl : n ≤ 4096) :
    Calls Tryz.prog 130 #[.slice a n cap] w (BitsRet w n (bitsN L n)) := by
  have H := Kp.mk h
  have HN := Kp.mk h.len
  clear h
  have hq : ((n : Int) + 64 - 1) / 64 = ((bwN n : Nat) : Int) := by unfold bwN; omega
  have hq2 : ((n : Int) + 63) / 64 = ((bwN n : Nat) : Int) := by unfold bwN; omega
  have hm1 : bwN n ≤ 64 := by unfold bwN; omega
  have hm2 : n ≤ 64 * bwN n := by unfold bwN; omega
  generalize hm : bwN n = m at *
  have HM := Kp.mk hm
  have HM2 := Kp.mk hm2
  have HQ := Kp.mk hq
  clear hm hm2
  go_enter Tryz.func130, Tryz.ntmps130
  go_wp2_with (at_make; refine wpList_mk1 tWords rfl rfl _ _ rfl (w.heap.size + 1) m (congrArg (Value.int IntKind.i64) HQ.out) (congrArg (Value.int IntKind.i64) HQ.out) ?c1 (by decide) ?c2 ?c3)
  case c1 => omega
  case c2 => exact Nat.le_of_eq (Array.size_push _).symm
  case c3 =>
    intro sa cap1 w2 hown hbel
    go_wp2
    obtain ⟨W, hW⟩ : ∃ W, W = w2.alloc (Obj.cells #[Value.int IntKind.i64 ↑n, Value.slice sa m cap1] 177) := ⟨_, rfl⟩
    rw [← hW]
    have hlt := own_lt hown
    have hbW : Below w2.heap.size w2 W := by rw [hW]; exact below_alloc (Nat.le_refl _) _
    have hownW := own_below hown hbW
    have h6 : Box W w2.heap.size #[Value.int IntKind.i64 ↑n, Value.slice sa m cap1] 177 := by rw [hW]; exact Box.new _ _ _
    have hw2 : w.heap.size + 1 ≤ w2.heap.size := by
      have := hbel.size
      rw [alloc_size] at this
      exact this
    have hb2 : Below (w.heap.size + 1) (w.alloc (Obj.cells #[Value.int IntKind.i64 0, Value.slice none 0 0] 177)) W := hbel.trans (hbW.mono hw2)
    have h4 : W.heap[w.heap.size]? = some (Obj.cells #[Value.int IntKind.i64 0, Value.slice none 0 0] 177) := by
      rw [hb2.block _ (by omega)]; exact heap_alloc_new _ _
    have hBW : Below w.heap.size w W := (below_alloc (Nat.le_refl _) _).trans (hb2.mono (by omega))
    have hWs : w2.heap.size < W.heap.size := h6.lt
    clear hown hbW hb2 hbel hW
    go_loopw [22] (fun i wr => ∃ (k : Nat), k ≤ n ∧ i = .int .i64 k ∧ wr.ownsRow (w.heap.size + 1) 191 1 (.slice sa m cap1) m (wds (wordsOf (bitsN L k) m)) ∧ W.grownBy wr (blk sa)) (fun i _ => n - (intOf i).toNat)
    case atStart =>
      exact ⟨0, Nat.zero_le _, rfl, by rw [bitsN_zero, wds_zero2]; exact hownW, grown_refl _ _⟩
    case round =>
      obtain ⟨k, hk, rfl, hown', hgr⟩ := hrel
      have g6 : wr.heap[w2.heap.size]? = _ := (hgr.block _ hWs (fun e => by have := hlt _ e.symm; omega)).trans h6
      have g4 : wr.heap[w.heap.size]? = _ := (hgr.block _ (by omega) (fun e => by have := hlt _ e.symm; omega)).trans h4
      have hbwr : Below w.heap.size w wr := hBW.trans (below_of_grown hgr (by omega) (fun k e => by have := hlt _ e; omega))
      have HO := Kp.mk hown'
      have HG := Kp.mk hgr
      have HBW := Kp.mk hbwr
      have HS := SlC.below H.out hbwr
      have HLT := Kp.mk hlt
      clear hown' hgr hbwr hlt h6 h4 hBW hownW
      by_cases hkn : k < n
      · have hkl : k < L.length := by rw [HN.out]; exact hkn
        obtain ⟨b, off, rfl, c1⟩ := SlBo.at HS k hkl
        clear HS
        obtain ⟨⟨d0, d1⟩, -⟩ := box2 g6
        have hsu := bitsN_succ L k
        rw [getD_at _ _ hkl] at hsu
        cases hb : L[k] with
        | false =>
          rw [hb] at c1 hsu
          rw [if_neg (by simp), Nat.zero_mul, Nat.add_zero] at hsu
          have HSU := Kp.mk hsu
          clear hb hsu d0 d1 g4 g6
          go_wp2
          go_roundw
          case rel => exact ⟨k + 1, by omega, by go_num, by rw [HSU.out]; exact HO.out, HG.out⟩
          case measure => simp [intOf]; omega
        | true =>
          rw [hb] at c1 hsu
          rw [if_pos rfl] at hsu
          have HSU := Kp.mk hsu
          have hq' : (k : Int) / 64 = ((k / 64 : Nat) : Int) := by omega
          have hr' : (k : Int) % 64 = ((k % 64 : Nat) : Int) := by omega
          have hqm : k / 64 < m := by have := HM2.out; omega
          have hr64 : k % 64 < 64 := by omega
          have hp := put_bit (bitsN L k) k m (bitsN_lt L k) hqm
          have hx : wrd (bitsN L k) (k / 64) < 18446744073709551616 := wrd_lt _ _
          have hor := shl_or (wrd (bitsN L k) (k / 64)) (k % 64) hx hr64
          obtain ⟨g, rfl, _, _⟩ := own_some HO.out (by omega)
          have c2 := wds_cell HO.out hqm
          have f2 : wr.frozen? ⟨g, k / 64, none⟩ = false := HO.out.frozenAt (k / 64)
          have h1 := (HO.out.stored (k / 64) (.int .u64 ((wrd (bitsN L k) (k / 64) ||| 2 ^ (k % 64) : Nat) : Int))).1
          rw [wds_set, ← hp, ← HSU.out, ← hor] at h1
          have H1 := Kp.mk h1
          clear hb hsu h1 hp g4 g6 hor
          generalize wrd (bitsN L k) (k / 64) = x at *
          generalize k / 64 = q at *
          generalize k % 64 = r at *
          have hqi : (q : Int) < m := by omega
          go_wp2
          go_region
          go_wp2
          go_roundw
          case rel => exact ⟨k + 1, by omega, by go_num, H1.out.drew, grown_drew (grown_trans HG.out (grown_set _ _ _ _))⟩
          case measure => simp [intOf]; omega
      · obtain ⟨⟨d0, d1⟩, -⟩ := box2 g6
        obtain ⟨⟨b0, b1⟩, f0, f1⟩ := box2 g4
        clear HS
        go_wp2
        have hk' : k = n := by omega
        subst hk'
        refine bodyPost_ret (v := .tuple #[.agg #[.int .i64 k, .slice sa m cap1], .int .i64 0]) ?hr rfl ?hp
        case hr =>
          clear H HO HG HBW HLT g4 g6
          rw [results_cell_tmp rfl]
          go_simp
        case hp =>
          unfold BitsRet
          rw [HM.out]
          refine ⟨sa, cap1, rfl, own_base (ownsRow_setCell_below (ownsRow_setCell_below HO.out ?_ _) ?_ _) (by omega), (HBW.out.setCell (p := ⟨w.heap.size, 0, none⟩) (Nat.le_refl _) _).setCell (p := ⟨w.heap.size, 1, none⟩) (Nat.le_refl _) _⟩ <;> exact Nat.lt_succ_self _

set_option maxHeartbeats 1000000 in
theorem bmay_ok (sa : Option Addr) (n m cap N : Nat) (w : World) (hm : m = bwN n) (hS : SlC w sa m cap 1 (wds (wordsOf N m))) (hn : n ≤ 4096) (hN : N < 2 ^ n) :
    Calls Tryz.prog 179 #[.agg #[.int .i64 n, .slice sa m cap]] w (fun e w' => e = .returned (.bool true) ∧ Below w.heap.size w w') := by
  have HS := Kp.mk hS
  have HL := Kp.mk (last_bits N n hN)
  rw [← hm] at HL
  have hq : ((n : Int) + 64 - 1) / 64 = (m : Int) := by rw [hm]; unfold bwN; omega
  have hq2 : ((n : Int) + 63) / 64 = (m : Int) := by rw [hm]; unfold bwN; omega
  have hm64 : m ≤ 64 := by rw [hm]; unfold bwN; omega
  have hm0 : n % 64 ≠ 0 → 0 < m := fun h => by rw [hm]; unfold bwN; omega
  obtain ⟨r, hr⟩ : ∃ r, r = n % 64 := ⟨_, rfl⟩
  have hr2 : (n : Int) % 64 = (r : Int) := by omega
  have hr64 : r < 64 := by omega
  rw [← hr] at HL hm0
  clear hS hm hN hr
  have hbW := Kp.mk (below_alloc (Nat.le_refl w.heap.size) (Obj.cells #[Value.int IntKind.i64 ↑n, Value.slice sa m cap] 177))
  by_cases h0 : r = 0
  · have hb : ((r : Int) == 0) = true := beq_iff_eq.2 (by omega)
    clear hm0 HS HL
    go_enter Tryz.func179, Tryz.ntmps179
    go_wp2
    go_ret
    exact ⟨rfl, hbW.out⟩
  · have hm1 := hm0 h0
    have hb : ((r : Int) == 0) = false := beq_eq_false_iff_ne.2 (by omega)
    obtain ⟨b, off, rfl, c1⟩ := SlC.cell (HS.out.below hbW.out) (m - 1) (by rw [wds_length, wordsOf_length]; omega)
    have e1 : (wds (wordsOf N m))[m - 1]'(by rw [wds_length, wordsOf_length]; omega) = .int .u64 (wrd N (m - 1)) := by simp [wds, wordsOf]
    rw [e1] at c1
    have e2 : ((wrd N (m - 1) : Nat) : Int) / 2 ^ r = 0 := by
      have : ((wrd N (m - 1) : Nat) : Int) / 2 ^ r = ((wrd N (m - 1) / 2 ^ r : Nat) : Int) := by push_cast; rfl
      rw [this, HL.out h0]; rfl
    generalize wrd N (m - 1) = x at *
    clear hm0 e1 HL
    go_enter Tryz.func179, Tryz.ntmps179
    go_wp2
    go_ret
    exact ⟨rfl, hbW.out⟩

end Go.Proofs.YtedchegejalolaaGreatDoor

/- Package pop: bits of a word. -/
namespace Go.Proofs.YtedchegejalolaaGreatDoor
set_option linter.unusedVariables false
open Go.RowKit

theorem band (a b : Nat) (c d : Int) (ha : a < 18446744073709551616) (hb : b < 18446744073709551616) (hc : c = a) (hd : d = b) : bits BinOp.and IntKind.u64 c d = ((a &&& b : Nat) : Int) := by
  subst hc; subst hd
  exact bits_and_u64_nat a b ha hb
theorem uwrap (a : Nat) (c : Int) (hc : c = a) (ha : a < 18446744073709551616) : IntKind.u64.wrap c = (a : Int) := by
  subst hc
  exact IntWalk.u64_in _ (by omega)

theorem oc_steps (x : Nat) (h : x < 18446744073709551616) : ∃ p1 p2 a q1 q2 b c0 c d e f : Nat,
    bits BinOp.and IntKind.u64 ((x : Int) / 2) 6148914691236517205 = (p1 : Int) ∧ bits BinOp.and IntKind.u64 (x : Int) 6148914691236517205 = (p2 : Int) ∧ IntKind.u64.wrap ((p1 : Int) + p2) = (a : Int) ∧
    bits BinOp.and IntKind.u64 ((a : Int) / 4) 3689348814741910323 = (q1 : Int) ∧ bits BinOp.and IntKind.u64 (a : Int) 3689348814741910323 = (q2 : Int) ∧ IntKind.u64.wrap ((q1 : Int) + q2) = (b : Int) ∧
    IntKind.u64.wrap ((b : Int) / 16 + b) = (c0 : Int) ∧ bits BinOp.and IntKind.u64 (c0 : Int) 1085102592571150095 = (c : Int) ∧
    IntKind.u64.wrap ((c : Int) + (c : Int) / 256) = (d : Int) ∧ IntKind.u64.wrap ((d : Int) + (d : Int) / 65536) = (e : Int) ∧ IntKind.u64.wrap ((e : Int) + (e : Int) / 4294967296) = (f : Int) ∧
    f &&& 127 = pcn 64 x ∧ f < 9223372036854775808 := by
  have a1 : (x / 2 &&& 6148914691236517205) ≤ 6148914691236517205 := Nat.and_le_right
  have a2 : (x &&& 6148914691236517205) ≤ 6148914691236517205 := Nat.and_le_right
  obtain ⟨p1, hp1⟩ : ∃ p, p = x / 2 &&& 6148914691236517205 := ⟨_, rfl⟩
  obtain ⟨p2, hp2⟩ : ∃ p, p = x &&& 6148914691236517205 := ⟨_, rfl⟩
  obtain ⟨a, ha⟩ : ∃ a, a = p1 + p2 := ⟨_, rfl⟩
  have a3 : (a / 4 &&& 3689348814741910323) ≤ 3689348814741910323 := Nat.and_le_right
  have a4 : (a &&& 3689348814741910323) ≤ 3689348814741910323 := Nat.and_le_right
  obtain ⟨q1, hq1⟩ : ∃ p, p = a / 4 &&& 3689348814741910323 := ⟨_, rfl⟩
  obtain ⟨q2, hq2⟩ : ∃ p, p = a &&& 3689348814741910323 := ⟨_, rfl⟩
  obtain ⟨b, hb⟩ : ∃ b, b = q1 + q2 := ⟨_, rfl⟩
  obtain ⟨c0, hc0⟩ : ∃ c, c = b / 16 + b := ⟨_, rfl⟩
  have a5 : (c0 &&& 1085102592571150095) ≤ 1085102592571150095 := Nat.and_le_right
  obtain ⟨c, hc⟩ : ∃ c, c = c0 &&& 1085102592571150095 := ⟨_, rfl⟩
  obtain ⟨d, hd⟩ : ∃ c', c' = c + c / 256 := ⟨_, rfl⟩
  obtain ⟨e, he⟩ : ∃ c', c' = d + d / 65536 := ⟨_, rfl⟩
  obtain ⟨f, hf⟩ : ∃ c', c' = e + e / 4294967296 := ⟨_, rfl⟩
  rw [← hp1] at a1
  rw [← hp2] at a2
  rw [← hq1] at a3
  rw [← hq2] at a4
  rw [← hc] at a5
  refine ⟨p1, p2, a, q1, q2, b, c0, c, d, e, f, ?_, ?_, ?_, ?_, ?_, ?_, ?_, ?_, ?_, ?_, ?_, ?_, ?_⟩
  · rw [hp1]; exact band (x / 2) _ _ _ (by omega) (by omega) (by omega) rfl
  · rw [hp2]; exact band x _ _ _ (by omega) (by omega) (by omega) rfl
  · exact uwrap a _ (by omega) (by omega)
  · rw [hq1]; exact band (a / 4) _ _ _ (by omega) (by omega) (by omega) rfl
  · rw [hq2]; exact band a _ _ _ (by omega) (by omega) (by omega) rfl
  · exact uwrap b _ (by omega) (by omega)
  · exact uwrap c0 _ (by omega) (by omega)
  · rw [hc]; exact band c0 _ _ _ (by omega) (by omega) (by omega) rfl
  · exact uwrap d _ (by omega) (by omega)
  · exact uwrap e _ (by omega) (by omega)
  · exact uwrap f _ (by omega) (by omega)
  · rw [← oc64_eq x h, hf, he, hd, hc, hc0, hb, hq1, hq2, ha, hp1, hp2]
    rfl
  · omega

set_option maxHeartbeats 400000 in
theorem oc_any (x : Nat) (w : World) (h : x < 18446744073709551616) :
    Calls Tryz.prog 205 #[.int .u64 x] w fun e w' => e = .returned (.int .i64 (pcn 64 x)) ∧ w = w' := by
  obtain ⟨p1, p2, a, q1, q2, b, c0, c, d, e, f, h1, h2, h3, h4, h5, h6, h7, h8, h9, h10, h11, h12, h13⟩ := oc_steps x h
  have H12 := Lib.hid h12
  clear h12 h
  have h13' : (f : Int) ≤ 9223372036854775807 := by omega
  clear h13
  go_enter Tryz.func205, Tryz.ntmps205
  go_wp2
  go_ret
  refine ⟨ret_int ?_, rfl⟩
  rw [← H12.out, show f &&& 127 = f % 128 from Nat.and_two_pow_sub_one_eq_mod f 7]
  exact (i64_and127 _).trans (by simp)

theorem ones_any (x : Nat) (w : World) (h : x < 18446744073709551616) :
    Calls Tryz.prog 202 #[.int .u64 x] w fun e w' => e = .returned (.int .i64 (pcn 64 x)) ∧ w = w' := by
  go_enter Tryz.func202, Tryz.ntmps202
  go_wp2_with fail
  refine (oc_any x _ h).mono ?_
  rintro e w' ⟨rfl, rfl⟩
  go_wp2
  go_ret
  exact ⟨rfl, rfl⟩

/-- A mask of i ones. -/
theorem mask_and (x i : Nat) (h : x < 18446744073709551616) (hi : i ≤ 64) :
    bits BinOp.and IntKind.u64 (x : Int) (IntKind.u64.wrap (IntKind.u64.wrap (2 ^ i) - 1)) = ((x % 2 ^ i : Nat) : Int) := by
  have hw : IntKind.u64.wrap (IntKind.u64.wrap (2 ^ i) - 1) = ((2 ^ i - 1 : Nat) : Int) := by
    by_cases h64 : i = 64
    · subst h64; rfl
    · have hlt : (2 : Nat) ^ i ≤ 2 ^ 63 := Nat.pow_le_pow_right (by omega) (by omega)
      have hp : 0 < (2 : Nat) ^ i := Nat.pow_pos (by omega)
      have e1 : IntKind.u64.wrap (2 ^ i) = ((2 ^ i : Nat) : Int) := uwrap (2 ^ i) _ (by simp) (by omega)
      rw [e1]
      exact uwrap (2 ^ i - 1) _ (by omega) (by omega)
  have hle : (2 : Nat) ^ i ≤ 2 ^ 64 := Nat.pow_le_pow_right (by omega) hi
  rw [hw, band x (2 ^ i - 1) _ _ h (by omega) rfl rfl, Nat.and_two_pow_sub_one_eq_mod]
theorem mod_lt64 (x n : Nat) (h : x < 18446744073709551616) : x % n < 18446744073709551616 := Nat.lt_of_le_of_lt (Nat.mod_le _ _) h
set_option maxHeartbeats 400000 in
theorem rank_any (x i : Nat) (w : World) (h : x < 18446744073709551616) (hi : i ≤ 64) :
    Calls Tryz.prog 203 #[.int .u64 x, .int .i64 i] w fun e w' => e = .returned (.tuple #[.int .i64 (pcn i x), .int .i64 0]) ∧ w = w' := by
  go_enter Tryz.func203, Tryz.ntmps203
  go_wp2_with fail
  rw [mask_and x i h hi]
  have HX := Lib.hid (mod_lt64 x (2 ^ i) h)
  have hp := Lib.hid (pcn_mod 64 i x hi)
  generalize x % 2 ^ i = y at *
  refine (oc_any y _ HX.out).mono ?_
  rintro e w' ⟨rfl, rfl⟩
  rw [hp.out]
  go_wp2
  go_ret2
  exact ⟨rfl, rfl⟩

end Go.Proofs.YtedchegejalolaaGreatDoor

