/- QueryOrder: the walk. -/
import Derived.Test.YteeeikninigeoaaDoorQryN
import Derived.Test.YteeeikninigeoaaDoorQryB
import Derived.Test.YteeeikninigeoaaDoorFlatIn
import Derived.Test.YteeeikninigeoaaDoorPtC
namespace Go.Proofs.YteeeikninigeoaaDoor
set_option linter.unusedVariables false
open Go.RowKit

theorem raw_in {w : World} {a : Option Addr} {len cap : Nat} {zs : List Int} (h : IsRow .i64 w a len cap zs) : ∃ l, Raw w a len cap l := by
  obtain ⟨l, hl, hs, hw, _⟩ := row_sl h
  exact ⟨l, hs, hl.symm, fun z hz => wf_bd (hw z hz)⟩
/-- What is known of an expression that a law made. -/
structure Made (x : Ex) : Prop where
  small : x.small
  dep : x.dep ≤ 2
theorem Made.len {x : Ex} (h : Made x) : x.txt.length ≤ 54 := by
  have := Ex.txt_len x 2 h.small h.dep
  have e : Ex.bnd 2 = 54 := by decide
  omega
/-- A row of bools that a call handed back. -/
structure BoR (w : World) (a : Option Addr) (c n : Nat) (f : Nat → Bool) : Prop where
  ex : ∃ B T, Tells f n T ∧ w.ownsRow B 4 1 (.slice a n c) n (bls T)
theorem BoR.below {w w' : World} {a : Option Addr} {c n : Nat} {f : Nat → Bool} (h : BoR w a c n f) (hb : Below w.heap.size w w') : BoR w' a c n f := by
  obtain ⟨B, T, h1, h2⟩ := h.ex
  exact ⟨B, T, h1, own_below h2 hb⟩
theorem BoR.at {w : World} {a : Option Addr} {c n : Nat} {f : Nat → Bool} (h : BoR w a c n f) (i : Nat) (hi : i < n) : ∃ b, a = some ⟨b, 0, none⟩ ∧ w.cell? ⟨b, i, none⟩ = some (.bool (f i)) ∧ n ≤ c := by
  obtain ⟨B, T, h1, h2⟩ := h.ex
  obtain ⟨b, rfl, _, _⟩ := own_some h2 (by omega)
  exact ⟨b, rfl, tells_cell h1 h2 hi, (own_slc h2).le⟩

/-- What is meant of a point is a matter of the point. -/
theorem sem_at (L L' : List Pt) (x : Ex) (i j : Nat) (h : L.getD i pt0 = L'.getD j pt0) : x.sem L i = x.sem L' j := by
  induction x with
  | inn a b c d => simp only [Ex.sem, inL, h]
  | hv y => simp only [Ex.sem, h]
  | not p ih => simp only [Ex.sem, ih]
  | two o p q ih1 ih2 => simp only [Ex.sem, ih1, ih2]
  | three o p q r ih1 ih2 ih3 => simp only [Ex.sem, ih1, ih2, ih3]
/-- The points from another one on. -/
def rotL (L : List Pt) (n p m : Nat) : List Pt := (List.range m).map fun i => L.getD ((i + p) % n) pt0
theorem rotL_snoc (L : List Pt) (n p m : Nat) : rotL L n p (m + 1) = rotL L n p m ++ [L.getD ((m + p) % n) pt0] := by
  unfold rotL; rw [List.range_succ, List.map_append]; rfl
theorem rotL_getD (L : List Pt) (n p m i : Nat) (h : i < m) : (rotL L n p m).getD i pt0 = L.getD ((i + p) % n) pt0 := by
  unfold rotL; simp [List.getD, h]
theorem rotL_len (L : List Pt) (n p m : Nat) : (rotL L n p m).length = m := by unfold rotL; simp
theorem opB_again (o a b : Bool) : opB o (opB o b a) b = opB o a b := by cases o <;> cases a <;> cases b <;> rfl

set_option maxRecDepth 100000 in
set_option maxHeartbeats 32000000 in
theorem walk_QueryOrder (a0 : Option Addr) (len0 cap0 : Nat) (z0 : List Int) (a1 : Option Addr) (len1 cap1 : Nat) (z1 : List Int) (a2 : Int) (a3 : Option Addr) (len3 cap3 : Nat) (z3 : List Int) (a4 : Int) (w : World) (w0 : IsRow .i64 w a0 len0 cap0 z0) (w1 : IsRow .i64 w a1 len1 cap1 z1) (w2 : (Lit.int .i64 a2).wf = true) (w3 : IsFlat 3 w a3 len3 cap3 z3) (w4 : (Lit.int .i64 a4).wf = true) (hT : Tab w) :
    Calls Tryd.prog 4 #[.slice a0 len0 cap0, .slice a1 len1 cap1, .int .i64 a2, .slice a3 len3 cap3, .int .i64 a4] w fun e w' => e = .returned (.bool true) ∧ Below w.heap.size w w' := by
  obtain ⟨l0, r0⟩ := raw_in w0
  obtain ⟨l1, r1⟩ := raw_in w1
  obtain ⟨S, hS, wS, nS⟩ := spots_in w3
  obtain ⟨i1, i2⟩ := wf_bd w2
  obtain ⟨i3, i4⟩ := wf_bd w4
  have C1 := Kp.mk (points_any a3 cap3 len3 40 20 S w hS (by unfold maxLen at nS; omega) (by omega) (by omega) (by omega) wS)
  have HR0 := Kp.mk r0
  have HR1 := Kp.mk r1
  have HTB := Kp.mk hT
  have HX := Kp.mk (exprOf_any 2 (by omega))
  have CK := Kp.mk (fun W => picked_any a2 2 W (by omega) (by omega) i1 i2)
  have CT := Kp.mk (fun W (n : Nat) (h0 : 0 < n) (h1 : n ≤ 40) => picked_any a4 (n : Int) W (by omega) (by omega) i3 i4)
  have HPB := Kp.mk (fun (n : Nat) (h0 : 0 < n) => pick_bd a4 (n : Int) (by omega))
  obtain ⟨o, ho⟩ : ∃ o, pick a2 2 + 3 = Ex.ok o := by
    have := pick_bd a2 2 (by omega)
    by_cases h : pick a2 2 = 0
    · exact ⟨false, by rw [h]; rfl⟩
    · exact ⟨true, by rw [show pick a2 2 = 1 by omega]; rfl⟩
  obtain ⟨kp, hkp⟩ : ∃ z, pick a2 2 = z := ⟨_, rfl⟩
  obtain ⟨K, hK⟩ : ∃ z, Ex.ok o = z := ⟨_, rfl⟩
  rw [hkp] at CK ho
  rw [hK] at ho
  have HKO := Kp.mk hK
  have hk0 := pick_bd a2 2 (by omega)
  rw [hkp] at hk0
  have eK : IntKind.i64.wrap (3 + kp) = K := by rw [show 3 + kp = K by omega]; exact IntWalk.i64_in _ (by omega)
  clear w0 w1 w2 w3 w4 hS wS nS r0 r1 hT i1 i2 i3 i4 hK ho hkp hk0
  go_enter Tryd.func4, Tryd.ntmps4
  go_wp2_with fail
  refine C1.out.mono ?_
  rintro e w1 ⟨sa, sc, n, rfl, HR, HO, hb1⟩
  have HB1 := Kp.mk hb1
  have hn40 : n ≤ 40 := by have := HR.out; rw [ptsOf_length] at this; omega
  have HBD := Kp.mk (ptsOf_bd S 40 20 (by omega))
  have HP1 := Kp.mk (show SlF ptL 3 w1 sa n sc (ptsOf S 40 20) from own_slc HO.out)
  generalize ptsOf S 40 20 = L at *
  have HLE := Kp.mk (show L.length = n from HR.out)
  have HNR := Kp.mk (show ∀ p ∈ L, p.Near from fun p hp => by have := HBD.out p hp; unfold Pt.Near; omega)
  have CX := Kp.mk (HX.out a0 len0 cap0 l0 w1 (HR0.out.below hb1))
  clear hb1 C1 HO HR HBD
  go_wp2_with fail
  refine CX.out.mono ?_
  rintro e w2 ⟨⟨k, a, b, c, d, y, ea, en, ec⟩, x, _, _, _, _, rfl, HXV, HXS, _, HB2⟩
  rw [show (exL ⟨k, a, b, c, d, y, ea, en, ec⟩).toArray = exA k a b c d y ea en ec from rfl]
  have HMX := Kp.mk (show Made x from ⟨HXS.out.1, by have := HXS.out.2; omega⟩)
  have hal := below_alloc (Nat.le_refl w2.heap.size) (.cells (exA k a b c d y ea en ec) 27)
  have hbn := Box.new w2 (exA k a b c d y ea en ec) 27
  have HBW3 := Kp.mk (below_step (below_step HB1.out HB2.out) hal)
  have HIX := Kp.mk (HXV.out.is.below hal)
  have HP3 := Kp.mk (SlF.below (SlF.below HP1.out HB2.out) hal)
  obtain ⟨bx, hbx⟩ : ∃ bx, w2.heap.size = bx := ⟨_, rfl⟩
  obtain ⟨w3, hw3⟩ : ∃ w3, w2.alloc (.cells (exA k a b c d y ea en ec) 27) = w3 := ⟨_, rfl⟩
  rw [hw3] at hbn HBW3 HIX HP3
  rw [hbx] at hbn
  have HBX := Kp.mk hbn
  have HW3 := Kp.mk hw3
  have HBXE := Kp.mk hbx
  clear hal hbn hw3 hbx HP1 HB1 HXV HXS HB2 CX
  go_upto_region 3 with (fail)
  simp only [HBXE.out]
  rw [show (#[Value.int IntKind.i64 k, Value.int IntKind.i64 a, Value.int IntKind.i64 b, Value.int IntKind.i64 c, Value.int IntKind.i64 d, Value.int IntKind.i64 y, Value.slice ea en ec] : Array Value) = exA k a b c d y ea en ec from rfl, HW3.out]
  clear HW3 HBXE
  have CY := Kp.mk (HX.out a1 len1 cap1 l1 w3 (HR1.out.below HBW3.out))
  clear HX
  go_wp2_with fail
  refine CY.out.mono ?_
  rintro e w4 ⟨⟨k', a', b', c', d', y', ea', en', ec'⟩, x', _, _, _, _, rfl, HXV, HXS, _, HB4⟩
  rw [show (exL ⟨k', a', b', c', d', y', ea', en', ec'⟩).toArray = exA k' a' b' c' d' y' ea' en' ec' from rfl]
  have HMY := Kp.mk (show Made x' from ⟨HXS.out.1, by have := HXS.out.2; omega⟩)
  have hal := below_alloc (Nat.le_refl w4.heap.size) (.cells (exA k' a' b' c' d' y' ea' en' ec') 27)
  have hbn := Box.new w4 (exA k' a' b' c' d' y' ea' en' ec') 27
  have hb34 := below_step HB4.out hal
  have HBW5 := Kp.mk (below_step HBW3.out hb34)
  have HIY := Kp.mk (HXV.out.is.below hal)
  have HIX5 := Kp.mk (HIX.out.below hb34)
  have HP5 := Kp.mk (SlF.below HP3.out hb34)
  have HBX5 := Kp.mk (HBX.out.below hb34)
  obtain ⟨bY, hbY⟩ : ∃ bY, w4.heap.size = bY := ⟨_, rfl⟩
  obtain ⟨w5, hw5⟩ : ∃ w5, w4.alloc (.cells (exA k' a' b' c' d' y' ea' en' ec') 27) = w5 := ⟨_, rfl⟩
  rw [hw5] at hbn HBW5 HIY HIX5 HP5 HBX5
  rw [hbY] at hbn
  have HBY5 := Kp.mk hbn
  have HW5 := Kp.mk hw5
  have HBYE := Kp.mk hbY
  clear hal hbn hb34 hw5 hbY HP3 HBW3 HXV HXS HB4 CY HIX HBX
  go_upto_region 4 with (fail)
  simp only [HBYE.out]
  rw [show (#[Value.int IntKind.i64 k', Value.int IntKind.i64 a', Value.int IntKind.i64 b', Value.int IntKind.i64 c', Value.int IntKind.i64 d', Value.int IntKind.i64 y', Value.slice ea' en' ec'] : Array Value) = exA k' a' b' c' d' y' ea' en' ec' from rfl, HW5.out]
  clear HW5 HBYE
  have MB := Kp.mk (fun (W : World) (pa : Option Addr) (pc : Nat) (LL : List Pt) (X : Ex) (v : ExV) (hN : ∀ p ∈ LL, p.Near) (hW : Below w5.heap.size w5 W) (hp : SlF ptL 3 W pa n pc LL) (hi : IsEx W X v) (hs : X.small) (hd : X.dep ≤ 8) (hl : X.txt.length ≤ 400) => show Calls Tryd.prog 12 #[.agg (exL v).toArray, .slice pa n pc] W (fun e w' => ∃ ra rc, e = .returned (.tuple #[.slice ra n rc, .bool true]) ∧ Kp (BoR w' ra rc n (X.sem LL)) ∧ Kp (Below W.heap.size W w')) from
    (meantBy_any pa pc n LL (by omega) hN X v W hi hp hs hd hl ((HTB.out.below HBW5.out).below hW)).mono fun e w' ⟨ra, rc, T, h1, h2, h3, h4⟩ => ⟨ra, rc, h1, ⟨⟨_, T, h2.out, h3.out⟩⟩, h4⟩)
  have HCX := Kp.mk (fun (W : World) (hW : Below w5.heap.size w5 W) => show (W.cell? ⟨bx, 0, none⟩ = some (.int .i64 k) ∧ W.cell? ⟨bx, 1, none⟩ = some (.int .i64 a) ∧ W.cell? ⟨bx, 2, none⟩ = some (.int .i64 b) ∧ W.cell? ⟨bx, 3, none⟩ = some (.int .i64 c) ∧ W.cell? ⟨bx, 4, none⟩ = some (.int .i64 d) ∧ W.cell? ⟨bx, 5, none⟩ = some (.int .i64 y) ∧ W.cell? ⟨bx, 6, none⟩ = some (.slice ea en ec)) from by
    have hb := HBX5.out.below hW
    exact ⟨hb.cell 0 rfl, hb.cell 1 rfl, hb.cell 2 rfl, hb.cell 3 rfl, hb.cell 4 rfl, hb.cell 5 rfl, hb.cell 6 rfl⟩)
  have HCY := Kp.mk (fun (W : World) (hW : Below w5.heap.size w5 W) => show (W.cell? ⟨bY, 0, none⟩ = some (.int .i64 k') ∧ W.cell? ⟨bY, 1, none⟩ = some (.int .i64 a') ∧ W.cell? ⟨bY, 2, none⟩ = some (.int .i64 b') ∧ W.cell? ⟨bY, 3, none⟩ = some (.int .i64 c') ∧ W.cell? ⟨bY, 4, none⟩ = some (.int .i64 d') ∧ W.cell? ⟨bY, 5, none⟩ = some (.int .i64 y') ∧ W.cell? ⟨bY, 6, none⟩ = some (.slice ea' en' ec')) from by
    have hb := HBY5.out.below hW
    exact ⟨hb.cell 0 rfl, hb.cell 1 rfl, hb.cell 2 rfl, hb.cell 3 rfl, hb.cell 4 rfl, hb.cell 5 rfl, hb.cell 6 rfl⟩)
  have lx := HMX.out.len
  have ly := HMY.out.len
  obtain ⟨sx, dx⟩ := HMX.out
  obtain ⟨sy, dy⟩ := HMY.out
  have HLN := Kp.mk (show L.length = n from HLE.out)
  have HPC := Kp.mk (fun (W : World) (hW : Below w5.heap.size w5 W) (i : Nat) (hi : i < n) => pt_cells (SlF.below HP5.out hW) i hi)
  obtain ⟨B, hB⟩ : ∃ B, w5.heap.size = B := ⟨_, rfl⟩
  have HBQ := Kp.mk hB
  obtain ⟨p, hp⟩ : ∃ p : Nat, 0 < n → pick a4 (n : Int) = (p : Int) ∧ p < n := ⟨(pick a4 (n : Int)).toNat, fun h => by have := HPB.out n h; omega⟩
  have HPK := Kp.mk hp
  clear hB hp HPB
  go_wp2_with (first
    | (go_at_call 6; with_reducible refine (CK.out _).mono ?_; rintro e w' ⟨rfl, rfl⟩)
    | fail)
  go_loopw [18, 19] (fun v18 v19 wr => ∃ (i : Nat) (ra : Option Addr) (rc : Nat), i ≤ n ∧ v19 = .int .i64 i ∧ v18 = .slice ra i rc ∧ Kp (wr.ownsRow B 43 3 (.slice ra i rc) i (flat ptL (rotL L n p i))) ∧ Kp (Below B w5 wr)) (fun _ v19 _ => n - (intOf v19).toNat)
  case atStart => exact ⟨0, none, 0, Nat.zero_le _, rfl, rfl, ⟨World.ownsRow_nil _ _ _ _⟩, ⟨HBQ.out ▸ Below.refl _ _⟩⟩
  case round =>
    obtain ⟨i, ra, rc, hi, rfl, rfl, HO, HBR⟩ := hrel
    have hBw : B ≤ wr.heap.size := by have := HBR.out.size; rw [HBQ.out] at this; exact this
    by_cases hin : i < n
    · have hiz : (i : Int) < n := by omega
      have e1 : IntKind.i64.wrap ((i : Int) + 1) = (i : Int) + 1 := IntWalk.i64_in _ (by omega)
      obtain ⟨hpk, hpn⟩ := HPK.out (by omega)
      have CT1 := Kp.mk (fun W => CT.out W n (by omega) (by omega))
      rw [hpk] at CT1
      obtain ⟨m, hm⟩ : ∃ m, (i + p) % n = m := ⟨_, rfl⟩
      have hmn : m < n := by rw [← hm]; exact Nat.mod_lt _ (by omega)
      have q0 : IntKind.i64.wrap ((i : Int) + (p : Int)) = (i : Int) + (p : Int) := IntWalk.i64_in _ (by omega)
      have q1 : ((i : Int) + (p : Int)).tmod n = (m : Int) := by
        rw [show (i : Int) + (p : Int) = ((i + p : Nat) : Int) by omega, ← hm]; exact (Int.ofNat_tmod _ _).symm
      have q2 : IntKind.i64.wrap (m : Int) = (m : Int) := IntWalk.i64_in _ (by omega)
      have hr0f : ((n : Int) == 0) = false := by rw [beq_eq_false_iff_ne]; omega
      have hr0g : ¬ n = 0 := by omega
      have e7 : (m : Int) < n := by omega
      have e8 : (0 : Int) ≤ m := by omega
      have HSN := Kp.mk (rotL_snoc L n p i)
      rw [hm] at HSN
      obtain ⟨pb, po, rfl, x0, x1, x2⟩ := HPC.out wr (HBQ.out ▸ HBR.out) m hmn
      obtain ⟨pt, hpt⟩ : ∃ pt, L.getD m pt0 = pt := ⟨_, rfl⟩
      rw [hpt] at HSN x0 x1 x2
      obtain ⟨px, py, pw⟩ := pt
      have x0' : wr.cell? ⟨pb, po + m * 3, none⟩ = some (.int .i64 px) := x0
      have x1' : wr.cell? ⟨pb, po + m * 3 + 1, none⟩ = some (.int .i64 py) := x1
      have x2' : wr.cell? ⟨pb, po + m * 3 + 2, none⟩ = some (.int .i64 pw) := x2
      clear hm hpt x0 x1 x2 hpk
      go_wp2_with (first
        | (go_at_call 6; with_reducible refine (CT1.out _).mono ?_; rintro e w' ⟨rfl, rfl⟩)
        | (at_builtin; refine wpList_pushS tPts rfl _ _ rfl B ra i rc _ rfl HO.out 1 _ rfl rfl ?d1 ?d2 (by decide) hBw ?d4)
        | fail)
      case d1 => simp [Value.oneCell']
      case d2 => omega
      case d4 =>
        intro sa' cap' w' hown' hgr hno
        have HO7 := Kp.mk (show w'.ownsRow B 43 3 (.slice sa' (i + 1) cap') (i + 1) (flat ptL (rotL L n p (i + 1))) from by
          rw [HSN.out, flat_append]
          have e : flat ptL [(⟨px, py, pw⟩ : Pt)] = [.int .i64 px, .int .i64 py, .int .i64 pw] := by simp [flat, ptL]
          rw [e]; exact hown')
        have HB7 := Kp.mk (HBR.out.trans (grown_below hgr hBw (fun q hq => (own_lt HO.out q hq).1)))
        clear hown' hgr hno
        go_wp2
        go_roundw
        case rel => exact ⟨i + 1, sa', cap', by omega, by go_num, rfl, HO7, HB7⟩
        case measure => simp [intOf]; omega
    · obtain rfl : i = n := by omega
      obtain ⟨w6, hw6⟩ : ∃ w6 : World, w6 = wr := ⟨_, rfl⟩
      subst hw6
      have HB56 := Kp.mk (show Below w5.heap.size w5 w6 from HBQ.out ▸ HBR.out)
      have HQ6 := Kp.mk (show SlF ptL 3 w6 ra i rc (rotL L i p i) from own_slc HO.out)
      have HNR2 := Kp.mk (show ∀ q ∈ rotL L i p i, q.Near from fun q hq => by
        unfold rotL at hq
        obtain ⟨j, hj, rfl⟩ := List.mem_map.1 hq
        have hji := List.mem_range.1 hj
        have hjm : (j + p) % i < L.length := by rw [HLN.out]; exact Nat.mod_lt _ (by omega)
        rw [getD_at L pt0 hjm]; exact HNR.out _ (List.getElem_mem _))
      obtain ⟨c0, c1, c2, c3, c4, c5, c6⟩ := HCX.out w6 HB56.out
      obtain ⟨d0, d1, d2, d3, d4, d5, d6⟩ := HCY.out w6 HB56.out
      have H11 := Kp.mk (lit_two w6 o x x' _ _ (HIX5.out.below HB56.out) (HIY.out.below HB56.out) #[.int .i64 k, .int .i64 a, .int .i64 b, .int .i64 c, .int .i64 d, .int .i64 y, .slice ea en ec, .int .i64 k', .int .i64 a', .int .i64 b', .int .i64 c', .int .i64 d', .int .i64 y', .slice ea' en' ec'] rfl)
      rw [HKO.out] at H11
      go_upto_region 12 with (first
        | (go_at_call 12; refine (MB.out (w6.alloc (.cells #[.int .i64 k, .int .i64 a, .int .i64 b, .int .i64 c, .int .i64 d, .int .i64 y, .slice ea en ec, .int .i64 k', .int .i64 a', .int .i64 b', .int .i64 c', .int .i64 d', .int .i64 y', .slice ea' en' ec'] 27)) sa sc L (.two o x x') ⟨K, 0, 0, 0, 0, 0, some ⟨w6.heap.size, 0, none⟩, 2, 2⟩ HNR.out (below_then_alloc HB56.out _) (SlF.below HP5.out (below_then_alloc HB56.out _)) H11.out (by exact ⟨sx, sy⟩) (by simp only [Ex.dep]; omega) (by have := Ex.len_two o x x'; omega)).mono ?_; rintro e w7 ⟨ra1, rc1, rfl, HRA, HB7⟩)
        | fail)
      have hb67 := (below_then_alloc (Below.refl w6.heap.size w6) (.cells #[.int .i64 k, .int .i64 a, .int .i64 b, .int .i64 c, .int .i64 d, .int .i64 y, .slice ea en ec, .int .i64 k', .int .i64 a', .int .i64 b', .int .i64 c', .int .i64 d', .int .i64 y', .slice ea' en' ec'] 27)).trans (HB7.out.mono (by rw [alloc_size]; omega))
      have HB57 := Kp.mk (HB56.out.trans (hb67.mono HB56.out.size))
      have HQ7 := Kp.mk (SlF.below HQ6.out hb67)
      clear c0 c1 c2 c3 c4 c5 c6 d0 d1 d2 d3 d4 d5 d6 H11 hb67 HB7 HO HBR
      obtain ⟨c0, c1, c2, c3, c4, c5, c6⟩ := HCX.out w7 HB57.out
      obtain ⟨d0, d1, d2, d3, d4, d5, d6⟩ := HCY.out w7 HB57.out
      have H12 := Kp.mk (lit_three w7 o x' x x' _ _ _ (HIY.out.below HB57.out) (HIX5.out.below HB57.out) (HIY.out.below HB57.out) #[.int .i64 k', .int .i64 a', .int .i64 b', .int .i64 c', .int .i64 d', .int .i64 y', .slice ea' en' ec', .int .i64 k, .int .i64 a, .int .i64 b, .int .i64 c, .int .i64 d, .int .i64 y, .slice ea en ec, .int .i64 k', .int .i64 a', .int .i64 b', .int .i64 c', .int .i64 d', .int .i64 y', .slice ea' en' ec'] rfl)
      rw [HKO.out] at H12
      go_upto_region 13 with (first
        | (go_at_call 12; refine (MB.out (w7.alloc (.cells #[.int .i64 k', .int .i64 a', .int .i64 b', .int .i64 c', .int .i64 d', .int .i64 y', .slice ea' en' ec', .int .i64 k, .int .i64 a, .int .i64 b, .int .i64 c, .int .i64 d, .int .i64 y, .slice ea en ec, .int .i64 k', .int .i64 a', .int .i64 b', .int .i64 c', .int .i64 d', .int .i64 y', .slice ea' en' ec'] 27)) sa sc L (.three o x' x x') ⟨K, 0, 0, 0, 0, 0, some ⟨w7.heap.size, 0, none⟩, 3, 3⟩ HNR.out (below_then_alloc HB57.out _) (SlF.below HP5.out (below_then_alloc HB57.out _)) H12.out (by exact ⟨sy, sx, sy⟩) (by simp only [Ex.dep]; omega) (by have := Ex.len_three o x' x x'; omega)).mono ?_; rintro e w8 ⟨ra2, rc2, rfl, HRB, HB8⟩)
        | fail)
      have hb78 := (below_then_alloc (Below.refl w7.heap.size w7) (.cells #[.int .i64 k', .int .i64 a', .int .i64 b', .int .i64 c', .int .i64 d', .int .i64 y', .slice ea' en' ec', .int .i64 k, .int .i64 a, .int .i64 b, .int .i64 c, .int .i64 d, .int .i64 y, .slice ea en ec, .int .i64 k', .int .i64 a', .int .i64 b', .int .i64 c', .int .i64 d', .int .i64 y', .slice ea' en' ec'] 27)).trans (HB8.out.mono (by rw [alloc_size]; omega))
      have HB58 := Kp.mk (HB57.out.trans (hb78.mono HB57.out.size))
      have HQ8 := Kp.mk (SlF.below HQ7.out hb78)
      have HRA8 := Kp.mk (HRA.out.below hb78)
      clear c0 c1 c2 c3 c4 c5 c6 d0 d1 d2 d3 d4 d5 d6 H12 hb78 HB8 HRA
      obtain ⟨c0, c1, c2, c3, c4, c5, c6⟩ := HCX.out w8 HB58.out
      obtain ⟨d0, d1, d2, d3, d4, d5, d6⟩ := HCY.out w8 HB58.out
      have H13 := Kp.mk (lit_two w8 o x x' _ _ (HIX5.out.below HB58.out) (HIY.out.below HB58.out) #[.int .i64 k, .int .i64 a, .int .i64 b, .int .i64 c, .int .i64 d, .int .i64 y, .slice ea en ec, .int .i64 k', .int .i64 a', .int .i64 b', .int .i64 c', .int .i64 d', .int .i64 y', .slice ea' en' ec'] rfl)
      rw [HKO.out] at H13
      go_upto_region 14 with (first
        | (go_at_call 12; refine (MB.out (w8.alloc (.cells #[.int .i64 k, .int .i64 a, .int .i64 b, .int .i64 c, .int .i64 d, .int .i64 y, .slice ea en ec, .int .i64 k', .int .i64 a', .int .i64 b', .int .i64 c', .int .i64 d', .int .i64 y', .slice ea' en' ec'] 27)) ra rc (rotL L i p i) (.two o x x') ⟨K, 0, 0, 0, 0, 0, some ⟨w8.heap.size, 0, none⟩, 2, 2⟩ HNR2.out (below_then_alloc HB58.out _) (SlF.below HQ8.out (below_then_alloc (Below.refl _ _) _)) H13.out (by exact ⟨sx, sy⟩) (by simp only [Ex.dep]; omega) (by have := Ex.len_two o x x'; omega)).mono ?_; rintro e w9 ⟨ra3, rc3, rfl, HRC, HB9⟩)
        | fail)
      have hb89 := (below_then_alloc (Below.refl w8.heap.size w8) (.cells #[.int .i64 k, .int .i64 a, .int .i64 b, .int .i64 c, .int .i64 d, .int .i64 y, .slice ea en ec, .int .i64 k', .int .i64 a', .int .i64 b', .int .i64 c', .int .i64 d', .int .i64 y', .slice ea' en' ec'] 27)).trans (HB9.out.mono (by rw [alloc_size]; omega))
      have HB09 := Kp.mk (below_step HBW5.out (HB58.out.trans (hb89.mono HB58.out.size)))
      have HRA9 := Kp.mk (HRA8.out.below hb89)
      have HRB9 := Kp.mk (HRB.out.below hb89)
      clear c0 c1 c2 c3 c4 c5 c6 d0 d1 d2 d3 d4 d5 d6 H13 hb89 HB9 HRA8 HRB HB58 HB57 HB56 HQ6 HQ7 HQ8 HCX HCY MB
      go_wp2
      go_loopw [26] (fun v26 wr => ∃ j : Nat, j ≤ i ∧ v26 = .int .i64 j ∧ Kp (Below w9.heap.size w9 wr)) (fun v26 _ => i - (intOf v26).toNat)
      case atStart => exact ⟨0, Nat.zero_le _, rfl, ⟨Below.refl _ _⟩⟩
      case round =>
        obtain ⟨j, hj, rfl, HBr⟩ := hrel
        by_cases hji : j < i
        · have hjz : (j : Int) < i := by omega
          obtain ⟨hpk, hpn⟩ := HPK.out (by omega)
          have CT1 := Kp.mk (fun W => CT.out W i (by omega) (by omega))
          rw [hpk] at CT1
          obtain ⟨m, hm⟩ : ∃ m, (j + p) % i = m := ⟨_, rfl⟩
          have hmn : m < i := by rw [← hm]; exact Nat.mod_lt _ (by omega)
          have q0 : IntKind.i64.wrap ((j : Int) + (p : Int)) = (j : Int) + (p : Int) := IntWalk.i64_in _ (by omega)
          have q1 : ((j : Int) + (p : Int)).tmod i = (m : Int) := by
            rw [show (j : Int) + (p : Int) = ((j + p : Nat) : Int) by omega, ← hm]; exact (Int.ofNat_tmod _ _).symm
          have q2 : IntKind.i64.wrap (m : Int) = (m : Int) := IntWalk.i64_in _ (by omega)
          have hr0f : ((i : Int) == 0) = false := by rw [beq_eq_false_iff_ne]; omega
          have hr0g : ¬ i = 0 := by omega
          have e7 : (m : Int) < i := by omega
          have e8 : (0 : Int) ≤ m := by omega
          have HSE := Kp.mk (show (Ex.two o x x').sem (rotL L i p i) j = (Ex.two o x x').sem L m from sem_at _ _ _ _ _ (by rw [rotL_getD _ _ _ _ _ hji, hm]))
          have HS3 := Kp.mk (show (Ex.three o x' x x').sem L j = (Ex.two o x x').sem L j from by simp only [Ex.sem]; exact opB_again _ _ _)
          obtain ⟨b1, rfl, p1, _⟩ := (HRA9.out.below HBr.out).at j hji
          obtain ⟨_, e9, p4, _⟩ := (HRA9.out.below HBr.out).at m hmn
          simp only [Option.some.injEq, Addr.mk.injEq, and_true] at e9
          subst e9
          obtain ⟨b2, rfl, p2, _⟩ := (HRB9.out.below HBr.out).at j hji
          obtain ⟨b3, rfl, p3, _⟩ := (HRC.out.below HBr.out).at j hji
          rw [HS3.out] at p2
          rw [HSE.out] at p3
          obtain ⟨P, hP⟩ : ∃ P, (Ex.two o x x').sem L j = P := ⟨_, rfl⟩
          obtain ⟨Q, hQ⟩ : ∃ Q, (Ex.two o x x').sem L m = Q := ⟨_, rfl⟩
          rw [hP] at p1 p2
          rw [hQ] at p3 p4
          clear hP hQ hm HSE HS3 hpk
          cases P <;> cases Q
          all_goals
            have y1 := later_cell p1
            have y2 := later_cell p2
            have y3 := later_cell p3
            have y4 := later_cell p4
            go_wp2
            go_quiet ((go_at_call 6; exact q_drew ((CT1.out _).mono fun e w' ⟨h1, h2⟩ => ⟨h1, h2 ▸ Drew.refl _⟩)))
            go_wp2
            go_roundw
            case rel => exact ⟨j + 1, by omega, by go_num, ⟨below_drewN HBr.out _⟩⟩
            case measure => simp [intOf]; omega
        · obtain rfl : j = i := by omega
          go_wp2
          go_ret
          refine ⟨rfl, ?_⟩
          exact below_step HB09.out HBr.out

end Go.Proofs.YteeeikninigeoaaDoor
