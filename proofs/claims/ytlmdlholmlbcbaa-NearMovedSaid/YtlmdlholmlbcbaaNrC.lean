/- near.Closest: the walk. -/
import Derived.Test.YtlmdlholmlbcbaaNrN
import Derived.Test.YtlmdlholmlbcbaaNrD
namespace Go.Proofs.Ytlmdlholmlbcbaa
set_option linter.unusedVariables false
open Go.RowKit Go.Sort
open Hp (IsClosest CInv)

/-- A region that draws, its operations quiet in every world that has drawn and grown. -/
theorem region_gro {P : Program} {id : Nat} {Q : Exit → Act → World → Prop} {a : Act} {w : World} {l : List Oper} (hm : P.follows .mixedOrders = true) (hB : Region.lexB .any l.toArray = true)
    (h : wpQuiet P l.toArray (fun w' => ∃ x : Gro w, w' = x.val) (fun a' => ∀ w', (∃ x : Gro w, w' = x.val) → Q .normal a' w') l a) : (Code.region id l.toArray true).wp P Q a w :=
  wp_region_quiet (C := fun w' => ∃ x : Gro w, w' = x.val) hm hB ⟨⟨w.drew, 1, #[], by simp [grow, World.drewN]; rfl⟩, rfl⟩ (by simpa using h)

set_option maxRecDepth 100000 in
set_option maxHeartbeats 4000000 in
theorem closestOrd_any (b1 : Nat) (a : Option Addr) (cap n x y : Nat) (L : List Pt) (w : World) (h : SlF ptL 3 w a n cap L) (hn : n ≤ 1000) (hb1 : w.cell? ⟨b1, 0, none⟩ = some (.slice a n cap)) (hx : x < n) (hy : y < n) :
    Calls Try.prog 66 #[.int .i64 x, .int .i64 y, .pointer (some ⟨b1, 0, none⟩)] w fun e w' => e = .returned (.int .i64 (cmpI (L.getD x pt0).x (L.getD y pt0).x)) ∧ ∃ q os, w' = grow (w.drewN q) os := by
  have hl := h.len ptL_len (by omega)
  obtain ⟨b, off, rfl, hbw, cx⟩ := h.at ptL_len (by omega) x (by omega)
  obtain ⟨_, _, e1, _, cy⟩ := h.at ptL_len (by omega) y (by omega)
  simp only [Option.some.injEq, Addr.mk.injEq, and_true] at e1
  obtain ⟨rfl, rfl⟩ := e1
  rw [← getD_at L pt0 (by omega)] at cx cy
  generalize L.getD x pt0 = p at *
  generalize L.getD y pt0 = q at *
  have x0 := gro_cell (show w.cell? ⟨b, off + x * 3, none⟩ = some (.int .i64 p.x) from cx 0 (by omega))
  have y0 := gro_cell (show w.cell? ⟨b, off + y * 3, none⟩ = some (.int .i64 q.x) from cy 0 (by omega))
  have g1 := gro_cell hb1
  have C1 := Kp.mk (fun (W : World) => (compare_any p.x q.x W).mono (R' := fun e w' => e = .returned (.int .i64 (cmpI p.x q.x)) ∧ ∃ q os, w' = grow (W.drewN q) os) (fun e w' ⟨h1, h2⟩ => ⟨h1, by rw [← h2]; exact gro_same _⟩))
  clear h cx cy hl hb1
  generalize cmpI p.x q.x = r1 at *
  have hxz : (x : Int) < n := by omega
  have hyz : (y : Int) < n := by omega
  go_enter Try.func66, Try.ntmps66
  go_wp2
  refine region_gro (by kernel_rfl) (by kernel_rfl) ?_
  repeat (go_big_quiet_step ((go_at_call 67; exact q_gro (C1.out _))))
  refine wpQuiet_nil ?_
  rintro w1 ⟨xl, rfl⟩
  have HG := Kp.mk xl.is_
  clear x0 y0 g1 C1
  generalize xl.val = w1 at *
  go_wp2
  go_ret
  exact ⟨rfl, HG.out⟩

theorem grown_far {a b c : World} {r r' : Option Nat} (h : a.grownBy b r) (k : b.grownBy c r') (hr : ∀ q, r' = some q → a.heap.size ≤ q ∨ r = some q) : a.grownBy c r :=
  ⟨k.os.trans h.os, k.tape.trans h.tape, k.output.trans h.output, Nat.le_trans h.size k.size, fun i hi hne => by
    refine (k.block i (Nat.lt_of_lt_of_le hi h.size) (fun e => ?_)).trans (h.block i hi hne)
    rcases hr i e.symm with h1 | h1
    · omega
    · exact hne h1.symm⟩
theorem perm_getD_lt {Z : List Nat} {n : Nat} (h : Z.Perm (List.range n)) (i : Nat) (hi : i < n) : Z.getD i 0 < n := by
  have hl : Z.length = n := by rw [h.length_eq, List.length_range]
  rw [getD_at Z 0 (by omega)]
  exact List.mem_range.1 (h.mem_iff.1 (List.getElem_mem _))
theorem perm_getD_ne {Z : List Nat} {n : Nat} (h : Z.Perm (List.range n)) (i j : Nat) (hij : i < j) (hj : j < n) : Z.getD i 0 ≠ Z.getD j 0 := by
  have hl : Z.length = n := by rw [h.length_eq, List.length_range]
  rw [getD_at Z 0 (by omega), getD_at Z 0 (by omega)]
  exact nodup_ne (h.nodup_iff.2 List.nodup_range) (by omega) (by omega) hij
def dstL (L : List Pt) (i j : Nat) : Int := fdist (L.getD i pt0) (L.getD j pt0)
theorem dst_sym (L : List Pt) (i j : Nat) : dstL L i j = dstL L j i := by
  unfold dstL fdist
  rw [← Int.neg_mul_neg ((L.getD i pt0).x - (L.getD j pt0).x), ← Int.neg_mul_neg ((L.getD i pt0).y - (L.getD j pt0).y)]
  simp only [Int.neg_sub]
theorem sq_nn (a : Int) : 0 ≤ a * a := by
  rcases Int.le_total 0 a with h | h
  · exact Int.mul_nonneg h h
  · have := Int.mul_nonneg (show 0 ≤ -a by omega) (show 0 ≤ -a by omega)
    rwa [Int.neg_mul_neg] at this
theorem dst_nn (L : List Pt) (i j : Nat) : 0 ≤ dstL L i j := by
  unfold dstL fdist
  have := sq_nn ((L.getD i pt0).x - (L.getD j pt0).x)
  have := sq_nn ((L.getD i pt0).y - (L.getD j pt0).y)
  omega
theorem dst_x (L : List Pt) (i j : Nat) : ((L.getD j pt0).x - (L.getD i pt0).x) * ((L.getD j pt0).x - (L.getD i pt0).x) ≤ dstL L i j := by
  rw [dst_sym]
  unfold dstL fdist
  have := sq_nn ((L.getD j pt0).y - (L.getD i pt0).y)
  omega

set_option maxRecDepth 100000 in
set_option maxHeartbeats 8000000 in
theorem closest_any (a : Option Addr) (cap n : Nat) (L : List Pt) (w : World) (h : SlF ptL 3 w a n cap L) (hn2 : 2 ≤ n) (hn : n ≤ 150) (hN : ∀ p ∈ L, p.Near) :
    Calls Try.prog 29 #[.slice a n cap] w fun e w' => ∃ A B : Nat, e = .returned (.tuple #[.agg #[.int .i64 (A : Int), .int .i64 (B : Int)], .int .i64 (dstL L A B), .int .i64 0]) ∧ Kp (IsClosest (dstL L) n A B) ∧ Kp (Below w.heap.size w w') := by
  have HL := Kp.mk (h.len ptL_len (by omega))
  have HN := Kp.mk hN
  obtain ⟨B0, hB0⟩ : ∃ B0, w.heap.size = B0 := ⟨_, rfl⟩
  have HB0 := Kp.mk hB0
  have hal := below_alloc (Nat.le_refl w.heap.size) (.cells #[.slice a n cap] 38)
  have hx1 := Box.new w #[.slice a n cap] 38
  have h1 := h.below hal
  obtain ⟨w1, hw1⟩ : ∃ w1, w.alloc (.cells #[.slice a n cap] 38) = w1 := ⟨_, rfl⟩
  rw [hw1] at hal hx1 h1
  have hs1 : w1.heap.size = B0 + 1 := by rw [← hw1, alloc_size, hB0]
  have hal2 := below_alloc (Nat.le_refl w1.heap.size) (.cells #[.int .i64 0, .int .i64 0] 54)
  have hx2 := Box.new w1 #[.int .i64 0, .int .i64 0] 54
  obtain ⟨w2, hw2⟩ : ∃ w2, w1.alloc (.cells #[.int .i64 0, .int .i64 0] 54) = w2 := ⟨_, rfl⟩
  rw [hw2] at hal2 hx2
  have C0 := Kp.mk (gcheck_any a cap n L w2 (h1.below hal2) (by omega) hN)
  have HX1 := Kp.mk (hx1.below hal2)
  have HX2 := Kp.mk hx2
  have HP2 := Kp.mk (h1.below hal2)
  have HB2 := Kp.mk (below_step hal hal2)
  have HBK := Kp.mk (show ∀ q, blk a = some q → q < B0 from fun q hq => by
    obtain ⟨q', hq', hlt'⟩ := SlC.lt h (by rw [flat_length ptL_len, HL.out]; omega)
    rw [hq] at hq'; cases hq'; rw [← hB0]; exact hlt')
  rw [hB0] at HX1 HB2
  rw [hs1] at HX2
  have c1 : w2.cell? ⟨B0, 0, none⟩ = some (.slice a n cap) := HX1.out.cell 0 rfl
  have hn2' : ¬ (n : Int) < 2 := by omega
  have hn2n : ¬ n < 2 := by omega
  have HS1 := Kp.mk hs1
  clear h hN hal hx1 h1 hal2 hx2 hs1
  go_enter Try.func29, Try.ntmps29
  go_wp2_with fail
  simp only [HS1.out]
  clear HS1
  refine C0.out.mono ?_
  rintro e w3 ⟨rfl, HB3⟩
  have HX13 := Kp.mk (HX1.out.below HB3.out)
  have HX23 := Kp.mk (HX2.out.below HB3.out)
  have HP3 := Kp.mk (HP2.out.below HB3.out)
  have HBW3 := Kp.mk (HB2.out.trans (HB3.out.mono (by rw [← HB0.out]; exact HB2.out.size)))
  have hB3 : B0 + 1 < w3.heap.size := HX23.out.lt
  have d1 : w3.cell? ⟨B0, 0, none⟩ = some (.slice a n cap) := HX13.out.cell 0 rfl
  clear C0 HX1 HX2 HP2 HB2 c1 hw1 hw2 hB0
  go_wp2
  go_loopw [6, 31] (fun v i wr => ∃ (j : Nat) (sa : Option Addr) (sc : Nat), j ≤ n ∧ i = .int .i64 j ∧ v = .slice sa j sc ∧ Kp (wr.ownsRow w3.heap.size 3 1 (.slice sa j sc) j (natV (List.range j))) ∧ Kp (Below w3.heap.size w3 wr)) (fun _ i _ => n - (intOf i).toNat)
  case atStart => exact ⟨0, none, 0, Nat.zero_le _, rfl, rfl, ⟨World.ownsRow_nil _ _ _ _⟩, ⟨Below.refl _ _⟩⟩
  case round =>
    obtain ⟨j, sa, sc, hj, rfl, rfl, HO, HBL⟩ := hrel
    have hBw : w3.heap.size ≤ wr.heap.size := HBL.out.size
    by_cases hjn : j < n
    · have HS := Kp.mk (range_snoc j)
      go_wp2_with (at_builtin; refine wpList_push tInts rfl _ _ rfl w3.heap.size sa j sc _ rfl HO.out 1 1 _ rfl rfl ?d1 (by decide) ?d2 (by decide) hBw ?d4)
      case d1 => simp [Value.oneCell']
      case d2 => omega
      case d4 =>
        intro sa' sc' w4 hown hbel
        have HO2 := Kp.mk (show w4.ownsRow w3.heap.size 3 1 (.slice sa' (j + 1) sc') (j + 1) (natV (List.range (j + 1))) from by rw [← HS.out]; exact hown)
        have HB2 := Kp.mk (HBL.out.trans hbel)
        clear hown hbel HO HBL HS
        go_wp2
        go_roundw
        case rel => exact ⟨j + 1, sa', sc', by omega, by go_num, rfl, HO2, HB2⟩
        case measure => simp [intOf]; omega
    · obtain rfl : j = n := by omega
      obtain ⟨g, rfl, hgB, hgl⟩ := own_some HO.out (by omega)
      have hsc := (own_slc HO.out).le
      have hscm := (own_slc HO.out).capm
      unfold maxLen at hscm
      obtain ⟨Q, hbx⟩ := own_box HO.out (by simp)
      obtain ⟨n', hn'⟩ : ∃ n', j = n' + 1 := ⟨j - 1, by omega⟩
      have hgb1 : (some g : Option Nat) ≠ some B0 := by simp; omega
      have hpa : blk a ≠ some g := fun e => by have := HBK.out g e; omega
      have CS := Kp.mk (sort_gen 66 #[.pointer (some ⟨B0, 0, none⟩)] (fun x y => cmpI (L.getD x pt0).x (L.getD y pt0).x) (cmpX_ok (fun i => (L.getD i pt0).x)) n' g 0 sc [] Q (List.range j) wr (fun x hx => by have := List.mem_range.1 hx; omega) (by simp; omega) rfl hbx (enters_of Try.func66 (by kernel_rfl) rfl)
        (fun w' hg x y hx hy => closestOrd_any B0 a cap j x y L w' ((HP3.out.below HBL.out).keep hg (fun k hk => by cases hk; exact hpa)) (by omega) ((box_grow (HX13.out.below HBL.out) hg hgb1).cell 0 rfl) (by omega) (by omega)))
      rw [List.length_range] at CS
      have HGB := Kp.mk (And.intro hgB hgl)
      have HX1r := Kp.mk (HX13.out.below HBL.out)
      have HX2r := Kp.mk (HX23.out.below HBL.out)
      have HPr := Kp.mk (HP3.out.below HBL.out)
      have HBWr := Kp.mk (HBW3.out.trans (HBL.out.mono (by omega)))
      have HG1 := Kp.mk hgb1
      have HG2 := Kp.mk (show (some g : Option Nat) ≠ some (B0 + 1) by simp; omega)
      have HPA := Kp.mk hpa
      clear hgB hgl hbx hn' hgb1 hpa HO HBL HX13 HX23 HP3 HBW3 d1 hBw
      go_wp2_with fail
      refine CS.out.mono ?_
      rintro e w5 ⟨rfl, Z, HZ, HBZ, HG5⟩
      have HX15 := Kp.mk (box_grow HX1r.out HG5.out HG1.out)
      have HX25 := Kp.mk (box_grow HX2r.out HG5.out HG2.out)
      have HP5 := Kp.mk (show SlF ptL 3 w5 a j cap L from SlC.keep HPr.out HG5.out (fun k hk => by cases hk; exact HPA.out))
      have HBW5 := Kp.mk (HBWr.out.trans (below_of_grown HG5.out (Nat.le_trans (by omega) (Nat.le_of_lt HX2r.out.lt)) (fun q hq => by cases hq; have := HGB.out.1; omega)))
      clear CS HX1r HX2r HPr HBWr HG5
      have hg5 : g < w5.heap.size := HBZ.out.lt
      have hal := below_alloc (Nat.le_refl w5.heap.size) (.cells #[.int .i64 0, .int .i64 0] 54)
      have HX8 := Kp.mk (Box.new w5 #[.int .i64 0, .int .i64 0] 54)
      have HX16 := Kp.mk (HX15.out.below hal)
      have HX26 := Kp.mk (HX25.out.below hal)
      have HP6 := Kp.mk (HP5.out.below hal)
      have HBZ6 := Kp.mk (HBZ.out.below hal)
      have hb8 : B0 + 1 < w5.heap.size ∧ g < w5.heap.size := ⟨HX25.out.lt, hg5⟩
      have HBW6 := Kp.mk (HBW5.out.trans (hal.mono (by omega)))
      go_wp2
      obtain ⟨b8, hb8e⟩ : ∃ b8, w5.heap.size = b8 := ⟨_, rfl⟩
      obtain ⟨w6, hw6⟩ : ∃ w6, w5.alloc (.cells #[.int .i64 0, .int .i64 0] 54) = w6 := ⟨_, rfl⟩
      rw [hb8e] at hb8 HX8
      rw [hw6] at HX8 ⊢
      rw [hw6] at HX16 HX26 HP6 HBZ6 HBW6
      have HBP := Kp.mk (show ∀ q, blk a = some q → q ≠ b8 from fun q hq => by have := HBK.out q hq; omega)
      have HZL := Kp.mk (show Z.length = j by rw [HZ.out.1.length_eq, List.length_range])
      clear hal HX15 HX25 HP5 HBZ HBW5 hg5
      try simp only [hb8e]
      clear hw6 hb8e
      obtain ⟨pb, po, rfl, _, _⟩ := HP6.out.at ptL_len (by omega) 0 (by rw [HL.out]; omega)
      have hpn : j ≤ cap := HP6.out.le
      have HALL := Kp.mk (fun (W : World) (hW : w6.grownBy W (some b8)) => show W.cell? ⟨B0, 0, none⟩ = some (.slice (some ⟨pb, po, none⟩) j cap) ∧ (∀ i, i < j → W.cell? ⟨pb, po + i * 3, none⟩ = some (.int .i64 (L.getD i pt0).x) ∧ W.cell? ⟨pb, po + i * 3 + 1, none⟩ = some (.int .i64 (L.getD i pt0).y) ∧ W.cell? ⟨pb, po + i * 3 + 2, none⟩ = some (.int .i64 (L.getD i pt0).w)) ∧ ∀ i, i < j → W.cell? ⟨g, 0 + i, none⟩ = some (.int .i64 ((Z.getD i 0 : Nat) : Int)) from by
        refine ⟨(box_grow HX16.out hW (by simp; omega)).cell 0 rfl, fun i hi => ?_, fun i hi => ?_⟩
        · obtain ⟨_, _, e, _, co⟩ := SlF.at ptL_len (by omega) (show SlF ptL 3 W (some ⟨pb, po, none⟩) j cap L from SlC.keep HP6.out hW (fun k hk => by cases hk; exact fun e => HBP.out _ e rfl)) i (by rw [HL.out]; exact hi)
          simp only [Option.some.injEq, Addr.mk.injEq, and_true] at e
          obtain ⟨rfl, rfl⟩ := e
          rw [← getD_at L pt0 (by rw [HL.out]; exact hi)] at co
          exact ⟨co 0 (by omega), co 1 (by omega), co 2 (by omega)⟩
        · refine (box_grow HBZ6.out hW (by simp; omega)).cell (0 + i) ?_
          rw [List.getElem?_toArray, List.nil_append, List.getElem?_append_left (by rw [natV_len, HZL.out]; omega), Nat.zero_add]
          unfold natV
          rw [List.getElem?_map, List.getElem?_eq_getElem (by rw [HZL.out]; exact hi), getD_at _ _ (by rw [HZL.out]; exact hi)]; rfl)
      have HZP := Kp.mk HZ.out.1
      have HZS := Kp.mk (show ∀ p q, p < q → q < j → (L.getD (Z.getD p 0) pt0).x ≤ (L.getD (Z.getD q 0) pt0).x from fun p q hpq hq => by
        have := HZ.out.2 p q hpq (by rw [HZL.out]; exact hq)
        unfold cmpI at this
        split at this
        · omega
        · split at this <;> omega)
      have HZN := Kp.mk (fun i hi => perm_getD_lt HZ.out.1 i hi)
      have HZD := Kp.mk (fun p q hpq hq => perm_getD_ne HZ.out.1 p q hpq hq)
      have HX2B := Kp.mk (fun (W : World) (hW : w6.grownBy W (some b8)) => box_grow HX26.out hW (by simp; omega))
      have hXY : ∀ i, i < j → NearXY (L.getD i pt0) := fun i hi => by
        have hm : L.getD i pt0 ∈ L := by rw [getD_at _ _ (by rw [HL.out]; exact hi)]; exact List.getElem_mem _
        exact (HN.out _ hm).xy
      have HXY := Kp.mk hXY
      clear hXY HX16 HX26 HP6 HBZ6 HZ HBP HPA HG1 HG2 HGB
      go_wp2
      go_loopw [9, 45] (fun v9 v45 wr => ∃ (i A B : Nat) (least : Int), i ≤ j ∧ v45 = .int .i64 i ∧ v9 = .int .i64 least ∧ least ≤ 8796093022208 ∧ Kp (CInv (dstL L) Z j i 0 A B least) ∧ Kp (Box wr b8 #[.int .i64 (A : Int), .int .i64 (B : Int)] 54) ∧ Kp (w6.grownBy wr (some b8))) (fun _ v45 _ => j - (intOf v45).toNat)
      case atStart => exact ⟨0, 0, 0, -1, by omega, rfl, rfl, by omega, ⟨Hp.cinv_start _ _ _⟩, HX8, ⟨grown_refl _ _⟩⟩
      case round =>
        clear HX8
        obtain ⟨i, A, B, least, hi, rfl, rfl, hlb, HCI, HBX, HGR⟩ := hrel
        by_cases hij : i < j
        · obtain ⟨hps, hpts, hrow⟩ := HALL.out wr HGR.out
          have zi := hrow i hij
          obtain ⟨ra, hra, hsl⟩ := run_back g 0 j sc i hij hsc hscm
          have e1 : IntKind.i64.wrap ((i : Int) + 1) = (i : Int) + 1 := IntWalk.i64_in _ (by omega)
          have hiz : (i : Int) < j := by omega
          have HRA := Kp.mk hra
          have HAN := Kp.mk (HZN.out i hij)
          clear hra hrow hpts hps
          rw [Nat.zero_add] at zi
          obtain ⟨za, hza⟩ : ∃ za, Z.getD i 0 = za := ⟨_, rfl⟩
          have HZA := Kp.mk hza
          rw [hza] at zi HAN
          clear hza
          go_wp2
          clear zi hsl
          go_loopw [9, 55] (fun v9 v55 wr => ∃ (q A B : Nat) (least : Int), i + 1 + q ≤ j ∧ v55 = .int .i64 q ∧ v9 = .int .i64 least ∧ least ≤ 8796093022208 ∧ Kp (CInv (dstL L) Z j i q A B least) ∧ Kp (Box wr b8 #[.int .i64 (A : Int), .int .i64 (B : Int)] 54) ∧ Kp (w6.grownBy wr (some b8))) (fun _ v55 _ => j - (intOf v55).toNat)
          case atStart => exact ⟨0, A, B, least, by omega, rfl, rfl, hlb, HCI, HBX, HGR⟩
          case round =>
            clear HCI HBX HGR hlb
            obtain ⟨q, A, B, least, hq, rfl, rfl, hlb, HCI, HBX, HGR⟩ := hrel
            by_cases hqj : i + 1 + q < j
            · obtain ⟨hps, hpts, hrow⟩ := HALL.out wr HGR.out
              have zq := hrow (i + 1 + q) hqj
              have hra := HRA.out.resolve_left (by omega)
              rw [Nat.zero_add] at hra
              rw [hra]
              have zq' : wr.cell? ⟨g, i + 1 + q, none⟩ = some (.int .i64 ((Z.getD (i + 1 + q) 0 : Nat) : Int)) := by
                rw [Nat.zero_add] at zq; exact zq
              have hbn := HZN.out _ hqj
              have HST := Kp.mk (Hp.cinv_step HCI.out (dst_sym L) (dst_nn L) hqj HZN.out (HZD.out i (i + 1 + q) (by omega) hqj))
              have HBRK := Kp.mk (fun h0 hg => Hp.cinv_break (c := fun i => (L.getD i pt0).x) HCI.out h0 HZL.out HZS.out (dst_x L) hqj hg)
              have hne := HZD.out i (i + 1 + q) (by omega) hqj
              obtain ⟨zb, hzb⟩ : ∃ zb, Z.getD (i + 1 + q) 0 = zb := ⟨_, rfl⟩
              dsimp only at HST HBRK
              rw [hzb, HZA.out] at HST HBRK hne
              rw [hzb] at zq' hbn
              clear hzb hrow zq hra
              obtain ⟨pa0, pa1, pa2⟩ := hpts za HAN.out
              obtain ⟨pb0, pb1, pb2⟩ := hpts zb hbn
              have hxa := HXY.out za HAN.out
              have hxb := HXY.out zb hbn
              have hfb := fdist_bd hxa hxb
              have CF := Kp.mk (fun W => far_any (L.getD za pt0) (L.getD zb pt0) W hxa hxb)
              have HDE := Kp.mk (show dstL L za zb = fdist (L.getD za pt0) (L.getD zb pt0) from rfl)
              rw [HDE.out] at HST
              generalize hua : L.getD za pt0 = ua at *
              generalize hub : L.getD zb pt0 = ub at *
              have HUA := Kp.mk hua
              have HUB := Kp.mk hub
              clear hua hub
              obtain ⟨f, hf⟩ : ∃ f, fdist ua ub = f := ⟨_, rfl⟩
              rw [hf] at HST hfb CF
              have HXB := hxa.1
              have HXC := hxb.1
              obtain ⟨gap, hgap⟩ : ∃ z, ub.x - ua.x = z := ⟨_, rfl⟩
              rw [hgap] at HBRK
              have hgb : -2097152 ≤ gap ∧ gap ≤ 2097152 := by omega
              have hg2b := sq_le gap hgb.1 hgb.2
              obtain ⟨g2, hg2⟩ : ∃ z, gap * gap = z := ⟨_, rfl⟩
              rw [hg2] at HBRK hg2b
              have e2 : IntKind.i64.wrap (ub.x - ua.x) = gap := by rw [hgap]; exact IntWalk.i64_in _ (by omega)
              have e3 : IntKind.i64.wrap (gap * gap) = g2 := by rw [hg2]; exact IntWalk.i64_in _ (by omega)
              have haz : (za : Int) < j := by have := HAN.out; omega
              have hbz : (zb : Int) < j := by omega
              have hqz : q < j - (i + 1) := by omega
              have hcq : q < sc - (i + 1) := by omega
              have l1 := later_cell hps
              have l2 := later_cell pa0
              have l3 := later_cell pb0
              have hgr8 := HALL.out
              clear hpts hf hgap hg2 hxa hxb hps pa0 pa1 pa2 pb0 pb1 pb2 HCI
              go_wp2
              refine region_later (by kernel_rfl) (by kernel_rfl) ?_
              iterate 12 (go_big_quiet_step (fail))
              refine wpQuiet_nil ?_
              rintro w7 ⟨xl, rfl⟩
              have HG7 := Kp.mk (grown_trans HGR.out (grown_of_below (r := some b8) xl.le))
              have HBX7 := Kp.mk (HBX.out.below xl.le)
              clear HGR HBX l1 l2 l3 zq' hgr8
              generalize xl.val = w7 at *
              obtain ⟨hps, hpts, _⟩ := HALL.out w7 HG7.out
              obtain ⟨pa0, pa1, pa2⟩ := hpts za HAN.out
              obtain ⟨pb0, pb1, pb2⟩ := hpts zb hbn
              rw [HUA.out] at pa0 pa1 pa2
              rw [HUB.out] at pb0 pb1 pb2
              have hS0 : w7.cell? ⟨B0, 0, none⟩ = some (.slice (some ⟨pb, po, none⟩) j cap) ∧ w7.cell? ⟨pb, po + za * 3, none⟩ = some (.int .i64 ua.x) ∧ w7.cell? ⟨pb, po + za * 3 + 1, none⟩ = some (.int .i64 ua.y) ∧ w7.cell? ⟨pb, po + za * 3 + 2, none⟩ = some (.int .i64 ua.w) ∧ w7.cell? ⟨pb, po + zb * 3, none⟩ = some (.int .i64 ub.x) ∧ w7.cell? ⟨pb, po + zb * 3 + 1, none⟩ = some (.int .i64 ub.y) ∧ w7.cell? ⟨pb, po + zb * 3 + 2, none⟩ = some (.int .i64 ub.w) := ⟨hps, pa0, pa1, pa2, pb0, pb1, pb2⟩
              have HBS := Kp.mk (fun (W W' : World) (hS : W.cell? ⟨B0, 0, none⟩ = some (.slice (some ⟨pb, po, none⟩) j cap) ∧ W.cell? ⟨pb, po + za * 3, none⟩ = some (.int .i64 ua.x) ∧ W.cell? ⟨pb, po + za * 3 + 1, none⟩ = some (.int .i64 ua.y) ∧ W.cell? ⟨pb, po + za * 3 + 2, none⟩ = some (.int .i64 ua.w) ∧ W.cell? ⟨pb, po + zb * 3, none⟩ = some (.int .i64 ub.x) ∧ W.cell? ⟨pb, po + zb * 3 + 1, none⟩ = some (.int .i64 ub.y) ∧ W.cell? ⟨pb, po + zb * 3 + 2, none⟩ = some (.int .i64 ub.w)) (hb : Below W.heap.size W W') => show W'.cell? ⟨B0, 0, none⟩ = some (.slice (some ⟨pb, po, none⟩) j cap) ∧ W'.cell? ⟨pb, po + za * 3, none⟩ = some (.int .i64 ua.x) ∧ W'.cell? ⟨pb, po + za * 3 + 1, none⟩ = some (.int .i64 ua.y) ∧ W'.cell? ⟨pb, po + za * 3 + 2, none⟩ = some (.int .i64 ua.w) ∧ W'.cell? ⟨pb, po + zb * 3, none⟩ = some (.int .i64 ub.x) ∧ W'.cell? ⟨pb, po + zb * 3 + 1, none⟩ = some (.int .i64 ub.y) ∧ W'.cell? ⟨pb, po + zb * 3 + 2, none⟩ = some (.int .i64 ub.w) from
                ⟨(hb.cell (World.block_lt_of_cell? _ _ hS.1)).trans hS.1, (hb.cell (World.block_lt_of_cell? _ _ hS.2.1)).trans hS.2.1, (hb.cell (World.block_lt_of_cell? _ _ hS.2.2.1)).trans hS.2.2.1, (hb.cell (World.block_lt_of_cell? _ _ hS.2.2.2.1)).trans hS.2.2.2.1, (hb.cell (World.block_lt_of_cell? _ _ hS.2.2.2.2.1)).trans hS.2.2.2.2.1, (hb.cell (World.block_lt_of_cell? _ _ hS.2.2.2.2.2.1)).trans hS.2.2.2.2.2.1, (hb.cell (World.block_lt_of_cell? _ _ hS.2.2.2.2.2.2)).trans hS.2.2.2.2.2.2⟩)
              have n1 : B0 ≠ w7.heap.size := Nat.ne_of_lt (World.block_lt_of_cell? _ _ hS0.1)
              have n3 : pb ≠ w7.heap.size := Nat.ne_of_lt (World.block_lt_of_cell? _ _ hS0.2.1)
              have HSG := Kp.mk (fun (W W' : World) (hS : W.cell? ⟨B0, 0, none⟩ = some (.slice (some ⟨pb, po, none⟩) j cap) ∧ W.cell? ⟨pb, po + za * 3, none⟩ = some (.int .i64 ua.x) ∧ W.cell? ⟨pb, po + za * 3 + 1, none⟩ = some (.int .i64 ua.y) ∧ W.cell? ⟨pb, po + za * 3 + 2, none⟩ = some (.int .i64 ua.w) ∧ W.cell? ⟨pb, po + zb * 3, none⟩ = some (.int .i64 ub.x) ∧ W.cell? ⟨pb, po + zb * 3 + 1, none⟩ = some (.int .i64 ub.y) ∧ W.cell? ⟨pb, po + zb * 3 + 2, none⟩ = some (.int .i64 ub.w)) (hb : W.grownBy W' (some w7.heap.size)) => show W'.cell? ⟨B0, 0, none⟩ = some (.slice (some ⟨pb, po, none⟩) j cap) ∧ W'.cell? ⟨pb, po + za * 3, none⟩ = some (.int .i64 ua.x) ∧ W'.cell? ⟨pb, po + za * 3 + 1, none⟩ = some (.int .i64 ua.y) ∧ W'.cell? ⟨pb, po + za * 3 + 2, none⟩ = some (.int .i64 ua.w) ∧ W'.cell? ⟨pb, po + zb * 3, none⟩ = some (.int .i64 ub.x) ∧ W'.cell? ⟨pb, po + zb * 3 + 1, none⟩ = some (.int .i64 ub.y) ∧ W'.cell? ⟨pb, po + zb * 3 + 2, none⟩ = some (.int .i64 ub.w) from
                ⟨hb.cell hS.1 (fun e => by simp at e; omega), hb.cell hS.2.1 (fun e => by simp at e; omega), hb.cell hS.2.2.1 (fun e => by simp at e; omega), hb.cell hS.2.2.2.1 (fun e => by simp at e; omega), hb.cell hS.2.2.2.2.1 (fun e => by simp at e; omega), hb.cell hS.2.2.2.2.2.1 (fun e => by simp at e; omega), hb.cell hS.2.2.2.2.2.2 (fun e => by simp at e; omega)⟩)
              have hSA := HBS.out w7 _ hS0 (below_alloc (Nat.le_refl w7.heap.size) (.cells #[.int .i64 0, .int .i64 0] 54))
              have CM := Kp.mk (fun (W : World) (hS : W.cell? ⟨B0, 0, none⟩ = some (.slice (some ⟨pb, po, none⟩) j cap) ∧ W.cell? ⟨pb, po + za * 3, none⟩ = some (.int .i64 ua.x) ∧ W.cell? ⟨pb, po + za * 3 + 1, none⟩ = some (.int .i64 ua.y) ∧ W.cell? ⟨pb, po + za * 3 + 2, none⟩ = some (.int .i64 ua.w) ∧ W.cell? ⟨pb, po + zb * 3, none⟩ = some (.int .i64 ub.x) ∧ W.cell? ⟨pb, po + zb * 3 + 1, none⟩ = some (.int .i64 ub.y) ∧ W.cell? ⟨pb, po + zb * 3 + 2, none⟩ = some (.int .i64 ub.w)) => (CF.out W).mono (R' := fun e w' => e = .returned (.int .i64 f) ∧ (w'.cell? ⟨B0, 0, none⟩ = some (.slice (some ⟨pb, po, none⟩) j cap) ∧ w'.cell? ⟨pb, po + za * 3, none⟩ = some (.int .i64 ua.x) ∧ w'.cell? ⟨pb, po + za * 3 + 1, none⟩ = some (.int .i64 ua.y) ∧ w'.cell? ⟨pb, po + za * 3 + 2, none⟩ = some (.int .i64 ua.w) ∧ w'.cell? ⟨pb, po + zb * 3, none⟩ = some (.int .i64 ub.x) ∧ w'.cell? ⟨pb, po + zb * 3 + 1, none⟩ = some (.int .i64 ub.y) ∧ w'.cell? ⟨pb, po + zb * 3 + 2, none⟩ = some (.int .i64 ub.w)) ∧ Kp (Below W.heap.size W w') ∧ Kp (∀ b cs t, Box W b cs t → Box w' b cs t)) (fun e w' h => ⟨h.1, HBS.out _ _ hS h.2, ⟨h.2⟩, ⟨fun b cs t hx => hx.below h.2⟩⟩))
              have hb87 : b8 < w7.heap.size := HBX7.out.lt
              have h67 : w6.heap.size ≤ w7.heap.size := HG7.out.size
              clear hps hpts pa0 pa1 pa2 pb0 pb1 pb2 CF
              by_cases hbr : 0 ≤ least ∧ least < g2
              focus
                have HCB := Kp.mk (HBRK.out hbr.1 hbr.2)
                have t1 : decide (least ≥ 0) = true := decide_eq_true hbr.1
                have t2 : decide (g2 > least) = true := decide_eq_true hbr.2
                clear hS0 HBS hSA CM HST HBRK HSG
                go_wp2
                go_roundw
                case rel => exact ⟨i + 1, A, B, least, by omega, by go_num, rfl, hlb, HCB, HBX7, HG7⟩
                case measure => simp [intOf]; omega
              clear HBRK
              rcases (show (least < 0 ∧ Kp True) ∨ (0 ≤ least ∧ Kp (¬ least < g2)) from by
                by_cases h0 : least < 0
                · exact .inl ⟨h0, ⟨trivial⟩⟩
                · exact .inr ⟨by omega, ⟨fun h => hbr ⟨by omega, h⟩⟩⟩) with ⟨hl, HEM⟩ | ⟨hl, HEM⟩
              · obtain ⟨mI, hmI⟩ : ∃ z : Int, min (za : Int) (zb : Int) = z := ⟨_, rfl⟩
                obtain ⟨xI, hxI⟩ : ∃ z : Int, max (za : Int) (zb : Int) = z := ⟨_, rfl⟩
                have HMI := Kp.mk (show ((min za zb : Nat) : Int) = mI by omega)
                have HXI := Kp.mk (show ((max za zb : Nat) : Int) = xI by omega)
                obtain ⟨AI, hAI⟩ : ∃ z : Int, (A : Int) = z := ⟨_, rfl⟩
                obtain ⟨BI, hBI⟩ : ∃ z : Int, (B : Int) = z := ⟨_, rfl⟩
                have HAI := Kp.mk hAI
                have HBI := Kp.mk hBI
                rw [hAI, hBI] at HBX7
                clear hAI hBI
                have t1 : decide (least ≥ 0) = false := decide_eq_false (by omega)
                have t0 : decide (least < 0) = true := decide_eq_true hl
                go_wp2
                refine wp_region_noPanic ?_
                refine wp_region_held_drew (S := (fun w' => w'.cell? ⟨B0, 0, none⟩ = some (.slice (some ⟨pb, po, none⟩) j cap) ∧ w'.cell? ⟨pb, po + za * 3, none⟩ = some (.int .i64 ua.x) ∧ w'.cell? ⟨pb, po + za * 3 + 1, none⟩ = some (.int .i64 ua.y) ∧ w'.cell? ⟨pb, po + za * 3 + 2, none⟩ = some (.int .i64 ua.w) ∧ w'.cell? ⟨pb, po + zb * 3, none⟩ = some (.int .i64 ub.x) ∧ w'.cell? ⟨pb, po + zb * 3 + 1, none⟩ = some (.int .i64 ub.y) ∧ w'.cell? ⟨pb, po + zb * 3 + 2, none⟩ = some (.int .i64 ub.w))) (by kernel_rfl) ?_ (fun hHeld => ?_)
                · exact hS0
                refine wpAnyH_take (i := 0) (v := ?_) rfl (by kernel_rfl) (by kernel_rfl) (by kernel_rfl) (fun _ _ _ h => h) (Or.inl ⟨by rfl, ?_⟩) (by assumption) ?_
                rotate_left
                · (intro w hSw; (try dsimp only at hSw); go_simp; try with_reducible rfl)
                try simp only [Act.put]
                refine wpAnyH_take (i := 1) (v := ?_) rfl (by kernel_rfl) (by kernel_rfl) (by kernel_rfl) (fun _ _ _ h => h) (Or.inl ⟨by rfl, ?_⟩) (by assumption) ?_
                rotate_left
                · (intro w hSw; (try dsimp only at hSw); go_simp; try with_reducible rfl)
                try simp only [Act.put]
                refine wpAnyH_take (i := 2) (v := ?_) rfl (by kernel_rfl) (by kernel_rfl) (by kernel_rfl) (fun _ _ _ h => h) (Or.inl ⟨by rfl, ?_⟩) (by assumption) ?_
                rotate_left
                · (intro w hSw; (try dsimp only at hSw); go_simp; try with_reducible rfl)
                try simp only [Act.put]
                refine wpAnyH_take (i := 3) (v := ?_) rfl (by kernel_rfl) (by kernel_rfl) (by kernel_rfl) (fun _ _ _ h => h) (Or.inl ⟨by rfl, ?_⟩) (by assumption) ?_
                rotate_left
                · (intro w hSw; (try dsimp only at hSw); go_simp; try with_reducible rfl)
                try simp only [Act.put]
                refine wpAnyH_take (i := 4) (v := ?_) rfl (by kernel_rfl) (by kernel_rfl) (by kernel_rfl) (fun _ _ _ h => h) (Or.inl ⟨by rfl, ?_⟩) (by assumption) ?_
                rotate_left
                · (intro w hSw; (try dsimp only at hSw); go_simp; try with_reducible rfl)
                try simp only [Act.put]
                refine wpAnyH_take (i := 5) (v := ?_) rfl (by kernel_rfl) (by kernel_rfl) (by kernel_rfl) (fun _ _ _ h => h) (Or.inl ⟨by rfl, ?_⟩) (by assumption) ?_
                rotate_left
                · (intro w hSw; (try dsimp only at hSw); go_simp; try with_reducible rfl)
                try simp only [Act.put]
                refine wpAnyH_take (i := 6) (v := ?_) rfl (by kernel_rfl) (by kernel_rfl) (by kernel_rfl) (fun _ _ _ h => h) (Or.inl ⟨by rfl, ?_⟩) (by assumption) ?_
                rotate_left
                · (intro w hSw; (try dsimp only at hSw); go_simp; try with_reducible rfl)
                try simp only [Act.put]
                refine wpAnyH_take (i := 7) (v := ?_) rfl (by kernel_rfl) (by kernel_rfl) (by kernel_rfl) (fun _ _ _ h => h) (Or.inl ⟨by rfl, ?_⟩) (by assumption) ?_
                rotate_left
                · (intro w hSw; (try dsimp only at hSw); go_simp; try with_reducible rfl)
                try simp only [Act.put]
                refine wpAnyH_take (i := 8) (v := ?_) rfl (by kernel_rfl) (by kernel_rfl) (by kernel_rfl) (fun _ _ _ h => h) (Or.inl ⟨by rfl, ?_⟩) (by assumption) ?_
                rotate_left
                · (intro w hSw; (try dsimp only at hSw); go_simp; try with_reducible rfl)
                try simp only [Act.put]
                refine wpAnyH_take (i := 9) (v := ?_) rfl (by kernel_rfl) (by kernel_rfl) (by kernel_rfl) (fun _ _ _ h => h) (Or.inl ⟨by rfl, ?_⟩) (by assumption) ?_
                rotate_left
                · (intro w hSw; (try dsimp only at hSw); go_simp; try with_reducible rfl)
                try simp only [Act.put]
                refine wpAnyH_take (i := 10) (v := ?_) rfl (by kernel_rfl) (by kernel_rfl) (by kernel_rfl) (fun _ _ _ h => h) (Or.inl ⟨by rfl, ?_⟩) (by assumption) ?_
                rotate_left
                · (intro w hSw; (try dsimp only at hSw); go_simp; try with_reducible rfl)
                try simp only [Act.put]
                refine wpAnyH_take (i := 11) (v := ?_) rfl (by kernel_rfl) (by kernel_rfl) (by kernel_rfl) (fun _ _ _ h => h) (Or.inl ⟨by rfl, ?_⟩) (by assumption) ?_
                rotate_left
                · (intro w hSw; (try dsimp only at hSw); go_simp; try with_reducible rfl)
                try simp only [Act.put]
                refine wpAnyH_take (i := 12) (v := ?_) rfl (by kernel_rfl) (by kernel_rfl) (by kernel_rfl) (fun _ _ _ h => h) (Or.inl ⟨by rfl, ?_⟩) (by assumption) ?_
                rotate_left
                · (intro w hSw; (try dsimp only at hSw); go_simp; try with_reducible rfl)
                try simp only [Act.put]
                refine wpAnyH_take (i := 13) (v := ?_) rfl (by kernel_rfl) (by kernel_rfl) (by kernel_rfl) (fun _ _ _ h => h) (Or.inl ⟨by rfl, ?_⟩) (by assumption) ?_
                rotate_left
                · (intro w hSw; (try dsimp only at hSw); go_simp; try with_reducible rfl)
                try simp only [Act.put]
                refine wpAnyH_take (i := 14) (v := ?_) rfl (by kernel_rfl) (by kernel_rfl) (by kernel_rfl) (fun _ _ _ h => h) (Or.inl ⟨by rfl, ?_⟩) (by assumption) ?_
                rotate_left
                · (intro w hSw; (try dsimp only at hSw); go_simp; try with_reducible rfl)
                try simp only [Act.put]
                refine wpAnyH_ready (rs := [15, 16]) (by kernel_rfl) (by simp) ?_
                refine AllReadyH.cons rfl (fun K hK => ?_) (AllReadyH.cons rfl (fun K hK => ?_) AllReadyH.nil)
                go_simp
                refine (CM.out _ (by exact hS0)).mono ?_
                rintro e w8 ⟨rfl, hS3, HK3, HK4⟩
                have hb8' : Box w8 b8 #[.int .i64 AI, .int .i64 BI] 54 := HK4.out _ _ _ HBX7.out
                try dsimp only
                refine hK.out _ _ ?_ (fun hHeld => ?_)
                · exact hS3
                clear hK K
                try simp only [Act.put]
                refine wpAnyH_ready (rs := [16]) (by kernel_rfl) (by simp) ?_
                refine AllReadyH.cons rfl (fun K hK => ?_) AllReadyH.nil
                go_simp
                refine hK.out _ _ ?_ (fun hHeld => ?_)
                · exact HBS.out w8 _ hS3 (below_alloc (Nat.le_refl _) _)
                clear hK K
                try simp only [Act.put]
                refine wpAnyH_ready (rs := [17]) (by kernel_rfl) (by simp) ?_
                refine AllReadyH.cons rfl (fun K hK => ?_) AllReadyH.nil
                go_simp
                refine hK.out _ _ ?_ (fun hHeld => ?_)
                · first | exact HBS.out w8 _ hS3 (below_alloc (Nat.le_refl _) _) | exact HSG.out w8 _ hS3 (grown_trans (grown_set w8 w7.heap.size 0 _) (grown_set _ w7.heap.size 1 _))
                clear hK K
                try simp only [Act.put]
                refine wpAnyH_take (i := 18) (v := ?_) rfl (by kernel_rfl) (by kernel_rfl) (by kernel_rfl) (fun _ _ _ h => h) (Or.inl ⟨by rfl, ?_⟩) (by assumption) ?_
                rotate_left
                · (intro w hSw; (try dsimp only at hSw); go_simp; try with_reducible rfl)
                try simp only [Act.put]
                refine wpAnyH_done (by kernel_rfl) ?_ _
                refine NoPanic.normal ?_
                rotate_left
                go_simp
                refine hK.out _ _ ?_ (fun hHeld => ?_)
                · exact hSA
                clear hK K
                try simp only [Act.put]
                refine wpAnyH_ready (rs := [15]) (by kernel_rfl) (by simp) ?_
                refine AllReadyH.cons rfl (fun K hK => ?_) AllReadyH.nil
                go_simp
                refine (CM.out _ (by exact hSA)).mono ?_
                rintro e w8 ⟨rfl, hS3, HK3, HK4⟩
                have hx3 : Box w8 w7.heap.size #[.int .i64 0, .int .i64 0] 54 := HK4.out _ _ _ (Box.new w7 #[.int .i64 0, .int .i64 0] 54)
                have z0 : w8.cell? ⟨w7.heap.size, 0, none⟩ = some (.int .i64 0) := hx3.cell 0 rfl
                have z1 : w8.cell? ⟨w7.heap.size, 1, none⟩ = some (.int .i64 0) := hx3.cell 1 rfl
                have y0 := frozen_of_row w8 w7.heap.size 0 _ _ hx3
                have y1 := frozen_of_row w8 w7.heap.size 1 _ _ hx3
                have hb8' : Box w8 b8 #[.int .i64 AI, .int .i64 BI] 54 := HK4.out _ _ _ (HBX7.out.alloc _)
                try dsimp only
                refine hK.out _ _ ?_ (fun hHeld => ?_)
                · exact hS3
                clear hK K
                try simp only [Act.put]
                refine wpAnyH_ready (rs := [17]) (by kernel_rfl) (by simp) ?_
                refine AllReadyH.cons rfl (fun K hK => ?_) AllReadyH.nil
                go_simp
                refine hK.out _ _ ?_ (fun hHeld => ?_)
                · first | exact HBS.out w8 _ hS3 (below_alloc (Nat.le_refl _) _) | exact HSG.out w8 _ hS3 (grown_trans (grown_set w8 w7.heap.size 0 _) (grown_set _ w7.heap.size 1 _))
                clear hK K
                try simp only [Act.put]
                refine wpAnyH_take (i := 18) (v := ?_) rfl (by kernel_rfl) (by kernel_rfl) (by kernel_rfl) (fun _ _ _ h => h) (Or.inl ⟨by rfl, ?_⟩) (by assumption) ?_
                rotate_left
                · (intro w hSw; (try dsimp only at hSw); go_simp; try with_reducible rfl)
                try simp only [Act.put]
                refine wpAnyH_done (by kernel_rfl) ?_ _
                refine NoPanic.normal ?_
                rotate_left
                all_goals
                  first
                    | (have HP9 := Kp.mk (box_put (i := 1) (box_put (i := 0) hx3 (.int .i64 mI)) (.int .i64 xI))
                       have HB9 := Kp.mk (box_far (o := 1) (v := .int .i64 xI) (box_far (o := 0) (v := .int .i64 mI) hb8' (show w7.heap.size ≠ b8 by omega)) (show w7.heap.size ≠ b8 by omega))
                       have HG9 := Kp.mk (grown_far (grown_far (grown_far HG7.out (grown_of_below (r := none) ((below_alloc (Nat.le_refl w7.heap.size) (.cells #[.int .i64 0, .int .i64 0] 54)).drew)) (fun q hq => by cases hq)) (grown_of_below (r := none) HK3.out) (fun q hq => by cases hq)) (grown_trans (grown_set w8 w7.heap.size 0 (.int .i64 mI)) (grown_set _ w7.heap.size 1 (.int .i64 xI))) (fun q hq => by cases hq; exact .inl h67))
                       clear hx3 z0 z1 y0 y1
                       obtain ⟨b15, hb15⟩ : ∃ b15, w7.heap.size = b15 := ⟨_, rfl⟩
                       have hne15 : b8 ≠ b15 := by omega
                       rw [hb15] at HP9
                       simp only [hb15]
                       rw [hb15] at HB9 HG9
                       generalize (w8.setCell ⟨b15, 0, none⟩ (.int .i64 mI)).setCell ⟨b15, 1, none⟩ (.int .i64 xI) = w9 at *
                       clear hb15)
                    | (have HP9 := Kp.mk (Box.new w8 #[.int .i64 mI, .int .i64 xI] 54)
                       have HB9 := Kp.mk (hb8'.alloc (.cells #[.int .i64 mI, .int .i64 xI] 54))
                       have HG9 := Kp.mk (grown_far (grown_far HG7.out (grown_of_below (r := none) (((Below.refl _ w7).drew).trans HK3.out)) (fun q hq => by cases hq)) (grown_of_below (r := none) (below_alloc (Nat.le_refl w8.heap.size) (.cells #[.int .i64 mI, .int .i64 xI] 54))) (fun q hq => by cases hq))
                       obtain ⟨b15, hb15⟩ : ∃ b15, w8.heap.size = b15 := ⟨_, rfl⟩
                       have hne15 : b8 ≠ b15 := by have := hb8'.lt; omega
                       rw [hb15] at HP9
                       simp only [hb15]
                       generalize w8.alloc (.cells #[.int .i64 mI, .int .i64 xI] 54) = w9 at *
                       clear hb15)
                all_goals
                  have hne15' : b15 ≠ b8 := fun e => hne15 e.symm
                  have k0 : w9.cell? ⟨b8, 0, none⟩ = some (.int .i64 AI) := HB9.out.cell 0 rfl
                  have k1 : w9.cell? ⟨b8, 1, none⟩ = some (.int .i64 BI) := HB9.out.cell 1 rfl
                  have v0 := frozen_of_row w9 b8 0 _ _ HB9.out
                  have v1 := frozen_of_row w9 b8 1 _ _ HB9.out
                  have r0 : w9.cell? ⟨b15, 0, none⟩ = some (.int .i64 mI) := (show Box w9 b15 #[.int .i64 mI, .int .i64 xI] 54 from HP9.out).cell 0 rfl
                  have r1 : w9.cell? ⟨b15, 1, none⟩ = some (.int .i64 xI) := (show Box w9 b15 #[.int .i64 mI, .int .i64 xI] 54 from HP9.out).cell 1 rfl
                  clear hS3 CM hS0 hSA HBS HSG HK3 HK4 hmI hxI hb8' HBX7 HG7 HP9 h67 hb87 n1 n3
                  have HCN := Kp.mk (HST.out.1 (.inl hl))
                  clear HST
                  go_wp2
                  have HBU := Kp.mk (show Box ((w9.setCell ⟨b8, 0, none⟩ (.int .i64 mI)).setCell ⟨b8, 1, none⟩ (.int .i64 xI)) b8 #[.int .i64 ((min za zb : Nat) : Int), .int .i64 ((max za zb : Nat) : Int)] 54 from by
                    rw [HMI.out, HXI.out]; exact box_put (i := 1) (box_put (i := 0) HB9.out (.int .i64 mI)) (.int .i64 xI))
                  have HGU := Kp.mk (grown_trans HG9.out (grown_trans (grown_set w9 b8 0 (.int .i64 mI)) (grown_set _ b8 1 (.int .i64 xI))))
                  go_roundw
                  case rel => exact ⟨q + 1, min za zb, max za zb, f, by omega, by go_num, rfl, hfb.2, HCN, HBU, HGU⟩
                  case measure => simp [intOf]; omega
              · obtain ⟨mI, hmI⟩ : ∃ z : Int, min (za : Int) (zb : Int) = z := ⟨_, rfl⟩
                obtain ⟨xI, hxI⟩ : ∃ z : Int, max (za : Int) (zb : Int) = z := ⟨_, rfl⟩
                have HMI := Kp.mk (show ((min za zb : Nat) : Int) = mI by omega)
                have HXI := Kp.mk (show ((max za zb : Nat) : Int) = xI by omega)
                obtain ⟨AI, hAI⟩ : ∃ z : Int, (A : Int) = z := ⟨_, rfl⟩
                obtain ⟨BI, hBI⟩ : ∃ z : Int, (B : Int) = z := ⟨_, rfl⟩
                have HAI := Kp.mk hAI
                have HBI := Kp.mk hBI
                rw [hAI, hBI] at HBX7
                clear hAI hBI
                have t1 : decide (least ≥ 0) = true := decide_eq_true hl
                have t2 : decide (g2 > least) = false := decide_eq_false (by have := HEM.out; omega)
                have t0 : decide (least < 0) = false := decide_eq_false (by omega)
                go_wp2
                refine wp_region_noPanic ?_
                refine wp_region_held_drew (S := (fun w' => w'.cell? ⟨B0, 0, none⟩ = some (.slice (some ⟨pb, po, none⟩) j cap) ∧ w'.cell? ⟨pb, po + za * 3, none⟩ = some (.int .i64 ua.x) ∧ w'.cell? ⟨pb, po + za * 3 + 1, none⟩ = some (.int .i64 ua.y) ∧ w'.cell? ⟨pb, po + za * 3 + 2, none⟩ = some (.int .i64 ua.w) ∧ w'.cell? ⟨pb, po + zb * 3, none⟩ = some (.int .i64 ub.x) ∧ w'.cell? ⟨pb, po + zb * 3 + 1, none⟩ = some (.int .i64 ub.y) ∧ w'.cell? ⟨pb, po + zb * 3 + 2, none⟩ = some (.int .i64 ub.w))) (by kernel_rfl) ?_ (fun hHeld => ?_)
                · exact hS0
                refine wpAnyH_take (i := 0) (v := ?_) rfl (by kernel_rfl) (by kernel_rfl) (by kernel_rfl) (fun _ _ _ h => h) (Or.inl ⟨by rfl, ?_⟩) (by assumption) ?_
                rotate_left
                · (intro w hSw; (try dsimp only at hSw); go_simp; try with_reducible rfl)
                try simp only [Act.put]
                refine wpAnyH_take (i := 1) (v := ?_) rfl (by kernel_rfl) (by kernel_rfl) (by kernel_rfl) (fun _ _ _ h => h) (Or.inl ⟨by rfl, ?_⟩) (by assumption) ?_
                rotate_left
                · (intro w hSw; (try dsimp only at hSw); go_simp; try with_reducible rfl)
                try simp only [Act.put]
                refine wpAnyH_take (i := 2) (v := ?_) rfl (by kernel_rfl) (by kernel_rfl) (by kernel_rfl) (fun _ _ _ h => h) (Or.inl ⟨by rfl, ?_⟩) (by assumption) ?_
                rotate_left
                · (intro w hSw; (try dsimp only at hSw); go_simp; try with_reducible rfl)
                try simp only [Act.put]
                refine wpAnyH_take (i := 3) (v := ?_) rfl (by kernel_rfl) (by kernel_rfl) (by kernel_rfl) (fun _ _ _ h => h) (Or.inl ⟨by rfl, ?_⟩) (by assumption) ?_
                rotate_left
                · (intro w hSw; (try dsimp only at hSw); go_simp; try with_reducible rfl)
                try simp only [Act.put]
                refine wpAnyH_take (i := 4) (v := ?_) rfl (by kernel_rfl) (by kernel_rfl) (by kernel_rfl) (fun _ _ _ h => h) (Or.inl ⟨by rfl, ?_⟩) (by assumption) ?_
                rotate_left
                · (intro w hSw; (try dsimp only at hSw); go_simp; try with_reducible rfl)
                try simp only [Act.put]
                refine wpAnyH_take (i := 5) (v := ?_) rfl (by kernel_rfl) (by kernel_rfl) (by kernel_rfl) (fun _ _ _ h => h) (Or.inl ⟨by rfl, ?_⟩) (by assumption) ?_
                rotate_left
                · (intro w hSw; (try dsimp only at hSw); go_simp; try with_reducible rfl)
                try simp only [Act.put]
                refine wpAnyH_take (i := 6) (v := ?_) rfl (by kernel_rfl) (by kernel_rfl) (by kernel_rfl) (fun _ _ _ h => h) (Or.inl ⟨by rfl, ?_⟩) (by assumption) ?_
                rotate_left
                · (intro w hSw; (try dsimp only at hSw); go_simp; try with_reducible rfl)
                try simp only [Act.put]
                refine wpAnyH_take (i := 7) (v := ?_) rfl (by kernel_rfl) (by kernel_rfl) (by kernel_rfl) (fun _ _ _ h => h) (Or.inl ⟨by rfl, ?_⟩) (by assumption) ?_
                rotate_left
                · (intro w hSw; (try dsimp only at hSw); go_simp; try with_reducible rfl)
                try simp only [Act.put]
                refine wpAnyH_take (i := 8) (v := ?_) rfl (by kernel_rfl) (by kernel_rfl) (by kernel_rfl) (fun _ _ _ h => h) (Or.inl ⟨by rfl, ?_⟩) (by assumption) ?_
                rotate_left
                · (intro w hSw; (try dsimp only at hSw); go_simp; try with_reducible rfl)
                try simp only [Act.put]
                refine wpAnyH_take (i := 9) (v := ?_) rfl (by kernel_rfl) (by kernel_rfl) (by kernel_rfl) (fun _ _ _ h => h) (Or.inl ⟨by rfl, ?_⟩) (by assumption) ?_
                rotate_left
                · (intro w hSw; (try dsimp only at hSw); go_simp; try with_reducible rfl)
                try simp only [Act.put]
                refine wpAnyH_take (i := 10) (v := ?_) rfl (by kernel_rfl) (by kernel_rfl) (by kernel_rfl) (fun _ _ _ h => h) (Or.inl ⟨by rfl, ?_⟩) (by assumption) ?_
                rotate_left
                · (intro w hSw; (try dsimp only at hSw); go_simp; try with_reducible rfl)
                try simp only [Act.put]
                refine wpAnyH_take (i := 11) (v := ?_) rfl (by kernel_rfl) (by kernel_rfl) (by kernel_rfl) (fun _ _ _ h => h) (Or.inl ⟨by rfl, ?_⟩) (by assumption) ?_
                rotate_left
                · (intro w hSw; (try dsimp only at hSw); go_simp; try with_reducible rfl)
                try simp only [Act.put]
                refine wpAnyH_take (i := 12) (v := ?_) rfl (by kernel_rfl) (by kernel_rfl) (by kernel_rfl) (fun _ _ _ h => h) (Or.inl ⟨by rfl, ?_⟩) (by assumption) ?_
                rotate_left
                · (intro w hSw; (try dsimp only at hSw); go_simp; try with_reducible rfl)
                try simp only [Act.put]
                refine wpAnyH_take (i := 13) (v := ?_) rfl (by kernel_rfl) (by kernel_rfl) (by kernel_rfl) (fun _ _ _ h => h) (Or.inl ⟨by rfl, ?_⟩) (by assumption) ?_
                rotate_left
                · (intro w hSw; (try dsimp only at hSw); go_simp; try with_reducible rfl)
                try simp only [Act.put]
                refine wpAnyH_take (i := 14) (v := ?_) rfl (by kernel_rfl) (by kernel_rfl) (by kernel_rfl) (fun _ _ _ h => h) (Or.inl ⟨by rfl, ?_⟩) (by assumption) ?_
                rotate_left
                · (intro w hSw; (try dsimp only at hSw); go_simp; try with_reducible rfl)
                try simp only [Act.put]
                refine wpAnyH_ready (rs := [15, 16]) (by kernel_rfl) (by simp) ?_
                refine AllReadyH.cons rfl (fun K hK => ?_) (AllReadyH.cons rfl (fun K hK => ?_) AllReadyH.nil)
                go_simp
                refine (CM.out _ (by exact hS0)).mono ?_
                rintro e w8 ⟨rfl, hS3, HK3, HK4⟩
                have hb8' : Box w8 b8 #[.int .i64 AI, .int .i64 BI] 54 := HK4.out _ _ _ HBX7.out
                try dsimp only
                refine hK.out _ _ ?_ (fun hHeld => ?_)
                · exact hS3
                clear hK K
                try simp only [Act.put]
                refine wpAnyH_ready (rs := [16]) (by kernel_rfl) (by simp) ?_
                refine AllReadyH.cons rfl (fun K hK => ?_) AllReadyH.nil
                go_simp
                refine hK.out _ _ ?_ (fun hHeld => ?_)
                · exact HBS.out w8 _ hS3 (below_alloc (Nat.le_refl _) _)
                clear hK K
                try simp only [Act.put]
                refine wpAnyH_ready (rs := [17]) (by kernel_rfl) (by simp) ?_
                refine AllReadyH.cons rfl (fun K hK => ?_) AllReadyH.nil
                go_simp
                refine hK.out _ _ ?_ (fun hHeld => ?_)
                · first | exact HBS.out w8 _ hS3 (below_alloc (Nat.le_refl _) _) | exact HSG.out w8 _ hS3 (grown_trans (grown_set w8 w7.heap.size 0 _) (grown_set _ w7.heap.size 1 _))
                clear hK K
                try simp only [Act.put]
                refine wpAnyH_take (i := 18) (v := ?_) rfl (by kernel_rfl) (by kernel_rfl) (by kernel_rfl) (fun _ _ _ h => h) (Or.inl ⟨by rfl, ?_⟩) (by assumption) ?_
                rotate_left
                · (intro w hSw; (try dsimp only at hSw); go_simp; try with_reducible rfl)
                try simp only [Act.put]
                refine wpAnyH_done (by kernel_rfl) ?_ _
                refine NoPanic.normal ?_
                rotate_left
                go_simp
                refine hK.out _ _ ?_ (fun hHeld => ?_)
                · exact hSA
                clear hK K
                try simp only [Act.put]
                refine wpAnyH_ready (rs := [15]) (by kernel_rfl) (by simp) ?_
                refine AllReadyH.cons rfl (fun K hK => ?_) AllReadyH.nil
                go_simp
                refine (CM.out _ (by exact hSA)).mono ?_
                rintro e w8 ⟨rfl, hS3, HK3, HK4⟩
                have hx3 : Box w8 w7.heap.size #[.int .i64 0, .int .i64 0] 54 := HK4.out _ _ _ (Box.new w7 #[.int .i64 0, .int .i64 0] 54)
                have z0 : w8.cell? ⟨w7.heap.size, 0, none⟩ = some (.int .i64 0) := hx3.cell 0 rfl
                have z1 : w8.cell? ⟨w7.heap.size, 1, none⟩ = some (.int .i64 0) := hx3.cell 1 rfl
                have y0 := frozen_of_row w8 w7.heap.size 0 _ _ hx3
                have y1 := frozen_of_row w8 w7.heap.size 1 _ _ hx3
                have hb8' : Box w8 b8 #[.int .i64 AI, .int .i64 BI] 54 := HK4.out _ _ _ (HBX7.out.alloc _)
                try dsimp only
                refine hK.out _ _ ?_ (fun hHeld => ?_)
                · exact hS3
                clear hK K
                try simp only [Act.put]
                refine wpAnyH_ready (rs := [17]) (by kernel_rfl) (by simp) ?_
                refine AllReadyH.cons rfl (fun K hK => ?_) AllReadyH.nil
                go_simp
                refine hK.out _ _ ?_ (fun hHeld => ?_)
                · first | exact HBS.out w8 _ hS3 (below_alloc (Nat.le_refl _) _) | exact HSG.out w8 _ hS3 (grown_trans (grown_set w8 w7.heap.size 0 _) (grown_set _ w7.heap.size 1 _))
                clear hK K
                try simp only [Act.put]
                refine wpAnyH_take (i := 18) (v := ?_) rfl (by kernel_rfl) (by kernel_rfl) (by kernel_rfl) (fun _ _ _ h => h) (Or.inl ⟨by rfl, ?_⟩) (by assumption) ?_
                rotate_left
                · (intro w hSw; (try dsimp only at hSw); go_simp; try with_reducible rfl)
                try simp only [Act.put]
                refine wpAnyH_done (by kernel_rfl) ?_ _
                refine NoPanic.normal ?_
                rotate_left
                all_goals
                  first
                    | (have HP9 := Kp.mk (box_put (i := 1) (box_put (i := 0) hx3 (.int .i64 mI)) (.int .i64 xI))
                       have HB9 := Kp.mk (box_far (o := 1) (v := .int .i64 xI) (box_far (o := 0) (v := .int .i64 mI) hb8' (show w7.heap.size ≠ b8 by omega)) (show w7.heap.size ≠ b8 by omega))
                       have HG9 := Kp.mk (grown_far (grown_far (grown_far HG7.out (grown_of_below (r := none) ((below_alloc (Nat.le_refl w7.heap.size) (.cells #[.int .i64 0, .int .i64 0] 54)).drew)) (fun q hq => by cases hq)) (grown_of_below (r := none) HK3.out) (fun q hq => by cases hq)) (grown_trans (grown_set w8 w7.heap.size 0 (.int .i64 mI)) (grown_set _ w7.heap.size 1 (.int .i64 xI))) (fun q hq => by cases hq; exact .inl h67))
                       clear hx3 z0 z1 y0 y1
                       obtain ⟨b15, hb15⟩ : ∃ b15, w7.heap.size = b15 := ⟨_, rfl⟩
                       have hne15 : b8 ≠ b15 := by omega
                       rw [hb15] at HP9
                       simp only [hb15]
                       rw [hb15] at HB9 HG9
                       generalize (w8.setCell ⟨b15, 0, none⟩ (.int .i64 mI)).setCell ⟨b15, 1, none⟩ (.int .i64 xI) = w9 at *
                       clear hb15)
                    | (have HP9 := Kp.mk (Box.new w8 #[.int .i64 mI, .int .i64 xI] 54)
                       have HB9 := Kp.mk (hb8'.alloc (.cells #[.int .i64 mI, .int .i64 xI] 54))
                       have HG9 := Kp.mk (grown_far (grown_far HG7.out (grown_of_below (r := none) (((Below.refl _ w7).drew).trans HK3.out)) (fun q hq => by cases hq)) (grown_of_below (r := none) (below_alloc (Nat.le_refl w8.heap.size) (.cells #[.int .i64 mI, .int .i64 xI] 54))) (fun q hq => by cases hq))
                       obtain ⟨b15, hb15⟩ : ∃ b15, w8.heap.size = b15 := ⟨_, rfl⟩
                       have hne15 : b8 ≠ b15 := by have := hb8'.lt; omega
                       rw [hb15] at HP9
                       simp only [hb15]
                       generalize w8.alloc (.cells #[.int .i64 mI, .int .i64 xI] 54) = w9 at *
                       clear hb15)
                all_goals
                  have hne15' : b15 ≠ b8 := fun e => hne15 e.symm
                  have k0 : w9.cell? ⟨b8, 0, none⟩ = some (.int .i64 AI) := HB9.out.cell 0 rfl
                  have k1 : w9.cell? ⟨b8, 1, none⟩ = some (.int .i64 BI) := HB9.out.cell 1 rfl
                  have v0 := frozen_of_row w9 b8 0 _ _ HB9.out
                  have v1 := frozen_of_row w9 b8 1 _ _ HB9.out
                  have r0 : w9.cell? ⟨b15, 0, none⟩ = some (.int .i64 mI) := (show Box w9 b15 #[.int .i64 mI, .int .i64 xI] 54 from HP9.out).cell 0 rfl
                  have r1 : w9.cell? ⟨b15, 1, none⟩ = some (.int .i64 xI) := (show Box w9 b15 #[.int .i64 mI, .int .i64 xI] 54 from HP9.out).cell 1 rfl
                  clear hS3 CM hS0 hSA HBS HSG HK3 HK4 hmI hxI hb8' HBX7 HG7 HP9 h67 hb87 n1 n3
                  by_cases c1 : f < least
                  · have d1 : decide (f < least) = true := decide_eq_true (by omega)
                    have HCN := Kp.mk (HST.out.1 (by have := HMI.out; have := HXI.out; have := HAI.out; have := HBI.out; omega))
                    clear HST
                    go_wp2
                    have HBU := Kp.mk (show Box ((w9.setCell ⟨b8, 0, none⟩ (.int .i64 mI)).setCell ⟨b8, 1, none⟩ (.int .i64 xI)) b8 #[.int .i64 ((min za zb : Nat) : Int), .int .i64 ((max za zb : Nat) : Int)] 54 from by
                      rw [HMI.out, HXI.out]; exact box_put (i := 1) (box_put (i := 0) HB9.out (.int .i64 mI)) (.int .i64 xI))
                    have HGU := Kp.mk (grown_trans HG9.out (grown_trans (grown_set w9 b8 0 (.int .i64 mI)) (grown_set _ b8 1 (.int .i64 xI))))
                    go_roundw
                    case rel => exact ⟨q + 1, min za zb, max za zb, f, by omega, by go_num, rfl, hfb.2, HCN, HBU, HGU⟩
                    case measure => simp [intOf]; omega
                  · by_cases c2 : f = least
                    · have d1 : decide (f < least) = false := decide_eq_false c1
                      have d2 : (f == least) = true := by rw [beq_iff_eq]; exact c2
                      by_cases c3 : mI < AI
                      · have d3 : decide (mI < AI) = true := decide_eq_true c3
                        have HCN := Kp.mk (HST.out.1 (by have := HMI.out; have := HXI.out; have := HAI.out; have := HBI.out; omega))
                        clear HST c2
                        go_wp2
                        have HBU := Kp.mk (show Box ((w9.setCell ⟨b8, 0, none⟩ (.int .i64 mI)).setCell ⟨b8, 1, none⟩ (.int .i64 xI)) b8 #[.int .i64 ((min za zb : Nat) : Int), .int .i64 ((max za zb : Nat) : Int)] 54 from by
                          rw [HMI.out, HXI.out]; exact box_put (i := 1) (box_put (i := 0) HB9.out (.int .i64 mI)) (.int .i64 xI))
                        have HGU := Kp.mk (grown_trans HG9.out (grown_trans (grown_set w9 b8 0 (.int .i64 mI)) (grown_set _ b8 1 (.int .i64 xI))))
                        go_roundw
                        case rel => exact ⟨q + 1, min za zb, max za zb, f, by omega, by go_num, rfl, hfb.2, HCN, HBU, HGU⟩
                        case measure => simp [intOf]; omega
                      · have d3 : decide (mI < AI) = false := decide_eq_false c3
                        by_cases c4 : mI = AI
                        · have d4 : (mI == AI) = true := by rw [beq_iff_eq]; exact c4
                          by_cases c5 : xI < BI
                          · have d5 : decide (xI < BI) = true := decide_eq_true c5
                            have HCN := Kp.mk (HST.out.1 (by have := HMI.out; have := HXI.out; have := HAI.out; have := HBI.out; omega))
                            clear HST c2 c4
                            go_wp2
                            have HBU := Kp.mk (show Box ((w9.setCell ⟨b8, 0, none⟩ (.int .i64 mI)).setCell ⟨b8, 1, none⟩ (.int .i64 xI)) b8 #[.int .i64 ((min za zb : Nat) : Int), .int .i64 ((max za zb : Nat) : Int)] 54 from by
                              rw [HMI.out, HXI.out]; exact box_put (i := 1) (box_put (i := 0) HB9.out (.int .i64 mI)) (.int .i64 xI))
                            have HGU := Kp.mk (grown_trans HG9.out (grown_trans (grown_set w9 b8 0 (.int .i64 mI)) (grown_set _ b8 1 (.int .i64 xI))))
                            go_roundw
                            case rel => exact ⟨q + 1, min za zb, max za zb, f, by omega, by go_num, rfl, hfb.2, HCN, HBU, HGU⟩
                            case measure => simp [intOf]; omega
                          · have d5 : decide (xI < BI) = false := decide_eq_false c5
                            have HCN := Kp.mk (HST.out.2 (by have := HMI.out; have := HXI.out; have := HAI.out; have := HBI.out; omega))
                            clear HST c2 c4
                            have HBU := Kp.mk (show Box w9 b8 #[.int .i64 (A : Int), .int .i64 (B : Int)] 54 from by rw [HAI.out, HBI.out]; exact HB9.out)
                            go_wp2
                            go_roundw
                            case rel => exact ⟨q + 1, A, B, least, by omega, by go_num, rfl, hlb, HCN, HBU, HG9⟩
                            case measure => simp [intOf]; omega
                        · have d4 : (mI == AI) = false := by rw [beq_eq_false_iff_ne]; exact c4
                          have HCN := Kp.mk (HST.out.2 (by have := HMI.out; have := HXI.out; have := HAI.out; have := HBI.out; omega))
                          clear HST c2
                          have HBU := Kp.mk (show Box w9 b8 #[.int .i64 (A : Int), .int .i64 (B : Int)] 54 from by rw [HAI.out, HBI.out]; exact HB9.out)
                          go_wp2
                          go_roundw
                          case rel => exact ⟨q + 1, A, B, least, by omega, by go_num, rfl, hlb, HCN, HBU, HG9⟩
                          case measure => simp [intOf]; omega
                    · have d1 : decide (f < least) = false := decide_eq_false c1
                      have d2 : (f == least) = false := by rw [beq_eq_false_iff_ne]; exact c2
                      have HCN := Kp.mk (HST.out.2 (by have := HMI.out; have := HXI.out; have := HAI.out; have := HBI.out; omega))
                      clear HST
                      have HBU := Kp.mk (show Box w9 b8 #[.int .i64 (A : Int), .int .i64 (B : Int)] 54 from by rw [HAI.out, HBI.out]; exact HB9.out)
                      go_wp2
                      go_roundw
                      case rel => exact ⟨q + 1, A, B, least, by omega, by go_num, rfl, hlb, HCN, HBU, HG9⟩
                      case measure => simp [intOf]; omega
            · have HC2 := Kp.mk (Hp.cinv_row HCI.out (by omega) hn2)
              go_wp2
              go_roundw
              case rel => exact ⟨i + 1, A, B, least, by omega, by go_num, rfl, hlb, HC2, HBX, HGR⟩
              case measure => simp [intOf]; omega
        · obtain rfl : i = j := by omega
          have HCE := Kp.mk (Hp.cinv_end HCI.out (dst_sym L) hn2 HZP.out)
          have hx2 := HX2B.out wr HGR.out
          have k0 : wr.cell? ⟨b8, 0, none⟩ = some (.int .i64 (A : Int)) := HBX.out.cell 0 rfl
          have k1 : wr.cell? ⟨b8, 1, none⟩ = some (.int .i64 (B : Int)) := HBX.out.cell 1 rfl
          have z0 : wr.cell? ⟨B0 + 1, 0, none⟩ = some (.int .i64 0) := hx2.cell 0 rfl
          have z1 : wr.cell? ⟨B0 + 1, 1, none⟩ = some (.int .i64 0) := hx2.cell 1 rfl
          have y0 := frozen_of_row wr (B0 + 1) 0 _ _ hx2
          have y1 := frozen_of_row wr (B0 + 1) 1 _ _ hx2
          have HQ2 := Kp.mk (show Box ((wr.setCell ⟨B0 + 1, 0, none⟩ (.int .i64 (A : Int))).setCell ⟨B0 + 1, 1, none⟩ (.int .i64 (B : Int))) (B0 + 1) #[.int .i64 (A : Int), .int .i64 (B : Int)] 54 from box_put (i := 1) (box_put (i := 0) hx2 (.int .i64 (A : Int))) (.int .i64 (B : Int)))
          have h6 : B0 ≤ w6.heap.size := by rw [← HB0.out]; exact HBW6.out.size
          have h7 : B0 ≤ wr.heap.size := Nat.le_trans h6 HGR.out.size
          have HFB := Kp.mk (show Below w.heap.size w ((wr.setCell ⟨B0 + 1, 0, none⟩ (.int .i64 (A : Int))).setCell ⟨B0 + 1, 1, none⟩ (.int .i64 (B : Int))) from by
            rw [HB0.out]
            exact (HBW6.out.trans (below_of_grown HGR.out h6 (fun q hq => by cases hq; omega))).trans (below_of_grown (grown_trans (grown_set wr (B0 + 1) 0 (.int .i64 (A : Int))) (grown_set _ (B0 + 1) 1 (.int .i64 (B : Int)))) h7 (fun q hq => by cases hq; omega)))
          have HLS := Kp.mk (show dstL L A B = least from HCE.out.2)
          clear hx2 HCI HALL HBX HGR
          go_wp2
          have c0 : ((wr.setCell ⟨B0 + 1, 0, none⟩ (.int .i64 (A : Int))).setCell ⟨B0 + 1, 1, none⟩ (.int .i64 (B : Int))).cell? ⟨B0 + 1, 0, none⟩ = some (.int .i64 (A : Int)) := HQ2.out.cell 0 rfl
          have c1 : ((wr.setCell ⟨B0 + 1, 0, none⟩ (.int .i64 (A : Int))).setCell ⟨B0 + 1, 1, none⟩ (.int .i64 (B : Int))).cell? ⟨B0 + 1, 1, none⟩ = some (.int .i64 (B : Int)) := HQ2.out.cell 1 rfl
          rw [← HLS.out] at *
          generalize (wr.setCell ⟨B0 + 1, 0, none⟩ (.int .i64 (A : Int))).setCell ⟨B0 + 1, 1, none⟩ (.int .i64 (B : Int)) = w99 at *
          exact bodyPost_ret (v := .tuple #[.agg #[.int .i64 (A : Int), .int .i64 (B : Int)], .int .i64 (dstL L A B), .int .i64 0]) (by simp [results, Try.results29, go_sem, c0, c1]) rfl ⟨A, B, rfl, ⟨HCE.out.1⟩, HFB⟩

end Go.Proofs.Ytlmdlholmlbcbaa
