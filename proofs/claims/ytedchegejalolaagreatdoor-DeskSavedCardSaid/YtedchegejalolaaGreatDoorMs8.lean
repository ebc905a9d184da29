import Derived.Test.YtedchegejalolaaGreatDoorMs7
import Derived.Test.YtedchegejalolaaGreatDoorMs4
import Derived.Lib.SlBytesConst
/- Package image: the walk of points. -/
namespace Go.Proofs.YtedchegejalolaaGreatDoor
set_option linter.unusedVariables false
open Go.RowKit

set_option maxHeartbeats 2000000 in
theorem eqb_any (a b : Option Addr) (n c c' : Nat) (l l' : List Nat) (w : World) (h : SlB w a n c l) (h' : SlB w b n c' l') (hn : n ≤ 1000000) :
    Calls Tryz.prog 106 #[.slice a n c, .slice b n c'] w fun e w' => e = .returned (.bool (decide (l = l'))) ∧ Below w.heap.size w w' := by
  have H := Kp.mk h
  have H' := Kp.mk h'
  have HL := Kp.mk h.len
  have HL' := Kp.mk h'.len
  obtain ⟨r, hr⟩ : ∃ r, r = decide (l = l') := ⟨_, rfl⟩
  rw [← hr]
  have HR := Kp.mk hr
  clear h h' hr
  obtain ⟨wo, rfl⟩ : ∃ wo : World, wo = w := ⟨_, rfl⟩
  go_enter Tryz.func106, Tryz.ntmps106
  go_wp2
  go_loopw [13] (fun i wr => ∃ k : Nat, k ≤ n ∧ i = .int .i64 k ∧ Kp (l.take k = l'.take k) ∧ Kp (Below wo.heap.size wo wr)) (fun i _ => n - (intOf i).toNat)
  case atStart => exact ⟨0, Nat.zero_le _, rfl, ⟨by simp⟩, ⟨Below.refl _ _⟩⟩
  case round =>
    obtain ⟨k, hk, rfl, HT, HB⟩ := hrel
    by_cases hlt : k < n
    · obtain ⟨b1, o1, rfl, c1⟩ := byte_cell (SlB.below H.out HB.out) k hlt
      obtain ⟨b2, o2, rfl, c2⟩ := byte_cell (SlB.below H'.out HB.out) k hlt
      have HE := Kp.mk (show l.getD k 0 = l'.getD k 0 → l.take (k + 1) = l'.take (k + 1) from fun e => by
        rw [List.take_succ_eq_append_getElem (by rw [HL.out]; exact hlt), List.take_succ_eq_append_getElem (by rw [HL'.out]; exact hlt), HT.out, ← getD_at l 0 (by rw [HL.out]; exact hlt), ← getD_at l' 0 (by rw [HL'.out]; exact hlt), e])
      have HNE := Kp.mk (show l.getD k 0 ≠ l'.getD k 0 → r = false from fun e => by rw [HR.out]; exact decide_eq_false (fun e' => e (by rw [e'])))
      generalize l.getD k 0 = x at *
      generalize l'.getD k 0 = y at *
      have l1 := later_cell c1
      have l2 := later_cell c2
      by_cases hxy : x = y
      · have HE2 := Kp.mk (HE.out hxy)
        have tx : ((x : Int) != (y : Int)) = false := by simp [hxy]
        clear HE HNE hxy
        go_wp2
        refine region_later (by kernel_rfl) (by kernel_rfl) ?_
        iterate 9 (go_big_quiet_step (fail))
        refine wpQuiet_nil ?_
        rintro w' ⟨xl, rfl⟩
        have HB6 := Kp.mk (HB.out.trans (xl.le.mono HB.out.size))
        clear l1 l2 c1 c2
        go_wp2
        go_roundw
        case rel => exact ⟨k + 1, by omega, by go_num, HE2, HB6⟩
        case measure => simp [intOf]; omega
      · have hF := HNE.out hxy
        have tx : ((x : Int) != (y : Int)) = true := by simp; omega
        clear HE HNE hxy HR
        subst hF
        go_wp2
        refine region_later (by kernel_rfl) (by kernel_rfl) ?_
        iterate 9 (go_big_quiet_step (fail))
        refine wpQuiet_nil ?_
        rintro w' ⟨xl, rfl⟩
        have HB6 := Kp.mk (HB.out.trans (xl.le.mono HB.out.size))
        clear l1 l2 c1 c2
        go_wp2
        go_ret
        exact ⟨rfl, HB6.out⟩
    · obtain rfl : k = n := by omega
      have hT : r = true := by
        rw [HR.out]
        refine decide_eq_true ?_
        have := HT.out
        rwa [List.take_of_length_le (by rw [HL.out]; exact Nat.le_refl _), List.take_of_length_le (by rw [HL'.out]; exact Nat.le_refl _)] at this
      clear HR
      subst hT
      go_wp2
      go_ret
      exact ⟨rfl, HB.out⟩

/-- What comes behind numbers that were read. -/
def contL (xs : List Nat) (o : Option (List Nat × List Nat)) : Option (List Nat × List Nat) := o.map fun p => (xs ++ p.1, p.2)
theorem contL_nil (o : Option (List Nat × List Nat)) : contL [] o = o := by cases o <;> simp [contL]
theorem contL_step {xs : List Nat} {m v : Nat} {r r1 : List Nat} (h : getL r = some (v, r1)) : contL xs (numsL (m + 1) r) = contL (xs ++ [v]) (numsL m r1) := by
  simp only [numsL, h]
  cases numsL m r1 with
  | none => rfl
  | some p => obtain ⟨l, r'⟩ := p; simp [contL]
theorem contL_none {xs : List Nat} {m : Nat} {r : List Nat} (h : getL r = none) : contL xs (numsL (m + 1) r) = none := by
  rw [numsL, h]; rfl
theorem contL_end (xs r : List Nat) : contL xs (numsL 0 r) = some (xs, r) := by simp [numsL, contL]
attribute [irreducible] contL
/-- The cells of points of which the first numbers are read. -/
def outC (xs : List Nat) (c : Nat) : List Value := ints (xs.map unfN) ++ List.replicate (3 * c - xs.length) (.int .i64 0)
theorem outC_nil (c : Nat) : outC [] c = List.replicate (3 * c) (.int .i64 0) := by simp [outC, ints]
theorem outC_set (xs : List Nat) (c v : Nat) (h : xs.length < 3 * c) : (outC xs c).set xs.length (.int .i64 (unfN v)) = outC (xs ++ [v]) c := by
  unfold outC
  rw [List.set_append_right _ _ (by simp [ints])]
  simp only [ints, List.length_map, Nat.sub_self, List.map_append, List.length_append, List.length_singleton, List.append_assoc]
  congr 1
  obtain ⟨d, hd⟩ : ∃ d, 3 * c - xs.length = d + 1 := ⟨3 * c - xs.length - 1, by omega⟩
  rw [hd, show 3 * c - (xs.length + 1) = d by omega, List.replicate_succ]
  simp
theorem outC_end (xs : List Nat) (c : Nat) (h : xs.length = 3 * c) : outC xs c = ints (xs.map unfN) := by simp [outC, h]
theorem outC_at (xs : List Nat) (c i : Nat) (h : xs.length ≤ i) (hi : i < 3 * c) : (outC xs c)[i]? = some (.int .i64 0) := by
  unfold outC
  rw [List.getElem?_append_right (by simp [ints]; exact h)]
  rw [List.getElem?_replicate, if_pos (by simp [ints]; omega)]
attribute [irreducible] outC

theorem made3 (c : Nat) : (madeCells (Value.agg #[.int .i64 0, .int .i64 0, .int .i64 0]).cells (c * 3)).toList = List.replicate (3 * c) (.int .i64 0) := by
  apply List.ext_getElem
  · simp [madeCells]; omega
  · intro i h1 h2
    simp only [madeCells, Array.toList_map, List.getElem_map, Array.toList_range, List.getElem_range, List.getElem_replicate]
    show (#[Value.int .i64 0, .int .i64 0, .int .i64 0] : Array Value)[i % 3]! = _
    have : i % 3 = 0 ∨ i % 3 = 1 ∨ i % 3 = 2 := by omega
    rcases this with e | e | e <;> rw [e] <;> rfl

set_option maxRecDepth 100000 in
set_option maxHeartbeats 8000000 in
theorem imgPoints_any (a : Option Addr) (n cap : Nat) (l : List Nat) (w : World) (h : SlB w a n cap l) (hb : ∀ x ∈ l, x < 256) (h5 : 5 ≤ n) :
    Calls Tryz.prog 71 #[.slice a n cap] w fun e w' => Below w.heap.size w w' ∧ ((∃ (ra : Option Addr) (c rc : Nat) (xs : List Nat), e = .returned (.tuple #[.slice ra c rc, .bool true]) ∧ c ≤ 150 ∧ Kp (parseL l = some (xs, [])) ∧ Kp (xs.length = 3 * c) ∧ Kp (w'.ownsRow w.heap.size 78 3 (.slice ra c rc) c (ints (xs.map unfN)))) ∨ (∃ (ra : Option Addr) (rn rc : Nat), e = .returned (.tuple #[.slice ra rn rc, .bool false]) ∧ Kp (∀ xs, parseL l ≠ some (xs, [])))) := by
  obtain ⟨b, off, rfl, _⟩ := byte_cell h 0 (by omega)
  have h4 : 4 ≤ n := by omega
  have H := Kp.mk h
  have HBLT := Kp.mk (show b < w.heap.size from SlC.blt h (by rw [byts_length, h.len]; omega))
  have HB := Kp.mk hb
  have hcap : n ≤ cap := SlC.le h
  have H4 := Kp.mk (show SlB w (some ⟨b, off, none⟩) 4 cap (l.take 4) from by
    have := SlC.front h h4
    rw [Nat.mul_one, byts_take] at this; exact this)
  have kc : (convert 46 46 (.slice (some ⟨w.heap.size, 0, none⟩) 4 4)).run Tryz.prog (w.alloc (.cells #[.int .u8 68, .int .u8 65, .int .u8 77, .int .u8 49] 5)) = .ok (.slice (some ⟨w.heap.size, 0, none⟩) 4 4) (w.alloc (.cells #[.int .u8 68, .int .u8 65, .int .u8 77, .int .u8 49] 5 (4, 5))) :=
    Lib.run_convert_bytes_const (P := Tryz.prog) w 46 5 #[.int .u8 68, .int .u8 65, .int .u8 77, .int .u8 49] 4 4 Tryz.underlying46 Tryz.underlying5
  have hbC : Below w.heap.size w (w.alloc (.cells #[.int .u8 68, .int .u8 65, .int .u8 77, .int .u8 49] 5 (4, 5))) := below_alloc (Nat.le_refl _) _
  have s0 : SlB (w.alloc (.cells #[.int .u8 68, .int .u8 65, .int .u8 77, .int .u8 49] 5 (4, 5))) (some ⟨w.heap.size, 0, none⟩) 4 4 headL := by
    refine ⟨rfl, Nat.le_refl _, by decide, (fun h => by cases h), fun i hi => ⟨w.heap.size, 0, rfl, ?_⟩⟩
    rw [Nat.zero_add, World.cell?_alloc_mark]
    have hi9 : i < 4 := hi
    match i, hi9 with
    | 0, _ => rfl | 1, _ => rfl | 2, _ => rfl | 3, _ => rfl
  have CE := Kp.mk (eqb_any _ _ 4 cap 4 (l.take 4) headL _ (SlB.below H4.out hbC) s0 (by omega))
  have HBC := Kp.mk hbC
  have HPH := Kp.mk (show ¬ l.take 4 = headL → ∀ xs, parseL l ≠ some (xs, []) from fun hne xs e => by unfold parseL at e; rw [if_neg hne] at e; cases e)
  have HPN := Kp.mk (show l.take 4 = headL → getL (l.drop 4) = none → ∀ xs, parseL l ≠ some (xs, []) from fun he hg xs e => by unfold parseL at e; rw [if_pos he, hg] at e; cases e)
  have HPC := Kp.mk (show l.take 4 = headL → ∀ c r, getL (l.drop 4) = some (c, r) → ¬ c ≤ 150 → ∀ xs, parseL l ≠ some (xs, []) from fun he c r hg hc xs e => by unfold parseL at e; rw [if_pos he, hg] at e; simp only [if_neg hc] at e; cases e)
  have HPG := Kp.mk (show l.take 4 = headL → ∀ c r, getL (l.drop 4) = some (c, r) → c ≤ 150 → parseL l = numsL (3 * c) r from fun he c r hg hc => by unfold parseL; rw [if_pos he, hg]; simp only [if_pos hc])
  have HD4 := Kp.mk (SlB.drop h h4)
  have HBD := Kp.mk (show ∀ x ∈ l.drop 4, x < 256 from fun x hx => hb x (List.mem_of_mem_drop hx))
  clear h hb s0 hbC
  go_enter Tryz.func71, Tryz.ntmps71
  by_cases hhd : l.take 4 = headL
  · rw [decide_eq_true hhd] at CE
    clear HPH
    have HPN := Kp.mk (HPN.out hhd)
    have HPC := Kp.mk (HPC.out hhd)
    have HPG := Kp.mk (HPG.out hhd)
    clear hhd
    go_wp2_with fail
    refine CE.out.mono ?_
    rintro e w1 ⟨rfl, hb1⟩
    have HB1 := Kp.mk (below_step HBC.out hb1)
    clear CE kc hb1
    generalize l.drop 4 = l4 at *
    have hc5 : 4 < cap := by omega
    have CG := Kp.mk (get_any _ _ _ l4 w1 (SlB.below HD4.out HB1.out) HBD.out)
    go_wp2_with fail
    refine CG.out.mono ?_
    rintro e w2 ⟨hb2, ⟨c, ra, rn, rc, r, rfl, HG, HS, HKB⟩ | ⟨c, ra, rn, rc, rfl, HG⟩⟩
    · have HB2 := Kp.mk (below_step HB1.out hb2)
      clear CG hb2
      by_cases hc : c ≤ 150
      · have HPG := Kp.mk (HPG.out c r HG.out hc)
        have HR := Kp.mk (getL_inv HBD.out HG.out)
        have HRB := Kp.mk (show ∀ x ∈ r, x < 256 from fun x hx => HBD.out x (by rw [HR.out.1]; simp [hx]))
        clear HPN HPC HG HR
        obtain ⟨B, hB⟩ : ∃ B, B = w2.heap.size := ⟨_, rfl⟩
        have HBE := Kp.mk hB
        have hBle : B ≤ w2.heap.size := by omega
        clear hB
        have tc : decide ((150 : Int) < c) = false := decide_eq_false (by omega)
        go_wp2_with (at_make; refine wpList_mk tPts rfl _ _ rfl B c rfl rfl ?m1 (by decide) hBle ?m2)
        case m1 => omega
        case m2 =>
          intro oa oc w3 ho3 hb3
          have HO3 := Kp.mk (show w3.ownsRow B 78 3 (.slice oa c oc) c (outC [] c) from by
            rw [outC_nil]
            rw [← made3]; exact ho3)
          have HB3 := Kp.mk (below_step HB2.out (by rw [← HBE.out]; exact hb3))
          have HS3 := Kp.mk (SlB.below HS.out (by rw [← HBE.out]; exact hb3))
          have HB3le : w.heap.size ≤ B := by rw [HBE.out]; exact HB2.out.size
          have hb3' : B ≤ w3.heap.size := Nat.le_trans hBle hb3.size
          clear ho3 hb3 HS HB2 HB1 HD4 HBD H4 HBC H
          obtain ⟨wo, rfl⟩ : ∃ wo : World, wo = w3 := ⟨_, rfl⟩
          go_wp2
          go_loopw [5, 37] (fun s i wr => ∃ (k : Nat) (ra : Option Addr) (rn rc : Nat) (r xs : List Nat), k ≤ c ∧ i = .int .i64 k ∧ s = .slice ra rn rc ∧ Kp (SlB wr ra rn rc r) ∧ Kp (blk ra = some b) ∧ Kp (∀ x ∈ r, x < 256) ∧ Kp (xs.length = 3 * k) ∧ Kp (parseL l = contL xs (numsL (3 * c - 3 * k) r)) ∧ Kp (wr.ownsRow B 78 3 (.slice oa c oc) c (outC xs c)) ∧ Kp (Below w.heap.size w wr)) (fun _ i _ => c - (intOf i).toNat)
          case atStart => exact ⟨0, ra, rn, rc, r, [], Nat.zero_le _, rfl, rfl, HS3, HKB, HRB, ⟨rfl⟩, ⟨by rw [contL_nil]; exact HPG.out⟩, HO3, HB3⟩
          case round =>
            clear HPG HRB HS3 HO3 HB3 HKB
            obtain ⟨k, ra, rn, rc, r, xs, hk, rfl, rfl, HS, HKB, HRB, HXL, HPG, HO, HBW⟩ := hrel
            by_cases hlt : k < c
            · obtain ⟨g, rfl, hg1, hg2⟩ := own_some HO.out (by omega)
              go_wp2
              go_region_held3 (fun _ => True) (first | trivial | go_keep) (fail)
              have HBX := Kp.mk (Box.new wr #[.pointer (some ⟨g, k * 3, none⟩), .pointer (some ⟨g, k * 3 + 1, none⟩), .pointer (some ⟨g, k * 3 + 2, none⟩)] 151)
              have hba : Below wr.heap.size wr (wr.alloc (.cells #[.pointer (some ⟨g, k * 3, none⟩), .pointer (some ⟨g, k * 3 + 1, none⟩), .pointer (some ⟨g, k * 3 + 2, none⟩)] 151)) := below_alloc (Nat.le_refl _) _
              have HS5 := Kp.mk (SlB.below HS.out hba.drew)
              have HO5 := Kp.mk (own_below HO.out hba.drew)
              have HB5 := Kp.mk (below_step HBW.out hba.drew)
              have HBX5 := Kp.mk (show Box (wr.alloc (.cells #[.pointer (some ⟨g, k * 3, none⟩), .pointer (some ⟨g, k * 3 + 1, none⟩), .pointer (some ⟨g, k * 3 + 2, none⟩)] 151)).drew wr.heap.size #[.pointer (some ⟨g, k * 3, none⟩), .pointer (some ⟨g, k * 3 + 1, none⟩), .pointer (some ⟨g, k * 3 + 2, none⟩)] 151 from HBX.out)
              have hgne : g ≠ wr.heap.size := by omega
              have hwb : w.heap.size ≤ g := by have := HB3le; omega
              clear HBX hba HS HO HBW
              generalize (wr.alloc (.cells #[.pointer (some ⟨g, k * 3, none⟩), .pointer (some ⟨g, k * 3 + 1, none⟩), .pointer (some ⟨g, k * 3 + 2, none⟩)] 151)).drew = wp at *
              generalize wr.heap.size = pb at *
              have hk3 : 3 * k + 3 ≤ 3 * c := by omega
              go_wp2
              go_loopw [5, 54] (fun s i wr => ∃ (j : Nat) (ra : Option Addr) (rn rc : Nat) (r xs : List Nat), j ≤ 3 ∧ i = .int .i64 j ∧ s = .slice ra rn rc ∧ Kp (SlB wr ra rn rc r) ∧ Kp (blk ra = some b) ∧ Kp (∀ x ∈ r, x < 256) ∧ Kp (xs.length = 3 * k + j) ∧ Kp (parseL l = contL xs (numsL (3 * c - (3 * k + j)) r)) ∧ Kp (wr.ownsRow B 78 3 (.slice (some ⟨g, 0, none⟩) c oc) c (outC xs c)) ∧ Kp (Below w.heap.size w wr) ∧ Kp (Box wr pb #[.pointer (some ⟨g, k * 3, none⟩), .pointer (some ⟨g, k * 3 + 1, none⟩), .pointer (some ⟨g, k * 3 + 2, none⟩)] 151)) (fun _ i _ => 3 - (intOf i).toNat)
              case atStart => exact ⟨0, ra, rn, rc, r, xs, by omega, rfl, rfl, HS5, HKB, HRB, ⟨by rw [HXL.out]; rfl⟩, HPG, HO5, HB5, HBX5⟩
              case round =>
                clear HS5 HKB HRB HXL HPG HO5 HB5 HBX5
                obtain ⟨j, ra, rn, rc, r, xs, hj, rfl, rfl, HS, HKB, HRB, HXL, HPG, HO, HBW, HBX⟩ := hrel
                by_cases hlt3 : j < 3
                · have CG := Kp.mk (get_any ra rn rc r wr HS.out HRB.out)
                  have hNE := Kp.mk (show 3 * c - (3 * k + j) = (3 * c - (3 * k + j + 1)) + 1 by omega)
                  rcases (show j = 0 ∨ j = 1 ∨ j = 2 by omega) with rfl | rfl | rfl
                  · have bx := HBX.out.cell 0 rfl
                    go_wp2_with fail
                    refine CG.out.mono ?_
                    rintro e w5 ⟨hb5, ⟨v, ta, tn, tc', r', rfl, HG, HS', HK'⟩ | ⟨v, ta, tn, tc', rfl, HG⟩⟩
                    · have hv := Kp.mk (getL_inv HRB.out HG.out)
                      have HO5 := Kp.mk (own_below HO.out hb5)
                      have HB5 := Kp.mk (below_step HBW.out hb5)
                      have HBX5 := Kp.mk (HBX.out.below hb5)
                      have CU := Kp.mk (fun W => unfold_any v W hv.out.2)
                      have HP5 := Kp.mk (show parseL l = contL (xs ++ [v]) (numsL (3 * c - (3 * k + 0 + 1)) r') from by rw [HPG.out, hNE.out]; exact contL_step HG.out)
                      have HRB5 := Kp.mk (show ∀ x ∈ r', x < 256 from fun x hx => HRB.out x (by rw [hv.out.1]; simp [hx]))
                      have cg : w5.cell? ⟨g, k * 3, none⟩ = some (.int .i64 0) := by
                        rw [HO5.out.cellAt (k * 3) (by omega), outC_at xs c _ (by rw [HXL.out]; omega) (by omega)]
                      have fg := HO5.out.frozenAt (k * 3)
                      have HO6 := Kp.mk (show (w5.setCell ⟨g, k * 3, none⟩ (.int .i64 (unfN v))).ownsRow B 78 3 (.slice (some ⟨g, 0, none⟩) c oc) c (outC (xs ++ [v]) c) from by
                        rw [← outC_set xs c v (by rw [HXL.out]; omega), HXL.out, show 3 * k + 0 = k * 3 by omega]
                        exact (HO5.out.stored (k * 3) (.int .i64 (unfN v))).1)
                      have HK6 := Kp.mk (show blk ta = some b from by rw [HK'.out, HKB.out])
                      have hg6 := grown_set w5 g (k * 3) (.int .i64 (unfN v))
                      have HS6 := Kp.mk (show SlB (w5.setCell ⟨g, k * 3, none⟩ (.int .i64 (unfN v))) ta tn tc' r' from SlC.keep HS'.out hg6 (fun q hq e => by cases hq; rw [HK6.out] at e; cases e; have := HBLT.out; omega))
                      have HB6 := Kp.mk (HB5.out.trans (below_of_grown hg6 HB5.out.size (fun q hq => by cases hq; exact hwb)))
                      have HBX6 := Kp.mk (box_far (o := k * 3) (v := .int .i64 (unfN v)) HBX5.out hgne)
                      clear hg6 CG HG hv HO HO5 HB5 HBX5 HS HS' hb5
                      go_wp2_with (go_at_call 108; refine (CU.out _).mono ?_; rintro e w' ⟨rfl, rfl⟩)
                      go_roundw
                      case rel => exact ⟨1, ta, tn, tc', r', xs ++ [v], by omega, by first | rfl | go_num, rfl, HS6, HK6, HRB5, ⟨by rw [List.length_append, HXL.out]; rfl⟩, HP5, HO6, HB6, HBX6⟩
                      case measure => simp [intOf]
                    · have HB5 := Kp.mk (below_step HBW.out hb5)
                      have HP := Kp.mk (show ∀ ys, parseL l ≠ some (ys, []) from fun ys e => by
                        rw [HPG.out, hNE.out, contL_none HG.out] at e; cases e)
                      clear CG HG HO HS HPG
                      go_wp2
                      refine bodyPost_ret (v := .tuple #[.slice none 0 0, .bool false]) (by simp [results, Tryz.results71, go_sem]) rfl ?_
                      exact ⟨HB5.out, .inr ⟨none, 0, 0, rfl, HP⟩⟩
                  · have bx := HBX.out.cell 1 rfl
                    go_wp2_with fail
                    refine CG.out.mono ?_
                    rintro e w5 ⟨hb5, ⟨v, ta, tn, tc', r', rfl, HG, HS', HK'⟩ | ⟨v, ta, tn, tc', rfl, HG⟩⟩
                    · have hv := Kp.mk (getL_inv HRB.out HG.out)
                      have HO5 := Kp.mk (own_below HO.out hb5)
                      have HB5 := Kp.mk (below_step HBW.out hb5)
                      have HBX5 := Kp.mk (HBX.out.below hb5)
                      have CU := Kp.mk (fun W => unfold_any v W hv.out.2)
                      have HP5 := Kp.mk (show parseL l = contL (xs ++ [v]) (numsL (3 * c - (3 * k + 1 + 1)) r') from by rw [HPG.out, hNE.out]; exact contL_step HG.out)
                      have HRB5 := Kp.mk (show ∀ x ∈ r', x < 256 from fun x hx => HRB.out x (by rw [hv.out.1]; simp [hx]))
                      have cg : w5.cell? ⟨g, k * 3 + 1, none⟩ = some (.int .i64 0) := by
                        rw [HO5.out.cellAt (k * 3 + 1) (by omega), outC_at xs c _ (by rw [HXL.out]; omega) (by omega)]
                      have fg := HO5.out.frozenAt (k * 3 + 1)
                      have HO6 := Kp.mk (show (w5.setCell ⟨g, k * 3 + 1, none⟩ (.int .i64 (unfN v))).ownsRow B 78 3 (.slice (some ⟨g, 0, none⟩) c oc) c (outC (xs ++ [v]) c) from by
                        rw [← outC_set xs c v (by rw [HXL.out]; omega), HXL.out, show 3 * k + 1 = k * 3 + 1 by omega]
                        exact (HO5.out.stored (k * 3 + 1) (.int .i64 (unfN v))).1)
                      have HK6 := Kp.mk (show blk ta = some b from by rw [HK'.out, HKB.out])
                      have hg6 := grown_set w5 g (k * 3 + 1) (.int .i64 (unfN v))
                      have HS6 := Kp.mk (show SlB (w5.setCell ⟨g, k * 3 + 1, none⟩ (.int .i64 (unfN v))) ta tn tc' r' from SlC.keep HS'.out hg6 (fun q hq e => by cases hq; rw [HK6.out] at e; cases e; have := HBLT.out; omega))
                      have HB6 := Kp.mk (HB5.out.trans (below_of_grown hg6 HB5.out.size (fun q hq => by cases hq; exact hwb)))
                      have HBX6 := Kp.mk (box_far (o := k * 3 + 1) (v := .int .i64 (unfN v)) HBX5.out hgne)
                      clear hg6 CG HG hv HO HO5 HB5 HBX5 HS HS' hb5
                      go_wp2_with (go_at_call 108; refine (CU.out _).mono ?_; rintro e w' ⟨rfl, rfl⟩)
                      go_roundw
                      case rel => exact ⟨2, ta, tn, tc', r', xs ++ [v], by omega, by first | rfl | go_num, rfl, HS6, HK6, HRB5, ⟨by rw [List.length_append, HXL.out]; rfl⟩, HP5, HO6, HB6, HBX6⟩
                      case measure => simp [intOf]
                    · have HB5 := Kp.mk (below_step HBW.out hb5)
                      have HP := Kp.mk (show ∀ ys, parseL l ≠ some (ys, []) from fun ys e => by
                        rw [HPG.out, hNE.out, contL_none HG.out] at e; cases e)
                      clear CG HG HO HS HPG
                      go_wp2
                      refine bodyPost_ret (v := .tuple #[.slice none 0 0, .bool false]) (by simp [results, Tryz.results71, go_sem]) rfl ?_
                      exact ⟨HB5.out, .inr ⟨none, 0, 0, rfl, HP⟩⟩
                  · have bx := HBX.out.cell 2 rfl
                    go_wp2_with fail
                    refine CG.out.mono ?_
                    rintro e w5 ⟨hb5, ⟨v, ta, tn, tc', r', rfl, HG, HS', HK'⟩ | ⟨v, ta, tn, tc', rfl, HG⟩⟩
                    · have hv := Kp.mk (getL_inv HRB.out HG.out)
                      have HO5 := Kp.mk (own_below HO.out hb5)
                      have HB5 := Kp.mk (below_step HBW.out hb5)
                      have HBX5 := Kp.mk (HBX.out.below hb5)
                      have CU := Kp.mk (fun W => unfold_any v W hv.out.2)
                      have HP5 := Kp.mk (show parseL l = contL (xs ++ [v]) (numsL (3 * c - (3 * k + 2 + 1)) r') from by rw [HPG.out, hNE.out]; exact contL_step HG.out)
                      have HRB5 := Kp.mk (show ∀ x ∈ r', x < 256 from fun x hx => HRB.out x (by rw [hv.out.1]; simp [hx]))
                      have cg : w5.cell? ⟨g, k * 3 + 2, none⟩ = some (.int .i64 0) := by
                        rw [HO5.out.cellAt (k * 3 + 2) (by omega), outC_at xs c _ (by rw [HXL.out]; omega) (by omega)]
                      have fg := HO5.out.frozenAt (k * 3 + 2)
                      have HO6 := Kp.mk (show (w5.setCell ⟨g, k * 3 + 2, none⟩ (.int .i64 (unfN v))).ownsRow B 78 3 (.slice (some ⟨g, 0, none⟩) c oc) c (outC (xs ++ [v]) c) from by
                        rw [← outC_set xs c v (by rw [HXL.out]; omega), HXL.out, show 3 * k + 2 = k * 3 + 2 by omega]
                        exact (HO5.out.stored (k * 3 + 2) (.int .i64 (unfN v))).1)
                      have HK6 := Kp.mk (show blk ta = some b from by rw [HK'.out, HKB.out])
                      have hg6 := grown_set w5 g (k * 3 + 2) (.int .i64 (unfN v))
                      have HS6 := Kp.mk (show SlB (w5.setCell ⟨g, k * 3 + 2, none⟩ (.int .i64 (unfN v))) ta tn tc' r' from SlC.keep HS'.out hg6 (fun q hq e => by cases hq; rw [HK6.out] at e; cases e; have := HBLT.out; omega))
                      have HB6 := Kp.mk (HB5.out.trans (below_of_grown hg6 HB5.out.size (fun q hq => by cases hq; exact hwb)))
                      have HBX6 := Kp.mk (box_far (o := k * 3 + 2) (v := .int .i64 (unfN v)) HBX5.out hgne)
                      clear hg6 CG HG hv HO HO5 HB5 HBX5 HS HS' hb5
                      go_wp2_with (go_at_call 108; refine (CU.out _).mono ?_; rintro e w' ⟨rfl, rfl⟩)
                      go_roundw
                      case rel => exact ⟨3, ta, tn, tc', r', xs ++ [v], by omega, by first | rfl | go_num, rfl, HS6, HK6, HRB5, ⟨by rw [List.length_append, HXL.out]; rfl⟩, HP5, HO6, HB6, HBX6⟩
                      case measure => simp [intOf]
                    · have HB5 := Kp.mk (below_step HBW.out hb5)
                      have HP := Kp.mk (show ∀ ys, parseL l ≠ some (ys, []) from fun ys e => by
                        rw [HPG.out, hNE.out, contL_none HG.out] at e; cases e)
                      clear CG HG HO HS HPG
                      go_wp2
                      refine bodyPost_ret (v := .tuple #[.slice none 0 0, .bool false]) (by simp [results, Tryz.results71, go_sem]) rfl ?_
                      exact ⟨HB5.out, .inr ⟨none, 0, 0, rfl, HP⟩⟩
                · obtain rfl : j = 3 := by omega
                  have HX7 := Kp.mk (show xs.length = 3 * (k + 1) by rw [HXL.out]; omega)
                  have HP7 := Kp.mk (show parseL l = contL xs (numsL (3 * c - 3 * (k + 1)) r) from by rw [HPG.out, show 3 * (k + 1) = 3 * k + 3 by omega])
                  go_wp2
                  go_roundw
                  case rel => exact ⟨k + 1, ra, rn, rc, r, xs, by omega, by go_num, rfl, HS, HKB, HRB, HX7, HP7, HO, HBW⟩
                  case measure => simp [intOf]; omega
            · obtain rfl : k = c := by omega
              rw [Nat.sub_self, contL_end] at HPG
              have hrn := HS.out.len
              by_cases h0 : rn = 0
              · subst h0
                have hr : r = [] := List.length_eq_zero_iff.1 hrn
                rw [hr] at HPG
                have HOF := Kp.mk (show wr.ownsRow w.heap.size 78 3 (.slice oa k oc) k (ints (xs.map unfN)) from by
                  rw [← outC_end xs k HXL.out]
                  exact own_base HO.out (by have := HBE.out; have := HB3le; omega))
                clear HO HS hrn hr
                go_wp2
                refine bodyPost_ret (v := .tuple #[.slice oa k oc, .bool true]) (by simp [results, Tryz.results71, go_sem]) rfl ?_
                exact ⟨HBW.out, .inl ⟨oa, k, oc, xs, rfl, hc, HPG, HXL, HOF⟩⟩
              · have HP := Kp.mk (show ∀ ys, parseL l ≠ some (ys, []) from fun ys e => by
                  rw [HPG.out] at e
                  simp only [Option.some.injEq, Prod.mk.injEq] at e
                  rw [e.2] at hrn; exact h0 hrn.symm)
                have t0 : ((rn : Int) == 0) = false := by rw [beq_eq_false_iff_ne]; omega
                clear HO HS hrn HPG
                go_wp2
                refine bodyPost_ret (v := .tuple #[.slice oa k oc, .bool false]) (by simp [results, Tryz.results71, go_sem]) rfl ?_
                exact ⟨HBW.out, .inr ⟨oa, k, oc, rfl, HP⟩⟩
      · have tc : decide ((150 : Int) < c) = true := decide_eq_true (by omega)
        have HP := Kp.mk (HPC.out c r HG.out hc)
        go_wp2
        refine bodyPost_ret (v := .tuple #[.slice none 0 0, .bool false]) (by simp [results, Tryz.results71, go_sem]) rfl ?_
        exact ⟨HB2.out, .inr ⟨none, 0, 0, rfl, HP⟩⟩
    · have HB2 := Kp.mk (below_step HB1.out hb2)
      have HP := Kp.mk (HPN.out HG.out)
      go_wp2
      refine bodyPost_ret (v := .tuple #[.slice none 0 0, .bool false]) (by simp [results, Tryz.results71, go_sem]) rfl ?_
      exact ⟨HB2.out, .inr ⟨none, 0, 0, rfl, HP⟩⟩
  · rw [decide_eq_false hhd] at CE
    have HP := Kp.mk (HPH.out hhd)
    clear HPH HPN HPC HPG hhd
    go_wp2_with fail
    refine CE.out.mono ?_
    rintro e w1 ⟨rfl, hb1⟩
    have HB1 := Kp.mk (below_step HBC.out hb1)
    go_wp2
    refine bodyPost_ret (v := .tuple #[.slice none 0 0, .bool false]) (by simp [results, Tryz.results71, go_sem]) rfl ?_
    exact ⟨HB1.out, .inr ⟨none, 0, 0, rfl, HP⟩⟩

end Go.Proofs.YtedchegejalolaaGreatDoor

/- Package grid: points that may not be; package image: the walk of Load. -/
namespace Go.Proofs.YtedchegejalolaaGreatDoor
set_option linter.unusedVariables false
open Go.RowKit

theorem nearG_any (x : Int) (w : World) :
    Calls Tryz.prog 78 #[.int .i64 x] w fun e w' => e = .returned (.bool (decide (-1048576 ≤ x ∧ x ≤ 1048576))) ∧ w = w' := by
  by_cases h1 : -1048576 ≤ x
  · by_cases h2 : x ≤ 1048576
    · rw [decide_eq_true (And.intro h1 h2)]; exact near_any x w h1 h2
    · rw [decide_eq_false (fun h => h2 h.2)]
      have h1' : decide (-1048576 ≤ x) = true := decide_eq_true h1
      have h2' : decide (x ≤ 1048576) = false := decide_eq_false h2
      go_enter Tryz.func78, Tryz.ntmps78
      go_wp2
      go_ret
      exact ⟨rfl, rfl⟩
  · rw [decide_eq_false (fun h => h1 h.1)]
    have h1' : decide (-1048576 ≤ x) = false := decide_eq_false h1
    go_enter Tryz.func78, Tryz.ntmps78
    go_wp2
    go_ret
    exact ⟨rfl, rfl⟩

theorem oddBad_any (p : Pt) (w : World) (h : ¬ p.Near) :
    Calls Tryz.prog 77 #[.agg #[.int .i64 p.x, .int .i64 p.y, .int .i64 p.w]] w fun e w' => e = .returned (.bool true) ∧ w.alloc (.cells #[.int .i64 p.x, .int .i64 p.y, .int .i64 p.w] 78) = w' := by
  obtain ⟨x, y, z⟩ := p
  unfold Pt.Near at h
  dsimp only at h ⊢
  have C1 := Kp.mk (fun W => nearG_any x W)
  have C2 := Kp.mk (fun W => nearG_any y W)
  have C3 := Kp.mk (fun W => nearG_any z W)
  by_cases h1 : -1048576 ≤ x ∧ x ≤ 1048576
  · rw [decide_eq_true h1] at C1
    by_cases h2 : -1048576 ≤ y ∧ y ≤ 1048576
    · rw [decide_eq_true h2] at C2
      rw [decide_eq_false (fun h3 => h ⟨h1, h2, h3⟩)] at C3
      clear h h1 h2
      go_enter Tryz.func77, Tryz.ntmps77
      go_wp2_with (go_at_call 78; (first | (with_reducible refine (C1.out _).mono ?_) | (with_reducible refine (C2.out _).mono ?_) | (with_reducible refine (C3.out _).mono ?_)); rintro e w' ⟨rfl, rfl⟩)
      go_ret
      exact ⟨rfl, rfl⟩
    · rw [decide_eq_false h2] at C2
      clear h h1 h2
      go_enter Tryz.func77, Tryz.ntmps77
      go_wp2_with (go_at_call 78; (first | (with_reducible refine (C1.out _).mono ?_) | (with_reducible refine (C2.out _).mono ?_) | (with_reducible refine (C3.out _).mono ?_)); rintro e w' ⟨rfl, rfl⟩)
      go_ret
      exact ⟨rfl, rfl⟩
  · rw [decide_eq_false h1] at C1
    clear h h1
    go_enter Tryz.func77, Tryz.ntmps77
    go_wp2_with (go_at_call 78; (first | (with_reducible refine (C1.out _).mono ?_) | (with_reducible refine (C2.out _).mono ?_) | (with_reducible refine (C3.out _).mono ?_)); rintro e w' ⟨rfl, rfl⟩)
    go_ret
    exact ⟨rfl, rfl⟩

theorem first_far (L : List Pt) (h : ¬ ∀ p ∈ L, p.Near) : ∃ j, j < L.length ∧ (∀ i, i < j → (L.getD i pt0).Near) ∧ ¬ (L.getD j pt0).Near := by
  induction L with
  | nil => exact absurd (by simp) h
  | cons x L ih =>
    by_cases hx : x.Near
    · obtain ⟨j, h1, h2, h3⟩ := ih (fun h' => h (fun p hp => by
        rcases List.mem_cons.1 hp with rfl | hp
        · exact hx
        · exact h' p hp))
      refine ⟨j + 1, by simp; omega, fun i hi => ?_, by simpa using h3⟩
      cases i with
      | zero => simpa using hx
      | succ i => simpa using h2 i (by omega)
    · exact ⟨0, by simp, fun i hi => by omega, by simpa using hx⟩

set_option maxHeartbeats 2000000 in
theorem someOdd_any (a : Option Addr) (cap n j : Nat) (L : List Pt) (w : World) (h : SlF ptL 3 w a n cap L) (hn : n ≤ 1000000) (hj : j < n) (h1 : ∀ i, i < j → (L.getD i pt0).Near) (h2 : ¬ (L.getD j pt0).Near) :
    Calls Tryz.prog 110 #[.slice a n cap, .func (.func 77) #[] #[]] w fun e w' => e = .returned (.int .i64 j) ∧ Kp (Below w.heap.size w w') := by
  have HLn := Kp.mk (h.len ptL_len (by omega))
  have H := Kp.mk h
  have HN := Kp.mk h1
  have HJ := Kp.mk h2
  have eg : ∀ args w, (callFunc 77 args).run Tryz.prog w = .ok (.enter 77 args) w := enters_of Tryz.func77 (by kernel_rfl) rfl
  clear h h1 h2
  go_enter Tryz.func110, Tryz.ntmps110
  go_wp2
  go_loopw [8] (fun i wr => ∃ k : Nat, k ≤ j ∧ i = .int .i64 k ∧ Kp (Below w.heap.size w wr)) (fun i _ => n - (intOf i).toNat)
  case atStart => exact ⟨0, Nat.zero_le _, rfl, ⟨Below.refl _ _⟩⟩
  case round =>
    obtain ⟨k, hk, rfl, HB⟩ := hrel
    have hlt : k < n := by omega
    obtain ⟨b, off, rfl, hbw, co⟩ := (H.out.below HB.out).at ptL_len (by omega) k (by rw [HLn.out]; exact hlt)
    rw [← getD_at L pt0 (by rw [HLn.out]; exact hlt)] at co
    by_cases hkj : k < j
    · have hm := HN.out k hkj
      generalize L.getD k pt0 = p at *
      have C := Kp.mk (odd_any p wr hm)
      have o0 : wr.cell? ⟨b, off + k * 3, none⟩ = some (.int .i64 p.x) := co 0 (by omega)
      have o1 : wr.cell? ⟨b, off + k * 3 + 1, none⟩ = some (.int .i64 p.y) := co 1 (by omega)
      have o2 : wr.cell? ⟨b, off + k * 3 + 2, none⟩ = some (.int .i64 p.w) := co 2 (by omega)
      clear co hm
      go_wp2_with (go_at_fn 77; refine C.out.mono ?_; rintro e w' ⟨rfl, rfl⟩)
      have HB2 := Kp.mk (HB.out.alloc (by exact HB.out.size) (.cells #[.int .i64 p.x, .int .i64 p.y, .int .i64 p.w] 78))
      go_roundw
      case rel => exact ⟨k + 1, by omega, by go_num, HB2⟩
      case measure => simp [intOf]; omega
    · obtain rfl : k = j := by omega
      have hm := HJ.out
      generalize L.getD k pt0 = p at *
      have C := Kp.mk (oddBad_any p wr hm)
      have o0 : wr.cell? ⟨b, off + k * 3, none⟩ = some (.int .i64 p.x) := co 0 (by omega)
      have o1 : wr.cell? ⟨b, off + k * 3 + 1, none⟩ = some (.int .i64 p.y) := co 1 (by omega)
      have o2 : wr.cell? ⟨b, off + k * 3 + 2, none⟩ = some (.int .i64 p.w) := co 2 (by omega)
      clear co hm
      go_wp2_with (go_at_fn 77; refine C.out.mono ?_; rintro e w' ⟨rfl, rfl⟩)
      have HB2 := Kp.mk (HB.out.alloc (by exact HB.out.size) (.cells #[.int .i64 p.x, .int .i64 p.y, .int .i64 p.w] 78))
      go_ret
      exact ⟨rfl, HB2⟩

theorem gcheckBad_any (a : Option Addr) (cap n : Nat) (L : List Pt) (w : World) (h : SlF ptL 3 w a n cap L) (hn : n ≤ 150) (hl : L.length = n) (hN : ¬ ∀ p ∈ L, p.Near) :
    Calls Tryz.prog 51 #[.slice a n cap] w fun e w' => e = .returned (.int .i64 2) ∧ Kp (Below w.heap.size w w') := by
  obtain ⟨j, hj, h1, h2⟩ := first_far L hN
  have CI := Kp.mk (someOdd_any a cap n j L w h (by omega) (by omega) h1 h2)
  have CC := Kp.mk (show Calls Tryz.prog 76 #[.slice a n cap, .func (.func 77) #[] #[]] w (fun e w' => e = .returned (.bool true) ∧ Kp (Below w.heap.size w w')) from by
    have hj0 : (0 : Int) ≤ j := by omega
    clear h hN h1 h2 hl
    go_enter Tryz.func76, Tryz.ntmps76
    go_wp2_with fail
    refine CI.out.mono ?_
    rintro e w1 ⟨rfl, HB⟩
    go_wp2
    go_ret
    exact ⟨rfl, HB⟩)
  have hn' : ¬ (150 < (n : Int)) := by omega
  clear h hN h1 h2 hl CI
  go_enter Tryz.func51, Tryz.ntmps51
  go_wp2_with fail
  refine CC.out.mono ?_
  rintro e w1 ⟨rfl, HB⟩
  go_wp2
  go_ret
  exact ⟨rfl, HB⟩

/-- Points out of numbers. -/
def ptsX : List Nat → List Pt
  | x :: y :: z :: r => ⟨unfN x, unfN y, unfN z⟩ :: ptsX r
  | _ => []
theorem ptsX_cells : ∀ (c : Nat) (xs : List Nat), xs.length = 3 * c → ints (xs.map unfN) = flat ptL (ptsX xs) ∧ (ptsX xs).length = c := by
  intro c
  induction c with
  | zero => intro xs h; obtain rfl : xs = [] := List.length_eq_zero_iff.1 (by omega); exact ⟨rfl, rfl⟩
  | succ c ih =>
    intro xs h
    match xs, h with
    | x :: y :: z :: r, h =>
      obtain ⟨h1, h2⟩ := ih r (by simp at h; omega)
      refine ⟨?_, by simp [ptsX, h2]⟩
      have e : flat ptL (ptsX (x :: y :: z :: r)) = ptL ⟨unfN x, unfN y, unfN z⟩ ++ flat ptL (ptsX r) := by simp [ptsX, flat]
      rw [e, ← h1]
      simp [ints, ptL]
    | [x, y], h => simp at h; omega
    | [x], h => simp at h; omega
    | [], h => simp at h
/-- The number that the last bytes tell. -/
def sumB (t : List Nat) : Nat := t.foldl (fun s x => s * 256 + x) 0
theorem sumB_snoc (t : List Nat) (x : Nat) : sumB (t ++ [x]) = sumB t * 256 + x := by unfold sumB; rw [List.foldl_append]; rfl
/-- What Load comes to. -/
def LoadSays (B : Nat) (w' : World) (l : List Nat) (m : Nat) (ra : Option Addr) (c rc : Nat) (code : Int) : Prop :=
  (c = 0 ∧ code = 6 ∧ crc (l.take m) ≠ sumB (l.drop m)) ∨ (c = 0 ∧ code = 4 ∧ crc (l.take m) = sumB (l.drop m) ∧ ∀ xs, parseL (l.take m) = some (xs, []) → ¬ ∀ p ∈ ptsX xs, p.Near) ∨
  (code = 0 ∧ c ≤ 150 ∧ crc (l.take m) = sumB (l.drop m) ∧ ∃ xs, parseL (l.take m) = some (xs, []) ∧ xs.length = 3 * c ∧ (∀ p ∈ ptsX xs, p.Near) ∧ w'.ownsRow B 78 3 (.slice ra c rc) c (flat ptL (ptsX xs)))

theorem loadShort_any (a : Option Addr) (n cap : Nat) (w : World) (hn : n < 9) :
    Calls Tryz.prog 46 #[.slice a n cap] w fun e w' => e = .returned (.tuple #[.slice none 0 0, .int .i64 5]) ∧ w = w' := by
  have t : decide ((n : Int) < 9) = true := decide_eq_true (by omega)
  go_enter Tryz.func46, Tryz.ntmps46
  go_wp2
  refine bodyPost_ret (v := .tuple #[.slice none 0 0, .int .i64 5]) (by simp [results, Tryz.results46, go_sem]) rfl ?_
  exact ⟨rfl, rfl⟩

set_option maxRecDepth 100000 in
set_option maxHeartbeats 8000000 in
theorem load_any (a : Option Addr) (m cap : Nat) (l : List Nat) (w : World) (h : SlB w a (m + 4) cap l) (hb : ∀ x ∈ l, x < 256) (h5 : 5 ≤ m) (hm : m ≤ 9223372036854775000) :
    Calls Tryz.prog 46 #[.slice a (m + 4) cap] w fun e w' => ∃ (ra : Option Addr) (c rc : Nat) (code : Int), e = .returned (.tuple #[.slice ra c rc, .int .i64 code]) ∧ Kp (LoadSays w.heap.size w' l m ra c rc code) ∧ Kp (Below w.heap.size w w') := by
  obtain ⟨b, off, rfl, _⟩ := byte_cell h 0 (by omega)
  have hcap : m + 4 ≤ cap := SlC.le h
  have H := Kp.mk h
  have HB := Kp.mk hb
  have HBODY := Kp.mk (show SlB w (some ⟨b, off, none⟩) m cap (l.take m) from by
    have := SlC.front h (show m ≤ m + 4 by omega)
    rw [Nat.mul_one, byts_take] at this; exact this)
  have HTAIL := Kp.mk (show SlB w (some ⟨b, off + m, none⟩) 4 (cap - m) (l.drop m) from by
    have := SlB.drop h (show m ≤ m + 4 by omega)
    rwa [show m + 4 - m = 4 by omega] at this)
  have HB1 := Kp.mk (show ∀ x ∈ l.take m, x < 256 from fun x hx => hb x (List.mem_of_mem_take hx))
  have HB2 := Kp.mk (show ∀ x ∈ l.drop m, x < 256 from fun x hx => hb x (List.mem_of_mem_drop hx))
  have CS := Kp.mk (fun W (hw : Below w.heap.size w W) => sum_any _ m cap (l.take m) W (SlB.below HBODY.out hw) HBODY.out.len (by omega) HB1.out)
  have CP := Kp.mk (fun W (hw : Below w.heap.size w W) => imgPoints_any _ m cap (l.take m) W (SlB.below HBODY.out hw) HB1.out h5)
  have hcrc := crc_lt (l.take m)
  unfold LoadSays
  generalize l.take m = l1 at *
  generalize l.drop m = l2 at *
  have t9 : decide ((m : Int) + 4 < 9) = false := decide_eq_false (by omega)
  have e0 : IntKind.i64.wrap ((m : Int) + 4 - 4) = m := by rw [show (m : Int) + 4 - 4 = m by omega]; exact IntWalk.i64_in _ (by omega)
  have e1 : IntKind.i64.wrap (m : Int) = m := IntWalk.i64_in _ (by omega)
  clear h hb
  obtain ⟨wo, rfl⟩ : ∃ wo : World, wo = w := ⟨_, rfl⟩
  go_enter Tryz.func46, Tryz.ntmps46
  go_wp2
  go_loopw [5, 23] (fun s i wr => ∃ (k v : Nat), k ≤ 4 ∧ i = .int .i64 k ∧ s = .int .i64 v ∧ Kp (v = sumB (l2.take k)) ∧ v < 256 ^ k ∧ Kp (Below wo.heap.size wo wr)) (fun _ i _ => 4 - (intOf i).toNat)
  case atStart => exact ⟨0, 0, by omega, rfl, rfl, ⟨rfl⟩, by simp, ⟨Below.refl _ _⟩⟩
  case round =>
    obtain ⟨k, v, hk, rfl, rfl, HV, hv, HBW⟩ := hrel
    have hl2 := HTAIL.out.len
    by_cases hlt : k < 4
    · obtain ⟨_, _, ee, cx⟩ := byte_cell (SlB.below HTAIL.out HBW.out) k hlt
      simp only [Option.some.injEq, Addr.mk.injEq, and_true] at ee
      obtain ⟨rfl, rfl⟩ := ee
      have hx := HB2.out (l2.getD k 0) (by rw [getD_at _ _ (by omega)]; exact List.getElem_mem _)
      have HV2 := Kp.mk (show v * 256 + l2.getD k 0 = sumB (l2.take (k + 1)) from by
        rw [List.take_succ_eq_append_getElem (by omega), sumB_snoc, ← HV.out, getD_at _ _ (by omega)])
      generalize l2.getD k 0 = x at *
      have hvb : v < 16777216 := by
        rcases (show k = 0 ∨ k = 1 ∨ k = 2 ∨ k = 3 by omega) with rfl | rfl | rfl | rfl <;> omega
      have hv2 : v * 256 + x < 256 ^ (k + 1) := by rw [Nat.pow_succ]; omega
      have e2 : IntKind.i64.wrap ((v : Int) * 256) = ((v * 256 : Nat) : Int) := by
        rw [show (v : Int) * 256 = ((v * 256 : Nat) : Int) by omega]; exact IntWalk.i64_in _ (by omega)
      have e3 : bits BinOp.or IntKind.i64 ((v : Int) * 256) (x : Int) = ((v * 256 + x : Nat) : Int) := by
        have h1 := i64_or_nat (v * 256) x (by omega) (by omega)
        rw [show v * 256 = 2 ^ 8 * v by omega, ← Nat.two_pow_add_eq_or_of_lt hx v] at h1
        rw [show (v : Int) * 256 = ((2 ^ 8 * v : Nat) : Int) by omega, h1]; omega
      generalize v * 256 + x = u at *
      go_wp2
      go_roundw
      case rel => exact ⟨k + 1, u, by omega, by go_num, rfl, HV2, hv2, HBW⟩
      case measure => simp [intOf]; omega
    · obtain rfl : k = 4 := by omega
      rw [List.take_of_length_le (by omega)] at HV
      have CS2 := Kp.mk (CS.out wr HBW.out)
      have CP2 := Kp.mk (CP.out wr HBW.out)
      clear CS CP HTAIL
      obtain ⟨cr, hcr⟩ : ∃ cr, cr = crc l1 := ⟨_, rfl⟩
      rw [← hcr] at CS2 hcrc
      have HCR := Kp.mk hcr
      clear hcr
      by_cases hne : cr = v
      · have tq : ((cr : Int) != (v : Int)) = false := by simp [hne]
        have HEQ := Kp.mk (show crc l1 = sumB l2 from by rw [← HCR.out, hne]; exact HV.out)
        clear hne
        go_wp2_with fail
        refine CS2.out.mono ?_
        rintro e w1 ⟨rfl, rfl⟩
        clear CS2
        go_wp2_with fail
        refine CP2.out.mono ?_
        rintro e w2 ⟨hb2, ⟨ra, c, rc, xs, rfl, hc, HP, HXL, HO⟩ | ⟨ra, rn, rc, rfl, HP⟩⟩
        · have HBW2 := Kp.mk (HBW.out.trans (hb2.mono HBW.out.size))
          obtain ⟨hfl, hpl⟩ := ptsX_cells c xs HXL.out
          rw [hfl] at HO
          have HSP := Kp.mk (show SlF ptL 3 w2 ra c rc (ptsX xs) from own_slc HO.out)
          by_cases hN : ∀ p ∈ ptsX xs, p.Near
          · have CG := Kp.mk (gcheck_any ra rc c _ w2 HSP.out hc hN)
            have HNN := Kp.mk hN
            clear CP2 hb2 hfl hpl hN
            go_wp2_with fail
            refine CG.out.mono ?_
            rintro e w3 ⟨rfl, HB3⟩
            have HBF := Kp.mk (HBW2.out.trans (HB3.out.mono HBW2.out.size))
            have HOF := Kp.mk (own_base (own_below HO.out HB3.out) HBW.out.size)
            clear CG
            go_wp2
            refine bodyPost_ret (v := .tuple #[.slice ra c rc, .int .i64 0]) (by simp [results, Tryz.results46, go_sem]) rfl ?_
            exact ⟨ra, c, rc, 0, rfl, ⟨.inr (.inr ⟨rfl, hc, HEQ.out, xs, HP.out, HXL.out, HNN.out, HOF.out⟩)⟩, HBF⟩
          · have CG := Kp.mk (gcheckBad_any ra rc c _ w2 HSP.out hc hpl hN)
            have HNN := Kp.mk hN
            clear CP2 hb2 hfl hpl hN
            go_wp2_with fail
            refine CG.out.mono ?_
            rintro e w3 ⟨rfl, HB3⟩
            have HBF := Kp.mk (HBW2.out.trans (HB3.out.mono HBW2.out.size))
            clear CG
            go_wp2
            refine bodyPost_ret (v := .tuple #[.slice none 0 0, .int .i64 4]) (by simp [results, Tryz.results46, go_sem]) rfl ?_
            refine ⟨none, 0, 0, 4, rfl, ⟨.inr (.inl ⟨rfl, rfl, HEQ.out, fun ys hy => ?_⟩)⟩, HBF⟩
            rw [HP.out] at hy
            simp only [Option.some.injEq, Prod.mk.injEq, and_true] at hy
            rw [← hy]; exact HNN.out
        · have HBW2 := Kp.mk (HBW.out.trans (hb2.mono HBW.out.size))
          clear CP2 hb2
          go_wp2
          refine bodyPost_ret (v := .tuple #[.slice none 0 0, .int .i64 4]) (by simp [results, Tryz.results46, go_sem]) rfl ?_
          exact ⟨none, 0, 0, 4, rfl, ⟨.inr (.inl ⟨rfl, rfl, HEQ.out, fun ys hy => absurd hy (HP.out ys)⟩)⟩, HBW2⟩
      · have tq : ((cr : Int) != (v : Int)) = true := by simp; omega
        have HNE := Kp.mk (show crc l1 ≠ sumB l2 from by rw [← HCR.out, ← HV.out]; exact hne)
        clear hne CP2
        go_wp2_with fail
        refine CS2.out.mono ?_
        rintro e w1 ⟨rfl, rfl⟩
        go_wp2
        refine bodyPost_ret (v := .tuple #[.slice none 0 0, .int .i64 6]) (by simp [results, Tryz.results46, go_sem]) rfl ?_
        exact ⟨none, 0, 0, 6, rfl, ⟨.inl ⟨rfl, rfl, HNE.out⟩⟩, HBW⟩

end Go.Proofs.YtedchegejalolaaGreatDoor

/- The cells of points, and of places. -/
namespace Go.Proofs.YtedchegejalolaaGreatDoor
set_option linter.unusedVariables false
open Go.RowKit

theorem pt_cells {w : World} {a : Option Addr} {n cap : Nat} {L : List Pt} (h : SlF ptL 3 w a n cap L) (i : Nat) (hi : i < n) :
    ∃ b off, a = some ⟨b, off, none⟩ ∧ w.cell? ⟨b, off + i * 3, none⟩ = some (.int .i64 (L.getD i pt0).x) ∧ w.cell? ⟨b, off + i * 3 + 1, none⟩ = some (.int .i64 (L.getD i pt0).y) ∧ w.cell? ⟨b, off + i * 3 + 2, none⟩ = some (.int .i64 (L.getD i pt0).w) := by
  have hl := h.len ptL_len (by omega)
  obtain ⟨b, off, ha, hb, hc⟩ := h.at ptL_len (by omega) i (by omega)
  rw [← getD_at L pt0 (by omega)] at hc
  exact ⟨b, off, ha, hc 0 (by omega), hc 1 (by omega), hc 2 (by omega)⟩
theorem nat_cell {w : World} {a : Option Addr} {n cap : Nat} {R : List Nat} (h : SlI w a cap (R.map Int.ofNat)) (hl : R.length = n) (i : Nat) (hi : i < n) :
    ∃ b off, a = some ⟨b, off, none⟩ ∧ w.cell? ⟨b, off + i, none⟩ = some (.int .i64 ((R.getD i 0 : Nat) : Int)) := by
  obtain ⟨b, off, ha, hc⟩ := h.at i (by rw [List.length_map]; omega)
  refine ⟨b, off, ha, ?_⟩
  rw [hc, getD_at _ _ (by omega), List.getElem_map]; rfl

end Go.Proofs.YtedchegejalolaaGreatDoor

/- Package image: the walk of Save. -/
namespace Go.Proofs.YtedchegejalolaaGreatDoor
set_option linter.unusedVariables false
open Go.RowKit

/-- The numbers of points. -/
def numsP (L : List Pt) : List Nat := L.flatMap fun p => [foldN p.x, foldN p.y, foldN p.w]
theorem numsP_length (L : List Pt) : (numsP L).length = 3 * L.length := by
  induction L with
  | nil => rfl
  | cons p L ih => simp [numsP] at *; omega
theorem encN_append (a b : List Nat) : encN (a ++ b) = encN a ++ encN b := by simp [encN]
theorem numsP_snoc (L : List Pt) (p : Pt) : encN (numsP (L ++ [p])) = encN (numsP L) ++ putL (foldN p.x) ++ putL (foldN p.y) ++ putL (foldN p.w) := by
  have e : numsP (L ++ [p]) = numsP L ++ [foldN p.x, foldN p.y, foldN p.w] := by simp [numsP]
  rw [e, encN_append]
  simp [encN]
theorem foldN_lt (x : Int) (h1 : -1048576 ≤ x) (h2 : x ≤ 1048576) : foldN x < 268435456 := by unfold foldN; split <;> omega
theorem encN_lt (l : List Nat) : ∀ x ∈ encN l, x < 256 := by
  intro x hx
  obtain ⟨n, _, h⟩ := List.mem_flatMap.1 hx
  exact putL_lt n x h
theorem encI_lt (l : List Nat) : ∀ x ∈ encI l, x < 256 := by
  intro x hx
  unfold encI at hx
  rcases List.mem_append.1 hx with h | h
  · simp [headL] at h; omega
  · rcases List.mem_append.1 h with h | h
    · exact putL_lt _ x h
    · exact encN_lt l x h
/-- The sum's four bytes. -/
def be4 (n : Nat) : List Nat := [n / 16777216, n / 65536 % 256, n / 256 % 256, n % 256]
theorem be4_sum (n : Nat) (h : n < 4294967296) : sumB (be4 n) = n := by unfold sumB be4; simp; omega
theorem be4_lt (n : Nat) (h : n < 4294967296) : ∀ x ∈ be4 n, x < 256 := by unfold be4; intro x hx; simp at hx; omega
/-- The bytes of points. -/
def saveL (L : List Pt) : List Nat := encI (numsP L) ++ be4 (crc (encI (numsP L)))
theorem encI_nums (L : List Pt) : encI (numsP L) = headL ++ (putL L.length ++ encN (numsP L)) := by
  unfold encI
  rw [numsP_length, show 3 * L.length / 3 = L.length by omega]
theorem saveL_lt (L : List Pt) : ∀ x ∈ saveL L, x < 256 := by
  intro x hx
  rcases List.mem_append.1 hx with h | h
  · exact encI_lt _ x h
  · exact be4_lt _ (crc_lt _) x h
attribute [irreducible] be4

set_option maxRecDepth 100000 in
set_option maxHeartbeats 8000000 in
theorem save_any (a : Option Addr) (n cap : Nat) (L : List Pt) (w : World) (h : SlF ptL 3 w a n cap L) (hn : n ≤ 150) (hl : L.length = n) (hN : ∀ p ∈ L, p.Near) :
    Calls Tryz.prog 38 #[.slice a n cap] w fun e w' => ∃ (ra : Option Addr) (r rc : Nat), e = .returned (.tuple #[.slice ra r rc, .int .i64 0]) ∧ r ≤ 3000 ∧ Kp (w'.ownsRow w.heap.size 5 1 (.slice ra r rc) r (byts (saveL L))) ∧ Kp (Below w.heap.size w w') := by
  have CG := Kp.mk (gcheck_any a cap n L w h hn hN)
  have H := Kp.mk h
  have HL := Kp.mk hl
  have HN := Kp.mk (show ∀ i, i < n → (L.getD i pt0).Near from fun i hi => by rw [getD_at _ _ (by omega)]; exact hN _ (List.getElem_mem _))
  clear h hl hN
  go_enter Tryz.func38, Tryz.ntmps38
  go_wp2_with fail
  refine CG.out.mono ?_
  rintro e w1 ⟨rfl, HB1⟩
  obtain ⟨B, hB⟩ : ∃ B, B = w.heap.size := ⟨_, rfl⟩
  have HBE := Kp.mk hB
  clear hB CG
  have kc : (convert 46 46 (.slice (some ⟨w1.heap.size, 0, none⟩) 4 4)).run Tryz.prog (w1.alloc (.cells #[.int .u8 68, .int .u8 65, .int .u8 77, .int .u8 49] 5)) = .ok (.slice (some ⟨w1.heap.size, 0, none⟩) 4 4) (w1.alloc (.cells #[.int .u8 68, .int .u8 65, .int .u8 77, .int .u8 49] 5 (4, 5))) :=
    Lib.run_convert_bytes_const (P := Tryz.prog) w1 46 5 #[.int .u8 68, .int .u8 65, .int .u8 77, .int .u8 49] 4 4 Tryz.underlying46 Tryz.underlying5
  have hbC : Below w1.heap.size w1 (w1.alloc (.cells #[.int .u8 68, .int .u8 65, .int .u8 77, .int .u8 49] 5 (4, 5))) := below_alloc (Nat.le_refl _) _
  have s0 : SlB (w1.alloc (.cells #[.int .u8 68, .int .u8 65, .int .u8 77, .int .u8 49] 5 (4, 5))) (some ⟨w1.heap.size, 0, none⟩) 4 4 headL := by
    refine ⟨rfl, Nat.le_refl _, by decide, (fun h => by cases h), fun i hi => ⟨w1.heap.size, 0, rfl, ?_⟩⟩
    rw [Nat.zero_add, World.cell?_alloc_mark]
    have hi9 : i < 4 := hi
    match i, hi9 with
    | 0, _ => rfl | 1, _ => rfl | 2, _ => rfl | 3, _ => rfl
  have HBC := Kp.mk (below_step HB1.out hbC)
  have hBle : B ≤ (w1.alloc (.cells #[.int .u8 68, .int .u8 65, .int .u8 77, .int .u8 49] 5 (4, 5))).heap.size := by rw [HBE.out]; exact HBC.out.size
  have CP := Kp.mk (put0_any B _ 4 headL n _ s0 (by omega) (by omega) hBle)
  clear s0 hbC hBle
  go_wp2_with fail
  refine CP.out.mono ?_
  rintro e w2 ⟨ra, r, rc, rfl, HRL, hr, HO, HB2⟩
  have HBW := Kp.mk (show Below B w w2 from by rw [HBE.out]; exact HBC.out.trans (by rw [← HBE.out]; exact HB2.out))
  clear CP kc HB1 HBC HB2
  obtain ⟨wo, rfl⟩ : ∃ wo : World, wo = w2 := ⟨_, rfl⟩
  go_wp2
  go_loopw [5, 21] (fun s i wr => ∃ (k : Nat) (ra : Option Addr) (r rc : Nat), k ≤ n ∧ i = .int .i64 k ∧ s = .slice ra r rc ∧ r ≤ 8 + 12 * k ∧ Kp ((headL ++ (putL n ++ encN (numsP (L.take k)))).length = r) ∧ Kp (wr.ownsRow B 5 1 (.slice ra r rc) r (byts (headL ++ (putL n ++ encN (numsP (L.take k)))))) ∧ Kp (Below B w wr)) (fun _ i _ => n - (intOf i).toNat)
  case atStart => exact ⟨0, ra, r, rc, Nat.zero_le _, rfl, rfl, by omega, by simpa [numsP, encN] using HRL, by simpa [numsP, encN] using HO, HBW⟩
  case round =>
    clear HRL HO HBW hr
    obtain ⟨k, ra, r, rc, hk, rfl, rfl, hr, HRL, HO, HBW⟩ := hrel
    have hbw : Below w.heap.size w wr := by rw [← HBE.out]; exact HBW.out
    by_cases hlt : k < n
    · obtain ⟨pb, po, rfl, x0, x1, x2⟩ := pt_cells (SlF.below H.out hbw) k hlt
      have HNP := HN.out k hlt
      have HSN := Kp.mk (show headL ++ (putL n ++ encN (numsP (L.take (k + 1)))) = headL ++ (putL n ++ encN (numsP (L.take k))) ++ putL (foldN (L.getD k pt0).x) ++ putL (foldN (L.getD k pt0).y) ++ putL (foldN (L.getD k pt0).w) from by
        rw [List.take_succ_eq_append_getElem (by rw [HL.out]; exact hlt), numsP_snoc, getD_at _ _ (by rw [HL.out]; exact hlt)]; simp only [List.append_assoc])
      generalize L.getD k pt0 = p at *
      generalize headL ++ (putL n ++ encN (numsP (L.take k))) = l at *
      unfold Pt.Near at HNP
      have F0 := Kp.mk (fun W => fold_any p.x W (by omega) (by omega))
      have F1 := Kp.mk (fun W => fold_any p.y W (by omega) (by omega))
      have F2 := Kp.mk (fun W => fold_any p.w W (by omega) (by omega))
      have g0 := foldN_lt p.x (by omega) (by omega)
      have g1 := foldN_lt p.y (by omega) (by omega)
      have g2 := foldN_lt p.w (by omega) (by omega)
      generalize foldN p.x = v0 at *
      generalize foldN p.y = v1 at *
      generalize foldN p.w = v2 at *
      have hbel : Below wr.heap.size wr (wr.alloc (.cells #[.int .i64 p.x, .int .i64 p.y, .int .i64 p.w] 78)) := below_alloc (Nat.le_refl _) _
      have HBX := Kp.mk (Box.new wr #[.int .i64 p.x, .int .i64 p.y, .int .i64 p.w] 78)
      have hbwa : B ≤ wr.heap.size := HBW.out.size |> fun h => by have := HBE.out; omega
      have HOA := Kp.mk (own_below HO.out hbel)
      have HBA := Kp.mk (HBW.out.trans (hbel.mono hbwa))
      have hkz : (k : Int) < n := by omega
      clear hbel hbw HNP
      have c0 := HBX.out.cell 0 rfl
      have c1 := HBX.out.cell 1 rfl
      have c2 := HBX.out.cell 2 rfl
      have hqlt : wr.heap.size < (wr.alloc (.cells #[.int .i64 p.x, .int .i64 p.y, .int .i64 p.w] 78)).heap.size := by rw [alloc_size]; omega
      generalize hWA : wr.alloc (.cells #[.int .i64 p.x, .int .i64 p.y, .int .i64 p.w] 78) = WA at *
      have d0 : WA.cell? ⟨wr.heap.size, 0, none⟩ = some (.int .i64 p.x) := c0
      have d1 : WA.cell? ⟨wr.heap.size, 1, none⟩ = some (.int .i64 p.y) := c1
      have d2 : WA.cell? ⟨wr.heap.size, 2, none⟩ = some (.int .i64 p.w) := c2
      have hBA : B ≤ WA.heap.size := by omega
      have HSK := Kp.mk (show ∀ W, Box W wr.heap.size #[.int .i64 p.x, .int .i64 p.y, .int .i64 p.w] 78 → W.cell? ⟨wr.heap.size, 0, none⟩ = some (.int .i64 p.x) ∧ W.cell? ⟨wr.heap.size, 1, none⟩ = some (.int .i64 p.y) ∧ W.cell? ⟨wr.heap.size, 2, none⟩ = some (.int .i64 p.w) from fun W hb => ⟨hb.cell 0 rfl, hb.cell 1 rfl, hb.cell 2 rfl⟩)
      have HOD := Kp.mk (show WA.drew.ownsRow B 5 1 (.slice ra r rc) r (byts l) from own_below HOA.out (drewN_below (B := WA.heap.size) (w := WA) 1))
      have hBD : B ≤ WA.drew.heap.size := hBA
      have HX0 := Kp.mk (show Box WA.drew wr.heap.size #[.int .i64 p.x, .int .i64 p.y, .int .i64 p.w] 78 from HBX.out)
      have C1 := Kp.mk (put_any B ra r rc l v0 WA.drew HOD.out (by omega) g0 hBD)
      have hS0 := HSK.out _ HX0.out
      clear c0 c1 c2
      go_wp2
      go_region_held3 (fun w' => w'.cell? ⟨wr.heap.size, 0, none⟩ = some (.int .i64 p.x) ∧ w'.cell? ⟨wr.heap.size, 1, none⟩ = some (.int .i64 p.y) ∧ w'.cell? ⟨wr.heap.size, 2, none⟩ = some (.int .i64 p.w))
        (first | exact hS0 | exact hS1 | exact hS2 | exact hS3 | go_keep)
        ((first
          | (go_at_call 60; (first | (with_reducible refine (F0.out _).mono ?_) | (with_reducible refine (F1.out _).mono ?_) | (with_reducible refine (F2.out _).mono ?_)); rintro e w' ⟨rfl, rfl⟩)
          | (go_at_call 59; (with_reducible refine C1.out.mono ?_); rintro e w3 ⟨ra1, r1, rc1, rfl, HL1, hr1, HO1, HG1, HI1, HB1⟩; have HX1 := box_grow HX0.out HG1.out (row_box HOD.out HX0.out (by decide)); have hS1 := HSK.out _ HX1)
          | (go_at_call 59; (with_reducible refine (put_any B ra1 r1 rc1 (l ++ putL v0) v1 _ HO1.out (by omega) g1 (Nat.le_trans hBD HB1.out.size)).mono ?_); rintro e w5 ⟨ra2, r2, rc2, rfl, HL2, hr2, HO2, HG2, HI2, HB2⟩; have HX2 := box_grow HX1 HG2.out (row_box HO1.out HX1 (by decide)); have hS2 := HSK.out _ HX2)
          | (go_at_call 59; (with_reducible refine (put_any B ra2 r2 rc2 (l ++ putL v0 ++ putL v1) v2 _ HO2.out (by omega) g2 (Nat.le_trans hBD (Nat.le_trans HB1.out.size HB2.out.size))).mono ?_); rintro e w6 ⟨ra3, r3, rc3, rfl, HL3, hr3, HO3, HG3, HI3, HB3⟩; have HX3 := box_grow HX2 HG3.out (row_box HO2.out HX2 (by decide)); have hS3 := HSK.out _ HX3)
          | fail))
      all_goals
        have HB6 := Kp.mk (show Below B w w6 from HBA.out.trans ((show Below B WA WA.drew from drewN_below (B := B) (w := WA) 1).trans (HB1.out.trans (HB2.out.trans HB3.out))))
        have HO6 := Kp.mk (show w6.ownsRow B 5 1 (.slice ra3 r3 rc3) r3 (byts (headL ++ (putL n ++ encN (numsP (L.take (k + 1)))))) from by rw [HSN.out]; exact HO3.out)
        have HL6 := Kp.mk (show (headL ++ (putL n ++ encN (numsP (L.take (k + 1))))).length = r3 from by rw [HSN.out]; exact HL3.out)
        clear HO1 HO2 HO3 HL1 HL2 HL3 HG1 HG2 HG3 HI1 HI2 HI3 HX1 HX2 HX3 hS1 hS2 hS3 C1 F0 F1 F2
        go_wp2
        go_roundw
        case rel => exact ⟨k + 1, ra3, r3, rc3, by omega, by go_num, rfl, by omega, HL6, HO6, HB6⟩
        case measure => simp [intOf]; omega
    · obtain rfl : k = n := by omega
      rw [List.take_of_length_le (by rw [HL.out]; exact Nat.le_refl _)] at HRL HO
      have e : headL ++ (putL k ++ encN (numsP L)) = encI (numsP L) := by rw [encI_nums, HL.out]
      rw [e] at HRL HO
      have HSA := Kp.mk (show saveL L = encI (numsP L) ++ be4 (crc (encI (numsP L))) from rfl)
      have hlt4 := crc_lt (encI (numsP L))
      have CS := Kp.mk (sum_any ra r rc _ wr (own_slb HO.out) HRL.out (by omega) (encI_lt _))
      have hB4 := Kp.mk (show be4 (crc (encI (numsP L))) = [crc (encI (numsP L)) / 16777216, crc (encI (numsP L)) / 65536 % 256, crc (encI (numsP L)) / 256 % 256, crc (encI (numsP L)) % 256] from by unfold be4; rfl)
      generalize crc (encI (numsP L)) = c at *
      clear e
      go_wp2_with fail
      refine CS.out.mono ?_
      rintro e w3 ⟨rfl, rfl⟩
      clear CS
      have hsz : B ≤ wr.heap.size := by have h1 := HBW.out.size; rw [← HBE.out] at h1; exact h1
      have w1' : IntKind.i64.wrap (c : Int) = (c : Int) := IntWalk.i64_in _ (by omega)
      obtain ⟨x1, hx1⟩ : ∃ x1, x1 = c / 16777216 := ⟨_, rfl⟩
      obtain ⟨x2, hx2⟩ : ∃ x2, x2 = c / 65536 := ⟨_, rfl⟩
      obtain ⟨x3, hx3⟩ : ∃ x3, x3 = c / 256 := ⟨_, rfl⟩
      obtain ⟨y2, hy2⟩ : ∃ y2, y2 = x2 % 256 := ⟨_, rfl⟩
      obtain ⟨y3, hy3⟩ : ∃ y3, y3 = x3 % 256 := ⟨_, rfl⟩
      obtain ⟨y4, hy4⟩ : ∃ y4, y4 = c % 256 := ⟨_, rfl⟩
      have s1 : (c : Int) / 16777216 = (x1 : Int) := by omega
      have s2 : (c : Int) / 65536 = (x2 : Int) := by omega
      have s3 : (c : Int) / 256 = (x3 : Int) := by omega
      have b1 : IntKind.u8.wrap (x1 : Int) = (x1 : Int) := u8w _ (by omega)
      have b2 : IntKind.u8.wrap (x2 : Int) = (y2 : Int) := by rw [IntKind.wrap_u8']; omega
      have b3 : IntKind.u8.wrap (x3 : Int) = (y3 : Int) := by rw [IntKind.wrap_u8']; omega
      have b4 : IntKind.u8.wrap (c : Int) = (y4 : Int) := by rw [IntKind.wrap_u8']; omega
      rw [← hx1, ← hx2, ← hx3, ← hy2, ← hy3, ← hy4] at hB4
      clear hx1 hx2 hx3 hy2 hy3 hy4
      go_wp2_with (at_builtin; refine wpList_push tBytes rfl _ _ rfl B ra r rc _ rfl HO.out 4 4 _ rfl rfl ?d1 (by decide) ?d2 (by decide) hsz ?d4)
      case d1 => simp [Value.oneCell']
      case d2 => omega
      case d4 =>
        intro ya yc w4 ho4 hb4
        have HO4 := Kp.mk (show w4.ownsRow w.heap.size 5 1 (.slice ya (r + 4) yc) (r + 4) (byts (saveL L)) from by
          rw [HSA.out, hB4.out, byts_append, ← HBE.out]; exact ho4)
        have HB4 := Kp.mk (show Below w.heap.size w w4 from by rw [← HBE.out]; exact HBW.out.trans hb4)
        clear ho4 hb4
        go_wp2
        refine bodyPost_ret (v := .tuple #[.slice ya (r + 4) yc, .int .i64 0]) (by simp [results, Tryz.results38, go_sem]) rfl ?_
        exact ⟨ya, r + 4, yc, rfl, by omega, HO4, HB4⟩

end Go.Proofs.YtedchegejalolaaGreatDoor

