/- Package image: the walk of points. -/
import Derived.Test.YtmfmknpkeniifaaImgB
import Derived.Test.YtmfmknpkeniifaaPts
import Derived.Test.YtmfmknpkeniifaaTwo
import Derived.Lib.SlBytesConst
namespace Go.Proofs.Ytmfmknpkeniifaa
set_option linter.unusedVariables false
open Go.RowKit

set_option maxHeartbeats 2000000 in
theorem eqb_any (a b : Option Addr) (n c c' : Nat) (l l' : List Nat) (w : World) (h : SlB w a n c l) (h' : SlB w b n c' l') (hn : n ≤ 1000000) :
    Calls Try.prog 81 #[.slice a n c, .slice b n c'] w fun e w' => e = .returned (.bool (decide (l = l'))) ∧ Below w.heap.size w w' := by
  have H := Kp.mk h
  have H' := Kp.mk h'
  have HL := Kp.mk h.len
  have HL' := Kp.mk h'.len
  obtain ⟨r, hr⟩ : ∃ r, r = decide (l = l') := ⟨_, rfl⟩
  rw [← hr]
  have HR := Kp.mk hr
  clear h h' hr
  obtain ⟨wo, rfl⟩ : ∃ wo : World, wo = w := ⟨_, rfl⟩
  go_enter Try.func81, Try.ntmps81
  go_wp2
  go_loopw [13] (fun i wr => ∃ k : Nat, k ≤ n ∧ i = .int .i64 k ∧ Kp (l.take k = l'.take k) ∧ Kp (Below wo.heap.size wo wr)) (fun i _ => n - (intOf i).toNat)
  case atStart => exact ⟨0, Nat.zero_le _, rfl, ⟨by simp⟩, ⟨Below.refl _ _⟩⟩
  case round =>
    obtain ⟨k, hk, rfl, HT, HB⟩ := hrel
    by_cases hlt : k < n
    · obtain ⟨b1, o1, rfl, c1⟩ := byte_cell (SlB.below H.out HB.out) k hlt
      obtain ⟨b2, o2, rfl, c2⟩ := byte_cell (SlB.below H'.out HB.out) k hlt
      have HE := Kp.mk (show l.getD k 0 = l'.getD k 0 → l.take (k + 1) = l'.take (k + 1) from fun e => by
        rw [List.take_succ_eq_append_getElem (by rw [HL.out]; exact hlt), List.take_succ_eq_append_getElem (by rw [HL'.out]; exact hlt), HT.out, ← getD_at l 0 (by rw [HL.out]; exact hlt), ← getD_at l' 0 (by rw [HL'.out]; exact hlt), e])
      have HNE := Kp.mk (show l.getD k 0 ≠ l'.getD k 0 → r = false from fun e => by rw [HR.out]; exact decide_eq_false (fun e' => e (by rw [e'])))
      generalize l.getD k 0 = x at *
      generalize l'.getD k 0 = y at *
      have l1 := later_cell c1
      have l2 := later_cell c2
      by_cases hxy : x = y
      · have HE2 := Kp.mk (HE.out hxy)
        have tx : ((x : Int) != (y : Int)) = false := by simp [hxy]
        clear HE HNE hxy
        go_wp2
        refine region_later (by kernel_rfl) (by kernel_rfl) ?_
        iterate 9 (go_big_quiet_step (fail))
        refine wpQuiet_nil ?_
        rintro w' ⟨xl, rfl⟩
        have HB6 := Kp.mk (HB.out.trans (xl.le.mono HB.out.size))
        clear l1 l2 c1 c2
        go_wp2
        go_roundw
        case rel => exact ⟨k + 1, by omega, by go_num, HE2, HB6⟩
        case measure => simp [intOf]; omega
      · have hF := HNE.out hxy
        have tx : ((x : Int) != (y : Int)) = true := by simp; omega
        clear HE HNE hxy HR
        subst hF
        go_wp2
        refine region_later (by kernel_rfl) (by kernel_rfl) ?_
        iterate 9 (go_big_quiet_step (fail))
        refine wpQuiet_nil ?_
        rintro w' ⟨xl, rfl⟩
        have HB6 := Kp.mk (HB.out.trans (xl.le.mono HB.out.size))
        clear l1 l2 c1 c2
        go_wp2
        go_ret
        exact ⟨rfl, HB6.out⟩
    · obtain rfl : k = n := by omega
      have hT : r = true := by
        rw [HR.out]
        refine decide_eq_true ?_
        have := HT.out
        rwa [List.take_of_length_le (by rw [HL.out]; exact Nat.le_refl _), List.take_of_length_le (by rw [HL'.out]; exact Nat.le_refl _)] at this
      clear HR
      subst hT
      go_wp2
      go_ret
      exact ⟨rfl, HB.out⟩

/-- What comes behind numbers that were read. -/
def contL (xs : List Nat) (o : Option (List Nat × List Nat)) : Option (List Nat × List Nat) := o.map fun p => (xs ++ p.1, p.2)
theorem contL_nil (o : Option (List Nat × List Nat)) : contL [] o = o := by cases o <;> simp [contL]
theorem contL_step {xs : List Nat} {m v : Nat} {r r1 : List Nat} (h : getL r = some (v, r1)) : contL xs (numsL (m + 1) r) = contL (xs ++ [v]) (numsL m r1) := by
  simp only [numsL, h]
  cases numsL m r1 with
  | none => rfl
  | some p => obtain ⟨l, r'⟩ := p; simp [contL]
theorem contL_none {xs : List Nat} {m : Nat} {r : List Nat} (h : getL r = none) : contL xs (numsL (m + 1) r) = none := by
  rw [numsL, h]; rfl
theorem contL_end (xs r : List Nat) : contL xs (numsL 0 r) = some (xs, r) := by simp [numsL, contL]
attribute [irreducible] contL
/-- The cells of points of which the first numbers are read. -/
def outC (xs : List Nat) (c : Nat) : List Value := ints (xs.map unfN) ++ List.replicate (3 * c - xs.length) (.int .i64 0)
theorem outC_length (xs : List Nat) (c : Nat) (h : xs.length ≤ 3 * c) : (outC xs c).length = 3 * c := by simp [outC, ints]; omega
theorem outC_nil (c : Nat) : outC [] c = List.replicate (3 * c) (.int .i64 0) := by simp [outC, ints]
theorem outC_set (xs : List Nat) (c v : Nat) (h : xs.length < 3 * c) : (outC xs c).set xs.length (.int .i64 (unfN v)) = outC (xs ++ [v]) c := by
  unfold outC
  rw [List.set_append_right _ _ (by simp [ints])]
  simp only [ints, List.length_map, Nat.sub_self, List.map_append, List.length_append, List.length_singleton, List.append_assoc]
  congr 1
  obtain ⟨d, hd⟩ : ∃ d, 3 * c - xs.length = d + 1 := ⟨3 * c - xs.length - 1, by omega⟩
  rw [hd, show 3 * c - (xs.length + 1) = d by omega, List.replicate_succ]
  simp
theorem outC_end (xs : List Nat) (c : Nat) (h : xs.length = 3 * c) : outC xs c = ints (xs.map unfN) := by simp [outC, h]
theorem outC_at (xs : List Nat) (c i : Nat) (h : xs.length ≤ i) (hi : i < 3 * c) : (outC xs c)[i]? = some (.int .i64 0) := by
  unfold outC
  rw [List.getElem?_append_right (by simp [ints]; exact h)]
  rw [List.getElem?_replicate, if_pos (by simp [ints]; omega)]
attribute [irreducible] outC

theorem made3 (c : Nat) : (madeCells (Value.agg #[.int .i64 0, .int .i64 0, .int .i64 0]).cells (c * 3)).toList = List.replicate (3 * c) (.int .i64 0) := by
  apply List.ext_getElem
  · simp [madeCells]; omega
  · intro i h1 h2
    simp only [madeCells, Array.toList_map, List.getElem_map, Array.toList_range, List.getElem_range, List.getElem_replicate]
    show (#[Value.int .i64 0, .int .i64 0, .int .i64 0] : Array Value)[i % 3]! = _
    have : i % 3 = 0 ∨ i % 3 = 1 ∨ i % 3 = 2 := by omega
    rcases this with e | e | e <;> rw [e] <;> rfl

set_option maxRecDepth 100000 in
set_option maxHeartbeats 8000000 in
theorem imgPoints_any (a : Option Addr) (n cap : Nat) (l : List Nat) (w : World) (h : SlB w a n cap l) (hb : ∀ x ∈ l, x < 256) (h5 : 5 ≤ n) :
    Calls Try.prog 48 #[.slice a n cap] w fun e w' => Below w.heap.size w w' ∧ ((∃ (ra : Option Addr) (c rc : Nat) (xs : List Nat), e = .returned (.tuple #[.slice ra c rc, .bool true]) ∧ c ≤ 150 ∧ Kp (parseL l = some (xs, [])) ∧ Kp (xs.length = 3 * c) ∧ Kp (w'.ownsRow w.heap.size 26 3 (.slice ra c rc) c (ints (xs.map unfN)))) ∨ (∃ (ra : Option Addr) (rn rc : Nat), e = .returned (.tuple #[.slice ra rn rc, .bool false]) ∧ Kp (∀ xs, parseL l ≠ some (xs, [])))) := by
  obtain ⟨b, off, rfl, _⟩ := byte_cell h 0 (by omega)
  have h4 : 4 ≤ n := by omega
  have H := Kp.mk h
  have HBLT := Kp.mk (show b < w.heap.size from SlC.blt h (by rw [byts_length, h.len]; omega))
  have HB := Kp.mk hb
  have hcap : n ≤ cap := SlC.le h
  have H4 := Kp.mk (show SlB w (some ⟨b, off, none⟩) 4 cap (l.take 4) from by
    have := SlC.front h h4
    rw [Nat.mul_one, byts_take] at this; exact this)
  have kc : (convert 27 27 (.slice (some ⟨w.heap.size, 0, none⟩) 4 4)).run Try.prog (w.alloc (.cells #[.int .u8 68, .int .u8 65, .int .u8 77, .int .u8 49] 5)) = .ok (.slice (some ⟨w.heap.size, 0, none⟩) 4 4) (w.alloc (.cells #[.int .u8 68, .int .u8 65, .int .u8 77, .int .u8 49] 5 (4, 5))) :=
    Lib.run_convert_bytes_const (P := Try.prog) w 27 5 #[.int .u8 68, .int .u8 65, .int .u8 77, .int .u8 49] 4 4 Try.underlying27 Try.underlying5
  have hbC : Below w.heap.size w (w.alloc (.cells #[.int .u8 68, .int .u8 65, .int .u8 77, .int .u8 49] 5 (4, 5))) := below_alloc (Nat.le_refl _) _
  have s0 : SlB (w.alloc (.cells #[.int .u8 68, .int .u8 65, .int .u8 77, .int .u8 49] 5 (4, 5))) (some ⟨w.heap.size, 0, none⟩) 4 4 headL := by
    refine ⟨rfl, Nat.le_refl _, by decide, (fun h => by cases h), fun i hi => ⟨w.heap.size, 0, rfl, ?_⟩⟩
    rw [Nat.zero_add, World.cell?_alloc_mark]
    have hi9 : i < 4 := hi
    match i, hi9 with
    | 0, _ => rfl | 1, _ => rfl | 2, _ => rfl | 3, _ => rfl
  have CE := Kp.mk (eqb_any _ _ 4 cap 4 (l.take 4) headL _ (SlB.below H4.out hbC) s0 (by omega))
  have HBC := Kp.mk hbC
  have HPH := Kp.mk (show ¬ l.take 4 = headL → ∀ xs, parseL l ≠ some (xs, []) from fun hne xs e => by unfold parseL at e; rw [if_neg hne] at e; cases e)
  have HPN := Kp.mk (show l.take 4 = headL → getL (l.drop 4) = none → ∀ xs, parseL l ≠ some (xs, []) from fun he hg xs e => by unfold parseL at e; rw [if_pos he, hg] at e; cases e)
  have HPC := Kp.mk (show l.take 4 = headL → ∀ c r, getL (l.drop 4) = some (c, r) → ¬ c ≤ 150 → ∀ xs, parseL l ≠ some (xs, []) from fun he c r hg hc xs e => by unfold parseL at e; rw [if_pos he, hg] at e; simp only [if_neg hc] at e; cases e)
  have HPG := Kp.mk (show l.take 4 = headL → ∀ c r, getL (l.drop 4) = some (c, r) → c ≤ 150 → parseL l = numsL (3 * c) r from fun he c r hg hc => by unfold parseL; rw [if_pos he, hg]; simp only [if_pos hc])
  have HD4 := Kp.mk (SlB.drop h h4)
  have HBD := Kp.mk (show ∀ x ∈ l.drop 4, x < 256 from fun x hx => hb x (List.mem_of_mem_drop hx))
  clear h hb s0 hbC
  go_enter Try.func48, Try.ntmps48
  by_cases hhd : l.take 4 = headL
  · rw [decide_eq_true hhd] at CE
    clear HPH
    have HPN := Kp.mk (HPN.out hhd)
    have HPC := Kp.mk (HPC.out hhd)
    have HPG := Kp.mk (HPG.out hhd)
    clear hhd
    go_wp2_with fail
    refine CE.out.mono ?_
    rintro e w1 ⟨rfl, hb1⟩
    have HB1 := Kp.mk (below_step HBC.out hb1)
    clear CE kc hb1
    generalize l.drop 4 = l4 at *
    have hc5 : 4 < cap := by omega
    have CG := Kp.mk (get_any _ _ _ l4 w1 (SlB.below HD4.out HB1.out) HBD.out)
    go_wp2_with fail
    refine CG.out.mono ?_
    rintro e w2 ⟨hb2, ⟨c, ra, rn, rc, r, rfl, HG, HS, HKB⟩ | ⟨c, ra, rn, rc, rfl, HG⟩⟩
    · have HB2 := Kp.mk (below_step HB1.out hb2)
      clear CG hb2
      by_cases hc : c ≤ 150
      · have HPG := Kp.mk (HPG.out c r HG.out hc)
        have HR := Kp.mk (getL_inv HBD.out HG.out)
        have HRB := Kp.mk (show ∀ x ∈ r, x < 256 from fun x hx => HBD.out x (by rw [HR.out.1]; simp [hx]))
        clear HPN HPC HG HR
        obtain ⟨B, hB⟩ : ∃ B, B = w2.heap.size := ⟨_, rfl⟩
        have HBE := Kp.mk hB
        have hBle : B ≤ w2.heap.size := by omega
        clear hB
        have tc : decide ((150 : Int) < c) = false := decide_eq_false (by omega)
        go_wp2_with (at_make; refine wpList_mk tPts rfl _ _ rfl B c rfl rfl ?m1 (by decide) hBle ?m2)
        case m1 => omega
        case m2 =>
          intro oa oc w3 ho3 hb3
          have HO3 := Kp.mk (show w3.ownsRow B 26 3 (.slice oa c oc) c (outC [] c) from by
            rw [outC_nil]
            rw [← made3]; exact ho3)
          have HB3 := Kp.mk (below_step HB2.out (by rw [← HBE.out]; exact hb3))
          have HS3 := Kp.mk (SlB.below HS.out (by rw [← HBE.out]; exact hb3))
          have HB3le : w.heap.size ≤ B := by rw [HBE.out]; exact HB2.out.size
          have hb3' : B ≤ w3.heap.size := Nat.le_trans hBle hb3.size
          clear ho3 hb3 HS HB2 HB1 HD4 HBD H4 HBC H
          obtain ⟨wo, rfl⟩ : ∃ wo : World, wo = w3 := ⟨_, rfl⟩
          go_wp2
          go_loopw [5, 37] (fun s i wr => ∃ (k : Nat) (ra : Option Addr) (rn rc : Nat) (r xs : List Nat), k ≤ c ∧ i = .int .i64 k ∧ s = .slice ra rn rc ∧ Kp (SlB wr ra rn rc r) ∧ Kp (blk ra = some b) ∧ Kp (∀ x ∈ r, x < 256) ∧ Kp (xs.length = 3 * k) ∧ Kp (parseL l = contL xs (numsL (3 * c - 3 * k) r)) ∧ Kp (wr.ownsRow B 26 3 (.slice oa c oc) c (outC xs c)) ∧ Kp (Below w.heap.size w wr)) (fun _ i _ => c - (intOf i).toNat)
          case atStart => exact ⟨0, ra, rn, rc, r, [], Nat.zero_le _, rfl, rfl, HS3, HKB, HRB, ⟨rfl⟩, ⟨by rw [contL_nil]; exact HPG.out⟩, HO3, HB3⟩
          case round =>
            clear HPG HRB HS3 HO3 HB3 HKB
            obtain ⟨k, ra, rn, rc, r, xs, hk, rfl, rfl, HS, HKB, HRB, HXL, HPG, HO, HBW⟩ := hrel
            by_cases hlt : k < c
            · obtain ⟨g, rfl, hg1, hg2⟩ := own_some HO.out (by omega)
              go_wp2
              go_region_held3 (fun _ => True) (first | trivial | go_keep) (fail)
              have HBX := Kp.mk (Box.new wr #[.pointer (some ⟨g, k * 3, none⟩), .pointer (some ⟨g, k * 3 + 1, none⟩), .pointer (some ⟨g, k * 3 + 2, none⟩)] 119)
              have hba : Below wr.heap.size wr (wr.alloc (.cells #[.pointer (some ⟨g, k * 3, none⟩), .pointer (some ⟨g, k * 3 + 1, none⟩), .pointer (some ⟨g, k * 3 + 2, none⟩)] 119)) := below_alloc (Nat.le_refl _) _
              have HS5 := Kp.mk (SlB.below HS.out hba.drew)
              have HO5 := Kp.mk (own_below HO.out hba.drew)
              have HB5 := Kp.mk (below_step HBW.out hba.drew)
              have HBX5 := Kp.mk (show Box (wr.alloc (.cells #[.pointer (some ⟨g, k * 3, none⟩), .pointer (some ⟨g, k * 3 + 1, none⟩), .pointer (some ⟨g, k * 3 + 2, none⟩)] 119)).drew wr.heap.size #[.pointer (some ⟨g, k * 3, none⟩), .pointer (some ⟨g, k * 3 + 1, none⟩), .pointer (some ⟨g, k * 3 + 2, none⟩)] 119 from HBX.out)
              have hgne : g ≠ wr.heap.size := by omega
              have hwb : w.heap.size ≤ g := by have := HB3le; omega
              clear HBX hba HS HO HBW
              generalize (wr.alloc (.cells #[.pointer (some ⟨g, k * 3, none⟩), .pointer (some ⟨g, k * 3 + 1, none⟩), .pointer (some ⟨g, k * 3 + 2, none⟩)] 119)).drew = wp at *
              generalize wr.heap.size = pb at *
              have hk3 : 3 * k + 3 ≤ 3 * c := by omega
              go_wp2
              go_loopw [5, 54] (fun s i wr => ∃ (j : Nat) (ra : Option Addr) (rn rc : Nat) (r xs : List Nat), j ≤ 3 ∧ i = .int .i64 j ∧ s = .slice ra rn rc ∧ Kp (SlB wr ra rn rc r) ∧ Kp (blk ra = some b) ∧ Kp (∀ x ∈ r, x < 256) ∧ Kp (xs.length = 3 * k + j) ∧ Kp (parseL l = contL xs (numsL (3 * c - (3 * k + j)) r)) ∧ Kp (wr.ownsRow B 26 3 (.slice (some ⟨g, 0, none⟩) c oc) c (outC xs c)) ∧ Kp (Below w.heap.size w wr) ∧ Kp (Box wr pb #[.pointer (some ⟨g, k * 3, none⟩), .pointer (some ⟨g, k * 3 + 1, none⟩), .pointer (some ⟨g, k * 3 + 2, none⟩)] 119)) (fun _ i _ => 3 - (intOf i).toNat)
              case atStart => exact ⟨0, ra, rn, rc, r, xs, by omega, rfl, rfl, HS5, HKB, HRB, ⟨by rw [HXL.out]; rfl⟩, HPG, HO5, HB5, HBX5⟩
              case round =>
                clear HS5 HKB HRB HXL HPG HO5 HB5 HBX5
                obtain ⟨j, ra, rn, rc, r, xs, hj, rfl, rfl, HS, HKB, HRB, HXL, HPG, HO, HBW, HBX⟩ := hrel
                by_cases hlt3 : j < 3
                · have CG := Kp.mk (get_any ra rn rc r wr HS.out HRB.out)
                  have hNE := Kp.mk (show 3 * c - (3 * k + j) = (3 * c - (3 * k + j + 1)) + 1 by omega)
                  rcases (show j = 0 ∨ j = 1 ∨ j = 2 by omega) with rfl | rfl | rfl
                  · have bx := HBX.out.cell 0 rfl
                    go_wp2_with fail
                    refine CG.out.mono ?_
                    rintro e w5 ⟨hb5, ⟨v, ta, tn, tc', r', rfl, HG, HS', HK'⟩ | ⟨v, ta, tn, tc', rfl, HG⟩⟩
                    · have hv := Kp.mk (getL_inv HRB.out HG.out)
                      have HO5 := Kp.mk (own_below HO.out hb5)
                      have HB5 := Kp.mk (below_step HBW.out hb5)
                      have HBX5 := Kp.mk (HBX.out.below hb5)
                      have CU := Kp.mk (fun W => unfold_any v W hv.out.2)
                      have HP5 := Kp.mk (show parseL l = contL (xs ++ [v]) (numsL (3 * c - (3 * k + 0 + 1)) r') from by rw [HPG.out, hNE.out]; exact contL_step HG.out)
                      have HRB5 := Kp.mk (show ∀ x ∈ r', x < 256 from fun x hx => HRB.out x (by rw [hv.out.1]; simp [hx]))
                      have cg : w5.cell? ⟨g, k * 3, none⟩ = some (.int .i64 0) := by
                        rw [HO5.out.cellAt (k * 3) (by omega), outC_at xs c _ (by rw [HXL.out]; omega) (by omega)]
                      have fg := HO5.out.frozenAt (k * 3)
                      have HO6 := Kp.mk (show (w5.setCell ⟨g, k * 3, none⟩ (.int .i64 (unfN v))).ownsRow B 26 3 (.slice (some ⟨g, 0, none⟩) c oc) c (outC (xs ++ [v]) c) from by
                        rw [← outC_set xs c v (by rw [HXL.out]; omega), HXL.out, show 3 * k + 0 = k * 3 by omega]
                        exact (HO5.out.stored (k * 3) (.int .i64 (unfN v))).1)
                      have HK6 := Kp.mk (show blk ta = some b from by rw [HK'.out, HKB.out])
                      have hg6 := grown_set w5 g (k * 3) (.int .i64 (unfN v))
                      have HS6 := Kp.mk (show SlB (w5.setCell ⟨g, k * 3, none⟩ (.int .i64 (unfN v))) ta tn tc' r' from SlC.keep HS'.out hg6 (fun q hq e => by cases hq; rw [HK6.out] at e; cases e; have := HBLT.out; omega))
                      have HB6 := Kp.mk (HB5.out.trans (below_of_grown hg6 HB5.out.size (fun q hq => by cases hq; exact hwb)))
                      have HBX6 := Kp.mk (box_far (o := k * 3) (v := .int .i64 (unfN v)) HBX5.out hgne)
                      clear hg6 CG HG hv HO HO5 HB5 HBX5 HS HS' hb5
                      go_wp2_with (go_at_call 83; refine (CU.out _).mono ?_; rintro e w' ⟨rfl, rfl⟩)
                      go_roundw
                      case rel => exact ⟨1, ta, tn, tc', r', xs ++ [v], by omega, by first | rfl | go_num, rfl, HS6, HK6, HRB5, ⟨by rw [List.length_append, HXL.out]; rfl⟩, HP5, HO6, HB6, HBX6⟩
                      case measure => simp [intOf]
                    · have HB5 := Kp.mk (below_step HBW.out hb5)
                      have HP := Kp.mk (show ∀ ys, parseL l ≠ some (ys, []) from fun ys e => by
                        rw [HPG.out, hNE.out, contL_none HG.out] at e; cases e)
                      clear CG HG HO HS HPG
                      go_wp2
                      refine bodyPost_ret (v := .tuple #[.slice none 0 0, .bool false]) (by simp [results, Try.results48, go_sem]) rfl ?_
                      exact ⟨HB5.out, .inr ⟨none, 0, 0, rfl, HP⟩⟩
                  · have bx := HBX.out.cell 1 rfl
                    go_wp2_with fail
                    refine CG.out.mono ?_
                    rintro e w5 ⟨hb5, ⟨v, ta, tn, tc', r', rfl, HG, HS', HK'⟩ | ⟨v, ta, tn, tc', rfl, HG⟩⟩
                    · have hv := Kp.mk (getL_inv HRB.out HG.out)
                      have HO5 := Kp.mk (own_below HO.out hb5)
                      have HB5 := Kp.mk (below_step HBW.out hb5)
                      have HBX5 := Kp.mk (HBX.out.below hb5)
                      have CU := Kp.mk (fun W => unfold_any v W hv.out.2)
                      have HP5 := Kp.mk (show parseL l = contL (xs ++ [v]) (numsL (3 * c - (3 * k + 1 + 1)) r') from by rw [HPG.out, hNE.out]; exact contL_step HG.out)
                      have HRB5 := Kp.mk (show ∀ x ∈ r', x < 256 from fun x hx => HRB.out x (by rw [hv.out.1]; simp [hx]))
                      have cg : w5.cell? ⟨g, k * 3 + 1, none⟩ = some (.int .i64 0) := by
                        rw [HO5.out.cellAt (k * 3 + 1) (by omega), outC_at xs c _ (by rw [HXL.out]; omega) (by omega)]
                      have fg := HO5.out.frozenAt (k * 3 + 1)
                      have HO6 := Kp.mk (show (w5.setCell ⟨g, k * 3 + 1, none⟩ (.int .i64 (unfN v))).ownsRow B 26 3 (.slice (some ⟨g, 0, none⟩) c oc) c (outC (xs ++ [v]) c) from by
                        rw [← outC_set xs c v (by rw [HXL.out]; omega), HXL.out, show 3 * k + 1 = k * 3 + 1 by omega]
                        exact (HO5.out.stored (k * 3 + 1) (.int .i64 (unfN v))).1)
                      have HK6 := Kp.mk (show blk ta = some b from by rw [HK'.out, HKB.out])
                      have hg6 := grown_set w5 g (k * 3 + 1) (.int .i64 (unfN v))
                      have HS6 := Kp.mk (show SlB (w5.setCell ⟨g, k * 3 + 1, none⟩ (.int .i64 (unfN v))) ta tn tc' r' from SlC.keep HS'.out hg6 (fun q hq e => by cases hq; rw [HK6.out] at e; cases e; have := HBLT.out; omega))
                      have HB6 := Kp.mk (HB5.out.trans (below_of_grown hg6 HB5.out.size (fun q hq => by cases hq; exact hwb)))
                      have HBX6 := Kp.mk (box_far (o := k * 3 + 1) (v := .int .i64 (unfN v)) HBX5.out hgne)
                      clear hg6 CG HG hv HO HO5 HB5 HBX5 HS HS' hb5
                      go_wp2_with (go_at_call 83; refine (CU.out _).mono ?_; rintro e w' ⟨rfl, rfl⟩)
                      go_roundw
                      case rel => exact ⟨2, ta, tn, tc', r', xs ++ [v], by omega, by first | rfl | go_num, rfl, HS6, HK6, HRB5, ⟨by rw [List.length_append, HXL.out]; rfl⟩, HP5, HO6, HB6, HBX6⟩
                      case measure => simp [intOf]
                    · have HB5 := Kp.mk (below_step HBW.out hb5)
                      have HP := Kp.mk (show ∀ ys, parseL l ≠ some (ys, []) from fun ys e => by
                        rw [HPG.out, hNE.out, contL_none HG.out] at e; cases e)
                      clear CG HG HO HS HPG
                      go_wp2
                      refine bodyPost_ret (v := .tuple #[.slice none 0 0, .bool false]) (by simp [results, Try.results48, go_sem]) rfl ?_
                      exact ⟨HB5.out, .inr ⟨none, 0, 0, rfl, HP⟩⟩
                  · have bx := HBX.out.cell 2 rfl
                    go_wp2_with fail
                    refine CG.out.mono ?_
                    rintro e w5 ⟨hb5, ⟨v, ta, tn, tc', r', rfl, HG, HS', HK'⟩ | ⟨v, ta, tn, tc', rfl, HG⟩⟩
                    · have hv := Kp.mk (getL_inv HRB.out HG.out)
                      have HO5 := Kp.mk (own_below HO.out hb5)
                      have HB5 := Kp.mk (below_step HBW.out hb5)
                      have HBX5 := Kp.mk (HBX.out.below hb5)
                      have CU := Kp.mk (fun W => unfold_any v W hv.out.2)
                      have HP5 := Kp.mk (show parseL l = contL (xs ++ [v]) (numsL (3 * c - (3 * k + 2 + 1)) r') from by rw [HPG.out, hNE.out]; exact contL_step HG.out)
                      have HRB5 := Kp.mk (show ∀ x ∈ r', x < 256 from fun x hx => HRB.out x (by rw [hv.out.1]; simp [hx]))
                      have cg : w5.cell? ⟨g, k * 3 + 2, none⟩ = some (.int .i64 0) := by
                        rw [HO5.out.cellAt (k * 3 + 2) (by omega), outC_at xs c _ (by rw [HXL.out]; omega) (by omega)]
                      have fg := HO5.out.frozenAt (k * 3 + 2)
                      have HO6 := Kp.mk (show (w5.setCell ⟨g, k * 3 + 2, none⟩ (.int .i64 (unfN v))).ownsRow B 26 3 (.slice (some ⟨g, 0, none⟩) c oc) c (outC (xs ++ [v]) c) from by
                        rw [← outC_set xs c v (by rw [HXL.out]; omega), HXL.out, show 3 * k + 2 = k * 3 + 2 by omega]
                        exact (HO5.out.stored (k * 3 + 2) (.int .i64 (unfN v))).1)
                      have HK6 := Kp.mk (show blk ta = some b from by rw [HK'.out, HKB.out])
                      have hg6 := grown_set w5 g (k * 3 + 2) (.int .i64 (unfN v))
                      have HS6 := Kp.mk (show SlB (w5.setCell ⟨g, k * 3 + 2, none⟩ (.int .i64 (unfN v))) ta tn tc' r' from SlC.keep HS'.out hg6 (fun q hq e => by cases hq; rw [HK6.out] at e; cases e; have := HBLT.out; omega))
                      have HB6 := Kp.mk (HB5.out.trans (below_of_grown hg6 HB5.out.size (fun q hq => by cases hq; exact hwb)))
                      have HBX6 := Kp.mk (box_far (o := k * 3 + 2) (v := .int .i64 (unfN v)) HBX5.out hgne)
                      clear hg6 CG HG hv HO HO5 HB5 HBX5 HS HS' hb5
                      go_wp2_with (go_at_call 83; refine (CU.out _).mono ?_; rintro e w' ⟨rfl, rfl⟩)
                      go_roundw
                      case rel => exact ⟨3, ta, tn, tc', r', xs ++ [v], by omega, by first | rfl | go_num, rfl, HS6, HK6, HRB5, ⟨by rw [List.length_append, HXL.out]; rfl⟩, HP5, HO6, HB6, HBX6⟩
                      case measure => simp [intOf]
                    · have HB5 := Kp.mk (below_step HBW.out hb5)
                      have HP := Kp.mk (show ∀ ys, parseL l ≠ some (ys, []) from fun ys e => by
                        rw [HPG.out, hNE.out, contL_none HG.out] at e; cases e)
                      clear CG HG HO HS HPG
                      go_wp2
                      refine bodyPost_ret (v := .tuple #[.slice none 0 0, .bool false]) (by simp [results, Try.results48, go_sem]) rfl ?_
                      exact ⟨HB5.out, .inr ⟨none, 0, 0, rfl, HP⟩⟩
                · obtain rfl : j = 3 := by omega
                  have HX7 := Kp.mk (show xs.length = 3 * (k + 1) by rw [HXL.out]; omega)
                  have HP7 := Kp.mk (show parseL l = contL xs (numsL (3 * c - 3 * (k + 1)) r) from by rw [HPG.out, show 3 * (k + 1) = 3 * k + 3 by omega])
                  go_wp2
                  go_roundw
                  case rel => exact ⟨k + 1, ra, rn, rc, r, xs, by omega, by go_num, rfl, HS, HKB, HRB, HX7, HP7, HO, HBW⟩
                  case measure => simp [intOf]; omega
            · obtain rfl : k = c := by omega
              rw [Nat.sub_self, contL_end] at HPG
              have hrn := HS.out.len
              by_cases h0 : rn = 0
              · subst h0
                have hr : r = [] := List.length_eq_zero_iff.1 hrn
                rw [hr] at HPG
                have HOF := Kp.mk (show wr.ownsRow w.heap.size 26 3 (.slice oa k oc) k (ints (xs.map unfN)) from by
                  rw [← outC_end xs k HXL.out]
                  exact own_base HO.out (by have := HBE.out; have := HB3le; omega))
                clear HO HS hrn hr
                go_wp2
                refine bodyPost_ret (v := .tuple #[.slice oa k oc, .bool true]) (by simp [results, Try.results48, go_sem]) rfl ?_
                exact ⟨HBW.out, .inl ⟨oa, k, oc, xs, rfl, hc, HPG, HXL, HOF⟩⟩
              · have HP := Kp.mk (show ∀ ys, parseL l ≠ some (ys, []) from fun ys e => by
                  rw [HPG.out] at e
                  simp only [Option.some.injEq, Prod.mk.injEq] at e
                  rw [e.2] at hrn; exact h0 hrn.symm)
                have t0 : ((rn : Int) == 0) = false := by rw [beq_eq_false_iff_ne]; omega
                clear HO HS hrn HPG
                go_wp2
                refine bodyPost_ret (v := .tuple #[.slice oa k oc, .bool false]) (by simp [results, Try.results48, go_sem]) rfl ?_
                exact ⟨HBW.out, .inr ⟨oa, k, oc, rfl, HP⟩⟩
      · have tc : decide ((150 : Int) < c) = true := decide_eq_true (by omega)
        have HP := Kp.mk (HPC.out c r HG.out hc)
        go_wp2
        refine bodyPost_ret (v := .tuple #[.slice none 0 0, .bool false]) (by simp [results, Try.results48, go_sem]) rfl ?_
        exact ⟨HB2.out, .inr ⟨none, 0, 0, rfl, HP⟩⟩
    · have HB2 := Kp.mk (below_step HB1.out hb2)
      have HP := Kp.mk (HPN.out HG.out)
      go_wp2
      refine bodyPost_ret (v := .tuple #[.slice none 0 0, .bool false]) (by simp [results, Try.results48, go_sem]) rfl ?_
      exact ⟨HB2.out, .inr ⟨none, 0, 0, rfl, HP⟩⟩
  · rw [decide_eq_false hhd] at CE
    have HP := Kp.mk (HPH.out hhd)
    clear HPH HPN HPC HPG hhd
    go_wp2_with fail
    refine CE.out.mono ?_
    rintro e w1 ⟨rfl, hb1⟩
    have HB1 := Kp.mk (below_step HBC.out hb1)
    go_wp2
    refine bodyPost_ret (v := .tuple #[.slice none 0 0, .bool false]) (by simp [results, Try.results48, go_sem]) rfl ?_
    exact ⟨HB1.out, .inr ⟨none, 0, 0, rfl, HP⟩⟩

end Go.Proofs.Ytmfmknpkeniifaa
