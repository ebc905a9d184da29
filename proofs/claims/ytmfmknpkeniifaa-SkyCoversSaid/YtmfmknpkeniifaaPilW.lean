/- Package lis: the walk of piles. -/
import Derived.Test.YtmfmknpkeniifaaPil
namespace Go.Proofs.Ytmfmknpkeniifaa
set_option linter.unusedVariables false
open Go.RowKit

def lensK (l : List Int) (n i : Nat) : List Int := (List.range n).map fun j => if j < i then ((slot l (at0 l j) (pilesK l j) + 1 : Nat) : Int) else 0
theorem lensK_length (l : List Int) (n i : Nat) : (lensK l n i).length = n := by simp [lensK]
theorem lensK_zero (l : List Int) (n : Nat) : lensK l n 0 = List.replicate n 0 := by
  apply List.ext_getElem
  · simp [lensK]
  · intro i h1 h2; simp [lensK]
theorem lensK_set (l : List Int) (n i : Nat) (h : i < n) : (lensK l n i).set i ((slot l (at0 l i) (pilesK l i) + 1 : Nat) : Int) = lensK l n (i + 1) := by
  apply List.ext_getElem
  · simp [lensK]
  · intro j h1 h2
    rw [List.getElem_set]
    by_cases e : i = j
    · subst e; rw [if_pos rfl]; simp [lensK]
    · rw [if_neg e]
      simp only [lensK, List.getElem_map, List.getElem_range]
      by_cases hj : j < i
      · rw [if_pos hj, if_pos (by omega)]
      · rw [if_neg hj, if_neg (by omega)]
attribute [irreducible] lensK
theorem mem_len {ps : List (List Nat)} {p : List Nat} (h : p ∈ ps) : p.length ≤ (ps.map List.length).sum := by
  induction ps with
  | nil => cases h
  | cons q ps ih =>
    simp only [List.map_cons, List.sum_cons]
    rcases List.mem_cons.1 h with rfl | h
    · omega
    · have := ih h; omega

set_option maxRecDepth 100000 in
set_option maxHeartbeats 2000000 in
theorem piles_any (a : Option Addr) (cap n : Nat) (l : List Int) (w : World) (h : SlI w a cap l) (hl : l.length = n) (hn : n ≤ 300) (hn0 : 0 < n) :
    Calls Try.prog 65 #[.slice a n cap] w (fun e w' => ∃ oa oc r la lc, e = .returned (.tuple #[.slice oa r oc, .slice la n lc]) ∧ Kp ((pilesK l n).length = r) ∧ Kp (RowsI w' oa r oc ((pilesK l n).map nts)) ∧ Kp (SlI w' la lc (lensK l n n)) ∧ Below w.heap.size w w') := by
  have H := Kp.mk h
  have HL := Kp.mk hl
  obtain ⟨B, hB⟩ : ∃ B, B = w.heap.size := ⟨_, rfl⟩
  have HB := Kp.mk hB
  clear h hl
  go_enter Try.func65, Try.ntmps65
  go_wp2_with (at_make; refine wpList_mk1 tInts rfl rfl _ _ rfl (w.heap.size + 2) n rfl rfl ?c1 (by decide) ?c2 ?c3)
  case c1 => omega
  case c2 => rw [alloc_size, alloc_size]; omega
  case c3 =>
    intro la lc w3 hown hbel
    obtain ⟨gl, rfl, hg1, hg2⟩ := own_some hown hn0
    have hM := Kp.mk (show PilMem B n w.heap.size (w.heap.size + 1) gl lc a cap w w3 none 0 [] (lensK l n 0) from by
      have hb0 := below_alloc (Nat.le_refl w.heap.size) (.cells #[.slice a n cap] 38)
      have hb1 := hb0.trans (below_alloc (w := w.alloc (.cells #[.slice a n cap] 38)) (B := w.heap.size) (by rw [alloc_size]; omega) (.cells #[.slice none 0 0] 103))
      have hl1 := World.ownsRow_lit (base := w.heap.size) (size := 1) (e := 103) (w.alloc (.cells #[.slice a n cap] 38)) #[.slice none 0 0] 1 (by rw [alloc_size]; omega) (by decide) rfl
      rw [alloc_size] at hl1
      rw [hB]
      refine ⟨hb1.trans (hbel.mono (by omega)), ?_, ?_, ?_, World.ownsRow_nil _ _ _ _, by simp, ⟨by omega, by omega, by omega⟩, by simp [blk], by simp, by simp [blk], .nil⟩
      · exact ((Box.new w #[.slice a n cap] 38).alloc _).below (hbel.mono (by rw [alloc_size, alloc_size]; omega))
      · exact own_below' hl1 hbel (fun k hk => by simp [blk] at hk; omega)
      · rw [lensK_zero]
        have := own_base (B := w.heap.size) hown (by omega)
        simpa [ints] using this)
    clear hown hbel hB
    have c0 : w3.cell? ⟨w.heap.size, 0, none⟩ = some (.slice a n cap) := hM.out.bxl.cell 0 rfl
    go_wp2
    clear c0
    go_loopw [14] (fun i wr => ∃ (i' : Nat) (so : Option Addr) (sc : Nat) (L : List Row), i' ≤ n ∧ i = .int .i64 i' ∧ Kp (PilMem B n w.heap.size (w.heap.size + 1) gl lc a cap w wr so sc L (lensK l n i')) ∧ Kp (psOf L = pilesK l i')) (fun i _ => n - (intOf i).toNat)
    case atStart => exact ⟨0, none, 0, [], Nat.zero_le _, rfl, hM, ⟨rfl⟩⟩
    case round =>
      clear hM
      obtain ⟨i, so, sc, L, hi, rfl, hM, HP⟩ := hrel
      have hco : wr.cell? ⟨w.heap.size + 1, 0, none⟩ = some (.slice so L.length sc) := by
        have := hM.out.bxo.cellAt 0 (by omega)
        exact this
      by_cases hlt : i < n
      · have hBw : B ≤ wr.heap.size := by rw [HB.out]; exact hM.out.hb.size
        have HS := Kp.mk (H.out.below (HB.out ▸ hM.out.hb))
        obtain ⟨b, off, rfl, ci⟩ := HS.out.at i (by rw [HL.out]; exact hlt)
        rw [← at0_get] at ci
        have hin : (i : Int) < n := by omega
        have hI := piles_inv l i
        have hps : psOf L = pilesK l i := HP.out
        have hLr : L.length = (pilesK l i).length := by rw [← hps, psOf_length]
        have hLi : L.length ≤ i := by rw [hLr]; exact pilesK_len l i
        have hv1 := (Box.new wr #[.int .i64 (at0 l i)] 3).cell 0 rfl
        have hM1 := hM.out.alloc (.cells #[.int .i64 (at0 l i)] 3) hBw
        have C := Kp.mk (search_any 100 _ _ L.length (enters_of Try.func100 (by kernel_rfl) rfl) (wr.alloc (.cells #[.int .i64 (at0 l i)] 3)) (by omega)
          (ptest_any l (at0 l i) wr.heap.size HL.out hn (HS.out.below (below_alloc (Nat.le_refl _) _)) hM1 hv1 (fun p hp => by
            rw [hps] at hp
            exact ⟨hI.ne p hp, Nat.le_trans (mem_len hp) (by rw [hI.sum]; omega), fun x hx => by have := hI.lt p hp x hx; omega⟩) (by rw [alloc_size]; omega) (by omega))
          (fun x y hxy hy hx => by
            by_cases e : x = y
            · rw [← e]; exact hx
            · have h1 := List.pairwise_iff_getElem.1 hI.tops x y (by omega) (by omega) (by omega)
              rw [hps, getD_at _ _ (by omega), decide_eq_true_eq] at hx
              rw [hps, getD_at _ _ (by omega), decide_eq_true_eq]
              omega))
        have HM1 := Kp.mk hM1
        have hco1 : (wr.alloc (.cells #[.int .i64 (at0 l i)] 3)).cell? ⟨w.heap.size + 1, 0, none⟩ = some (.slice so L.length sc) := hM1.bxo.cellAt 0 (by omega)
        have HS1 := Kp.mk (HS.out.below (below_alloc (Nat.le_refl _) (.cells #[.int .i64 (at0 l i)] 3)))
        have HSL := Kp.mk (show ∀ k, k ≤ L.length → (∀ j, j < k → decide (at0 l i ≤ at0 l (tip ((psOf L).getD j []))) = false) → (k < L.length → decide (at0 l i ≤ at0 l (tip ((psOf L).getD k []))) = true) → k = slot l (at0 l i) (pilesK l i) from fun k hk h1 h2 => by
          unfold slot
          refine (findIdx_uniq _ _ k (by omega) (fun j hj hjk => ?_) (fun h => ?_)).symm
          · have := h1 j hjk
            rwa [hps, getD_at _ _ hj] at this
          · have := h2 (by omega)
            rwa [hps, getD_at _ _ h] at this)
        have HI := Kp.mk hI
        have HLR := Kp.mk hLr
        clear hps hLr hI hM1 hv1
        generalize hv : at0 l i = v at *
        have HV := Kp.mk hv
        clear hv
        go_wp2_with fail
        refine C.out.mono ?_
        rintro e w2 ⟨k, rfl, hk, h1, h2, hd⟩
        have hsl := HSL.out k hk h1 h2
        have HM2 := Kp.mk (HM1.out.drew hd (by rw [alloc_size]; omega))
        have HS2 := Kp.mk (HS1.out.below (hd.below _))
        have hB2 : B ≤ w2.heap.size := by have := (hd.below (wr.alloc (.cells #[.int .i64 v] 3)).heap.size).size; rw [alloc_size] at this; omega
        have hco2 : w2.cell? ⟨w.heap.size + 1, 0, none⟩ = some (.slice so L.length sc) := HM2.out.bxo.cellAt 0 (by omega)
        have HSK := Kp.mk hsl
        clear h1 h2 hd C HSL hco1 HM1 HS1 hM HS ci hco hsl
        have hln : (lensK l n i).length = n := lensK_length l n i
        have hls := Kp.mk (lensK_set l n i hlt)
        by_cases hkr : k < L.length
        · have e1 : ((k : Int) == L.length) = false := by simp only [beq_eq_false_iff_ne]; omega
          obtain ⟨gs, rfl, cs, fs⟩ := HM2.out.row k hkr
          have hrow := HM2.out.rows _ (List.getElem_mem hkr)
          obtain ⟨R, hR⟩ : ∃ R, L[k] = R := ⟨_, rfl⟩
          rw [hR] at cs hrow
          obtain ⟨ra, rc, rp⟩ := R
          dsimp only at cs hrow
          have HR := Kp.mk hR
          have hrl : rp.length ≤ 300 := by
            have hm : rp ∈ pilesK l i := by rw [← HP.out]; exact List.mem_map.2 ⟨_, List.getElem_mem hkr, by rw [hR]⟩
            have := mem_len hm
            rw [HI.out.sum] at this
            omega
          have HRW := Kp.mk hrow
          obtain ⟨m, hm⟩ : ∃ m, rp.length = m := ⟨_, rfl⟩
          rw [hm] at cs hrl HRW
          have HMM := Kp.mk hm
          have hki : (k : Int) < L.length := by omega
          have hd4 := HM2.out.d4 gs rfl _ (List.getElem_mem hkr)
          rw [hR] at hd4
          have HDK := Kp.mk (fun (o : Obj) (w' : World) (hg : (w2.alloc o).drew.grownBy w' (blk ra)) => show w'.cell? ⟨gs, k, none⟩ = some (.slice ra m rc) ∧ w'.frozen? ⟨gs, k, none⟩ = false ∧ w'.cell? ⟨w.heap.size + 1, 0, none⟩ = some (.slice (some ⟨gs, 0, none⟩) L.length sc) from by
            have hx := own_keep ((HM2.out.bxo.alloc o).drew) hg (fun q hq he => (HM2.out.d3 _ (List.getElem_mem hkr)).2.1 (by rw [hR, hq, ← he]; rfl))
            have hh := own_keep ((HM2.out.hd.alloc o).drew) hg (fun q hq he => by simp [blk] at he; subst he; exact hd4 hq)
            refine ⟨?_, hh.frozenAt k, hx.cellAt 0 (by omega)⟩
            rw [hh.cellAt k (by omega), List.getElem?_eq_getElem (by rw [hdrN_length]; exact hkr)]
            simp [hdrN, hR, hm])
          have csA : (w2.alloc (.cells #[.int .i64 i] 3)).cell? ⟨gs, k, none⟩ = some (.slice ra m rc) := ((below_alloc (Nat.le_refl _) _).cell (p := ⟨gs, k, none⟩) (World.block_lt_of_cell? w2 _ cs)).trans cs
          have hcoA : (w2.alloc (.cells #[.int .i64 i] 3)).cell? ⟨w.heap.size + 1, 0, none⟩ = some (.slice (some ⟨gs, 0, none⟩) L.length sc) := ((below_alloc (Nat.le_refl _) _).cell (p := ⟨w.heap.size + 1, 0, none⟩) (World.block_lt_of_cell? w2 _ hco2)).trans hco2
          clear hrow hR hm hd4
          have HPN := Kp.mk (show ∀ (a' : Option Addr) (c' : Nat), psOf (L.set k (a', c', rp ++ [i])) = pilesK l (i + 1) from fun a' c' => by
            have e : psOf (L.set k (a', c', rp ++ [i])) = (psOf L).set k (rp ++ [i]) := by simp [psOf, List.map_set]
            have hk' : k < (pilesK l i).length := by rw [← HLR.out]; exact hkr
            have hgd : (pilesK l i).getD k [] = rp := by
              rw [← HP.out, getD_at _ _ (by rw [psOf_length]; exact hkr)]; simp [psOf, HR.out]
            rw [e, HP.out, pilesK, HV.out, ← HSK.out, putP, if_pos hk', hgd])
          go_wp2
          go_region_law ((first
            | (refine step_push tInts (by rfl) _ _ (by rfl) B ra m rc _ (by rfl) ((HRW.out.alloc _).drew) 1 w2.heap.size _ (heap_alloc_new w2 _) (by rfl) (by rfl) (by simp [Value.oneCell']) (by omega) (by omega) (by omega) (by simp; omega) ?_; intro sa' cap' w' hown' hgr hno; obtain ⟨q1, q2, q3⟩ := HDK.out _ w' hgr)))
          all_goals
            have HN := Kp.mk (((HM2.out.alloc _ hB2).drew ⟨1, rfl⟩ (by rw [alloc_size]; omega)).grow (show B ≤ ((w2.alloc (.cells #[.int .i64 i] 3)).drew).heap.size from by show B ≤ (w2.alloc _).heap.size; rw [alloc_size]; omega) hkr HR.out HMM.out hown' hgr hno)
            have kg := HN.out.ln.cellAt i (by omega)
            have fg := HN.out.ln.frozenAt i
            rw [List.getElem?_eq_getElem (by rw [ints_length, hln]; exact hlt)] at kg
            have HN2 := Kp.mk (HN.out.tell i ((k : Int) + 1))
            rw [show (lensK l n i).set i ((k : Int) + 1) = lensK l n (i + 1) from by
              have := hls.out
              rw [HV.out, ← HSK.out] at this
              exact this] at HN2
            clear hown' hgr hno q1 q2 q3 HN
            generalize (ints (lensK l n i))[i]'(by rw [ints_length, hln]; exact hlt) = vg at *
            go_wp2
            go_roundw
            case rel => exact ⟨i + 1, some ⟨gs, 0, none⟩, sc, _, by omega, by go_num, HN2, ⟨HPN.out _ _⟩⟩
            case measure => simp [intOf]; omega
        · obtain rfl : k = L.length := by omega
          have e1 : ((L.length : Int) == L.length) = true := by simp only [beq_iff_eq]
          go_wp2_with (at_builtin; refine wpList_pushS tRows rfl _ _ rfl B so L.length sc (hdrN L) rfl HM2.out.hd 1 _ rfl rfl ?d1 ?d2 (by decide) hB2 ?d4)
          case d1 => simp [Value.oneCell']
          case d2 => omega
          case d4 =>
          intro so1 sc1 w5 hown5 hg5 hno5
          have hx5 := own_keep HM2.out.bxo hg5 (fun q hq he => HM2.out.d2.2.1 (by rw [hq, ← he]; rfl))
          have cx5 : w5.cell? ⟨w.heap.size + 1, 0, none⟩ = some (.slice so L.length sc) := hx5.cellAt 0 (by omega)
          have fx5 := hx5.frozenAt 0
          have hM4 := HM2.out.more hB2 hown5 hg5 hno5
          obtain ⟨L1, hL1⟩ : ∃ L1 : List Row, L1 = L ++ [(none, 0, [])] := ⟨_, rfl⟩
          rw [← hL1] at hM4
          have hL1l : L1.length = L.length + 1 := by rw [hL1]; simp
          have hkr : L.length < L1.length := by omega
          have hL1k : L1[L.length] = ((none, 0, []) : Row) := by
            have : ∀ (M : List Row) (h : L.length < M.length), M = L ++ [(none, 0, [])] → M[L.length] = ((none, 0, []) : Row) := by
              intro M h e; subst e; simp
            exact this L1 hkr hL1
          have hL1 := Kp.mk hL1
          have hB5 : B ≤ w5.heap.size := Nat.le_trans hB2 hg5.size
          have hki1 : (L.length : Int) < (L.length : Int) + 1 := by omega
          have hL1l' := Kp.mk hL1l
          clear hown5 hg5 hno5 hx5 hco2 hL1l
          go_wp2
          have hB4 : B ≤ (w5.setCell ⟨w.heap.size + 1, 0, none⟩ (.slice so1 (L.length + 1) sc1)).heap.size := by rw [size_setCell]; exact hB5
          have hco4 : (w5.setCell ⟨w.heap.size + 1, 0, none⟩ (.slice so1 (L.length + 1) sc1)).cell? ⟨w.heap.size + 1, 0, none⟩ = some (.slice so1 L1.length sc1) := hM4.bxo.cellAt 0 (by omega)
          have HM4 := Kp.mk hM4
          clear hM4 cx5 fx5 hB5
          generalize w5.setCell ⟨w.heap.size + 1, 0, none⟩ (.slice so1 (L.length + 1) sc1) = w4 at *
          have hLi1 : L1.length ≤ i + 1 := by rw [hL1l'.out]; omega
          have hlt1 : (L.length : Int) < (L.length : Int) + 1 := by omega
          have hlt2 : (L.length : Int) < L1.length := by rw [hL1l'.out]; omega
          obtain ⟨gs, rfl, cs, fs⟩ := HM4.out.row L.length hkr
          have hrow := HM4.out.rows _ (List.getElem_mem hkr)
          obtain ⟨R, hR⟩ : ∃ R, L1[L.length] = R := ⟨_, rfl⟩
          rw [hR] at cs hrow
          obtain ⟨ra, rc, rp⟩ := R
          dsimp only at cs hrow
          have HR := Kp.mk hR
          have hR0 : (ra, rc, rp) = ((none, 0, []) : Row) := by rw [← hR]; exact hL1k
          have hrl : rp.length ≤ 300 := by simp only [Prod.mk.injEq] at hR0; rw [hR0.2.2]; simp
          have HR0 := Kp.mk hR0
          clear hR0
          have HRW := Kp.mk hrow
          obtain ⟨m, hm⟩ : ∃ m, rp.length = m := ⟨_, rfl⟩
          rw [hm] at cs hrl HRW
          have HMM := Kp.mk hm
          have hki : (L.length : Int) < L1.length := by omega
          have hd4 := HM4.out.d4 gs rfl _ (List.getElem_mem hkr)
          rw [hR] at hd4
          have HDK := Kp.mk (fun (o : Obj) (w' : World) (hg : (w4.alloc o).drew.grownBy w' (blk ra)) => show w'.cell? ⟨gs, L.length, none⟩ = some (.slice ra m rc) ∧ w'.frozen? ⟨gs, L.length, none⟩ = false ∧ w'.cell? ⟨w.heap.size + 1, 0, none⟩ = some (.slice (some ⟨gs, 0, none⟩) L1.length sc1) from by
            have hx := own_keep ((HM4.out.bxo.alloc o).drew) hg (fun q hq he => (HM4.out.d3 _ (List.getElem_mem hkr)).2.1 (by rw [hR, hq, ← he]; rfl))
            have hh := own_keep ((HM4.out.hd.alloc o).drew) hg (fun q hq he => by simp [blk] at he; subst he; exact hd4 hq)
            refine ⟨?_, hh.frozenAt L.length, hx.cellAt 0 (by omega)⟩
            rw [hh.cellAt L.length (by omega), List.getElem?_eq_getElem (by rw [hdrN_length]; exact hkr)]
            simp [hdrN, hR, hm])
          have csA : (w4.alloc (.cells #[.int .i64 i] 3)).cell? ⟨gs, L.length, none⟩ = some (.slice ra m rc) := ((below_alloc (Nat.le_refl _) _).cell (p := ⟨gs, L.length, none⟩) (World.block_lt_of_cell? w4 _ cs)).trans cs
          have hcoA : (w4.alloc (.cells #[.int .i64 i] 3)).cell? ⟨w.heap.size + 1, 0, none⟩ = some (.slice (some ⟨gs, 0, none⟩) L1.length sc1) := ((below_alloc (Nat.le_refl _) _).cell (p := ⟨w.heap.size + 1, 0, none⟩) (World.block_lt_of_cell? w4 _ hco4)).trans hco4
          clear hrow hR hm hd4
          have HPN := Kp.mk (show ∀ (a' : Option Addr) (c' : Nat), psOf (L1.set L.length (a', c', rp ++ [i])) = pilesK l (i + 1) from fun a' c' => by
            have h0 := HR0.out
            simp only [Prod.mk.injEq] at h0
            have e : psOf (L1.set L.length (a', c', rp ++ [i])) = psOf L ++ [[i]] := by
              rw [hL1.out, h0.2.2]
              simp [psOf]
            have hk' : ¬ L.length < (pilesK l i).length := by rw [← HLR.out]; omega
            rw [e, HP.out, pilesK, HV.out, ← HSK.out, putP, if_neg hk'])
          go_wp2
          go_region_law ((first
            | (refine step_push tInts (by rfl) _ _ (by rfl) B ra m rc _ (by rfl) ((HRW.out.alloc _).drew) 1 w4.heap.size _ (heap_alloc_new w4 _) (by rfl) (by rfl) (by simp [Value.oneCell']) (by omega) (by omega) (by omega) (by simp; omega) ?_; intro sa' cap' w' hown' hgr hno; obtain ⟨q1, q2, q3⟩ := HDK.out _ w' hgr)))
          all_goals
            have HN := Kp.mk (((HM4.out.alloc _ hB4).drew ⟨1, rfl⟩ (by rw [alloc_size]; omega)).grow (show B ≤ ((w4.alloc (.cells #[.int .i64 i] 3)).drew).heap.size from by show B ≤ (w4.alloc _).heap.size; rw [alloc_size]; omega) hkr HR.out HMM.out hown' hgr hno)
            have kg := HN.out.ln.cellAt i (by omega)
            have fg := HN.out.ln.frozenAt i
            rw [List.getElem?_eq_getElem (by rw [ints_length, hln]; exact hlt)] at kg
            have HN2 := Kp.mk (HN.out.tell i ((L.length : Int) + 1))
            rw [show (lensK l n i).set i ((L.length : Int) + 1) = lensK l n (i + 1) from by
              have := hls.out
              rw [HV.out, ← HSK.out] at this
              exact this] at HN2
            clear hown' hgr hno q1 q2 q3 HN
            generalize (ints (lensK l n i))[i]'(by rw [ints_length, hln]; exact hlt) = vg at *
            go_wp2
            go_roundw
            case rel => exact ⟨i + 1, some ⟨gs, 0, none⟩, sc1, _, by omega, by go_num, HN2, ⟨HPN.out _ _⟩⟩
            case measure => simp [intOf]; omega
      · obtain rfl : i = n := by omega
        have co : wr.cell? ⟨w.heap.size + 1, 0, none⟩ = some (.slice so L.length sc) := hco
        go_wp2
        go_ret2
        refine ⟨so, sc, L.length, some ⟨gl, 0, none⟩, lc, rfl, ⟨by rw [← HP.out, psOf_length]⟩, ⟨⟨L.map fun x => (x.1, x.2.1, nts x.2.2), ?_, ?_, ?_⟩⟩, ⟨own_sl_len hM.out.ln (lensK_length _ _ _)⟩, HB.out ▸ hM.out.hb⟩
        · rw [← HP.out]; simp [lists, psOf]
        · have := own_slc hM.out.hd
          have e : hdr (L.map fun x => (x.1, x.2.1, nts x.2.2)) = hdrN L := by simp [hdr, hdrN, nts]
          rw [e]
          exact this
        · intro x hx
          obtain ⟨y, hy, rfl⟩ := List.mem_map.1 hx
          exact own_sl_len (hM.out.rows y hy) (nts_length _)

end Go.Proofs.Ytmfmknpkeniifaa
