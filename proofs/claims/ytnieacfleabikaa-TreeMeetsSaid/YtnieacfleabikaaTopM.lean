/- Package rmq: the walk of Make. -/
import Derived.Test.YtnieacfleabikaaTop
import Derived.IntWalk
namespace Go.Proofs.Ytnieacfleabikaa
set_option linter.unusedVariables false
open Go.RowKit

set_option maxRecDepth 100000 in
set_option maxHeartbeats 2000000 in
theorem rmake_any (a : Option Addr) (cap n : Nat) (l : List Int) (w : World) (h : SlI w a cap l) (hl : l.length = n) (hn : n ≤ 300) :
    Calls Try.prog 42 #[.slice a n cap] w (fun e w' => ∃ oa oc, e = .returned (.tuple #[.slice oa (lvl n) oc, .int .i64 0]) ∧ RowsI w' oa (lvl n) oc (rowsT l) ∧ Below w.heap.size w w') := by
  have H := Kp.mk h
  have HL := Kp.mk hl
  obtain ⟨K, hK⟩ : ∃ K, K = lvl n := ⟨_, rfl⟩
  rw [← hK]
  have HK := Kp.mk hK
  have hK9 : K ≤ 9 := by rw [hK]; exact lvl_small n hn
  have ND : Kp (∀ k (D : List (List Int)), D = (rowsT l).take k → True) := ⟨fun _ _ _ => trivial⟩
  obtain ⟨B, hB⟩ : ∃ B, B = w.heap.size := ⟨_, rfl⟩
  rw [← hB]
  have HB := Kp.mk hB
  clear h hl hK hB ND
  go_enter Try.func42, Try.ntmps42
  go_wp2
  go_loopw [4, 5] (fun v i wr => ∃ (k m : Nat) (so : Option Addr) (sc : Nat) (L : List (Option Addr × Nat × List Int)), k ≤ K ∧ Kp (m = 2 ^ k) ∧ m ≤ 1024 ∧ 0 < m ∧ i = .int .i64 m ∧ v = .slice so k sc ∧ Kp (RwsMem B k w wr so sc L ((rowsT l).take k))) (fun _ i _ => 1024 - (intOf i).toNat)
  case atStart => exact ⟨0, 1, none, 0, [], Nat.zero_le _, ⟨rfl⟩, by omega, by omega, rfl, rfl, ⟨.nil (Below.refl _ _)⟩⟩
  case round =>
    obtain ⟨k, m, so, sc, L, hk, HM2, hm, hm0, rfl, rfl, HM⟩ := hrel
    obtain ⟨wo, hwo⟩ : ∃ wo : World, wo = wr := ⟨_, rfl⟩
    rw [← hwo] at HM ⊢
    clear hwo
    by_cases hmn : m ≤ n
    · have hkK : k < K := by rw [HK.out]; exact lvl_of n k (by rw [← HM2.out]; exact hmn)
      have hBw : B ≤ wo.heap.size := by rw [HB.out]; exact HM.out.hb.size
      have hmi : (m : Int) ≤ n := by omega
      obtain ⟨c, hc⟩ : ∃ c, c = n + 1 - m := ⟨_, rfl⟩
      have ec : (n : Int) - m + 1 = c := by omega
      have hc0 : 0 < c := by omega
      have hcn : c ≤ n := by omega
      have HC := Kp.mk (show c = l.length + 1 - 2 ^ k by rw [HL.out, ← HM2.out]; exact hc)
      clear hc
      go_wp2_with (at_make; refine wpList_mk1 tInts rfl rfl _ _ rfl wo.heap.size c rfl rfl ?c1 (by decide) (Nat.le_refl _) ?c3)
      case c1 => omega
      case c3 =>
        intro ga gc w1 hown hbel
        obtain ⟨g, rfl, hg1, hg2⟩ := own_some hown hc0
        have HO := Kp.mk (show w1.ownsRow wo.heap.size 3 1 (.slice (some ⟨g, 0, none⟩) c gc) c (ints (rowK l k 0)) from by
          rw [rowK_zero, ← HC.out]; simpa [ints] using hown)
        have HBL := Kp.mk hbel
        clear hown hbel
        go_wp2
        go_loopw [26] (fun i wq => ∃ j : Nat, j ≤ c ∧ i = .int .i64 j ∧ Kp (wq.ownsRow wo.heap.size 3 1 (.slice (some ⟨g, 0, none⟩) c gc) c (ints (rowK l k j))) ∧ Kp (Below wo.heap.size wo wq)) (fun i _ => c - (intOf i).toNat)
        case atStart => exact ⟨0, Nat.zero_le _, rfl, HO, HBL⟩
        case round =>
          clear HO HBL
          obtain ⟨j, hj, rfl, HO, HBQ⟩ := hrel
          have hjl := Kp.mk (show (rowK l k j).length = c by rw [rowK_length l k j (by rw [← HC.out]; exact hj), ← HC.out])
          have HMQ := Kp.mk (HM.out.keep HBQ.out hBw)
          by_cases hlt : j < c
          · have hst := Kp.mk (rowK_set l k j (by rw [← HC.out]; exact hlt))
            have cj : wr.cell? ⟨g, j, none⟩ = some (.int .i64 ((rowK l k j).getD j 0)) := by
              rw [HO.out.cellAt j (by omega), List.getElem?_eq_getElem (by rw [ints_length, hjl.out]; exact hlt), ints_get, getD_at _ _ (by rw [hjl.out]; exact hlt)]
            have fj : wr.frozen? ⟨g, j, none⟩ = false := HO.out.frozenAt j
            generalize (rowK l k j).getD j 0 = vj at *
            have hji : (j : Int) < c := by omega
            cases k with
            | zero =>
              have hm1 : m = 1 := by have := HM2.out; simpa using this
              subst hm1
              have HO1 := Kp.mk (show (wr.setCell ⟨g, j, none⟩ (.int .i64 j)).ownsRow wo.heap.size 3 1 (.slice (some ⟨g, 0, none⟩) c gc) c (ints (rowK l 0 (j + 1))) from by
                have h2 := (HO.out.stored j (.int .i64 j)).1
                rw [ints_set] at h2
                have := hst.out
                rw [Nat.pow_zero, tix_one] at this
                rwa [this] at h2)
              have HB1 := Kp.mk (HBQ.out.setCell (p := ⟨g, j, none⟩) hg1 (.int .i64 j))
              go_wp2
              go_roundw
              case rel => exact ⟨j + 1, by omega, by go_num, HO1, HB1⟩
              case measure => simp [intOf]; omega
            | succ k =>
              obtain ⟨m', hm'⟩ : ∃ m', m' = 2 ^ k := ⟨_, rfl⟩
              have hmm : m = m' + m' := by rw [HM2.out, Nat.pow_succ, ← hm']; omega
              have hm1 : 0 < m' := by omega
              have hm2 : (m : Int) / 2 = m' := by omega
              have HM' := Kp.mk hm'
              have hm3 : 1 < m := by omega
              have hm4 : (1 : Int) < m := by omega
              have hm5 : decide ((1 : Int) < m) = true := decide_eq_true hm4
              have hD := HM.out.dlen
              have hkD : k < ((rowsT l).take (k + 1)).length := by omega
              obtain ⟨bs, os, ra, rc, hso, cs, hR⟩ := HM.out.rows.at k hkD
              obtain ⟨gs, rfl, _, _⟩ := own_some HM.out.own (by omega)
              simp only [Option.some.injEq, Addr.mk.injEq, and_true] at hso
              obtain ⟨rfl, rfl⟩ := hso
              have eD : ((rowsT l).take (k + 1))[k] = rowT l k := by rw [List.getElem_take, rowsT_get]
              have eL : (rowT l k).length = c + m' := by rw [rowT_length, HC.out, ← HM2.out, hmm, ← hm', HL.out]; omega
              rw [eD] at cs hR
              rw [eL, Nat.zero_add] at cs
              have HR := Kp.mk hR
              have HSR := Kp.mk hR
              have EL' := Kp.mk eL
              have EL := Kp.mk eL
              have HBW := Kp.mk (HBQ.out.setCell (p := ⟨g, j, none⟩) hg1 (.int .i64 j))
              have HOW := Kp.mk ((HO.out.stored j (.int .i64 j)).1)
              have HSW := Kp.mk (H.out.below (HB.out ▸ HM.out.hb.trans (HBW.out.mono hBw)))
              have HRW := Kp.mk (HR.out.below HBW.out)
              have csr : wr.cell? ⟨gs, k, none⟩ = some (.slice ra (c + m') rc) := by
                rw [HBQ.out.cell (p := ⟨gs, k, none⟩) (World.block_lt_of_cell? wo _ cs)]; exact cs
              have hgs : gs ≠ g := by
                have := World.block_lt_of_cell? wo _ cs
                simp at this; omega
              have htw := Kp.mk (tix_two l k j)
              have hp : 0 < 2 ^ k := Nat.pow_pos (by omega)
              have hx := tix_bd l j (2 ^ k) hp
              have hy := tix_bd l (j + 2 ^ k) (2 ^ k) hp
              rw [← HM'.out] at htw hx hy
              rw [← HM2.out] at hst
              rw [show tix l j m = if at0 l (tix l j m') < at0 l (tix l (j + m') m') then tix l (j + m') m' else tix l j m' by rw [htw.out, HM2.out]] at hst
              obtain ⟨br, or, rfl, cx⟩ := HRW.out.at j (by rw [EL.out]; omega)
              obtain ⟨br', or', hbr, cy⟩ := HRW.out.at (j + m') (by rw [EL.out]; omega)
              simp only [Option.some.injEq, Addr.mk.injEq, and_true] at hbr
              obtain ⟨rfl, rfl⟩ := hbr
              rw [rowT_get, ← HM'.out] at cx cy
              have hmn2 : j + m' + m' ≤ n := by have := HC.out; rw [HL.out, ← HM2.out] at this; omega
              generalize tix l j m' = x at *
              generalize tix l (j + m') m' = y at *
              have CT := Kp.mk (fun w' hs => top_any a cap n x y l w' hs HL.out (by omega) (by omega) (by omega))
              have fW : (wr.setCell ⟨g, j, none⟩ (.int .i64 j)).frozen? ⟨g, j, none⟩ = false := by rw [World.frozen?_setCell]; exact fj
              have cW : (wr.setCell ⟨g, j, none⟩ (.int .i64 j)).cell? ⟨g, j, none⟩ = some (.int .i64 j) := World.cell?_setCell_same' _ _ _ (by rw [cj]; rfl)
              generalize (if at0 l x < at0 l y then y else x) = z at *
              have hx1 := hx.2
              have hy1 := hy.2
              obtain ⟨q, hq⟩ : ∃ q, q = c + m' := ⟨_, rfl⟩
              rw [← hq] at csr
              have hjq : (j : Int) < q := by omega
              have hjm : (j : Int) + m' < q := by omega
              have hj0 : (0 : Int) ≤ j := by omega
              have hjm0 : (0 : Int) ≤ (j : Int) + m' := by omega
              have hjw : IntKind.i64.wrap ((j : Int) + m') = (j : Int) + m' := IntWalk.i64_in _ (by omega)
              have hjt : ((j : Int) + m').toNat = j + m' := by omega
              have hq1 : (m : Int).tdiv 2 = m' := by rw [Int.tdiv_eq_ediv_of_nonneg (by omega)]; omega
              have hq2 : IntKind.i64.wrap (m' : Int) = m' := IntWalk.i64_in _ (by omega)
              clear hq
              clear cs htw hx hy hp hm2 HM' HR HRW HO HBQ HMQ
              have hm2 : (m : Int) / 2 = m' := by omega
              clear hm' hmm hD hkD eD eL hR EL
              go_wp2
              generalize wr.setCell ⟨g, j, none⟩ (.int .i64 j) = W at *
              have nb : br ≠ g := by
                have := SlC.blt HSR.out (by rw [ints_length, EL'.out]; omega)
                simp at this; omega
              go_region_held3 (fun w' => w'.cell? ⟨br, or + j, none⟩ = some (.int .i64 x) ∧ w'.cell? ⟨br, or + (j + m'), none⟩ = some (.int .i64 y))
                (first | exact ⟨cx, cy⟩ | exact ⟨(World.cell?_setCell_far _ _ _ _ (by simpa using nb.symm)).trans cx, (World.cell?_setCell_far _ _ _ _ (by simpa using nb.symm)).trans cy⟩)
                ((go_at_call 51; refine (CT.out W.drew (HSW.out.below ((Below.refl _ W).drew))).mono ?_; rintro e w' ⟨rfl, nd, rfl⟩))
              have HB1 := Kp.mk ((below_drewN HBW.out (1 + nd)).setCell (p := ⟨g, j, none⟩) hg1 (.int .i64 z))
              have HO1 := Kp.mk (show ((W.drewN (1 + nd)).setCell ⟨g, j, none⟩ (.int .i64 z)).ownsRow wo.heap.size 3 1 (.slice (some ⟨g, 0, none⟩) c gc) c (ints (rowK l (k + 1) (j + 1))) from by
                have h2 := ((show (W.drewN (1 + nd)).ownsRow wo.heap.size 3 1 (.slice (some ⟨g, 0, none⟩) c gc) c ((ints (rowK l (k + 1) j)).set j (.int .i64 j)) from HOW.out).stored j (.int .i64 z)).1
                rw [List.set_set, ints_set, hst.out] at h2
                exact h2)
              go_wp2
              go_roundw
              case rel => exact ⟨j + 1, by omega, by go_num, HO1, HB1⟩
              case measure => simp [intOf]; omega
          · obtain rfl : j = c := by omega
            have HRW := Kp.mk (show SlI wr (some ⟨g, 0, none⟩) gc (rowT l k) from by
              have h2 := HO.out
              rw [show rowK l k j = rowT l k by rw [HC.out]; exact rowK_all l k] at h2
              exact own_sl_len h2 (by rw [rowT_length]; exact HC.out.symm))
            have HTL := Kp.mk (show (rowT l k).length = j from by rw [rowT_length]; exact HC.out.symm)
            have HTK := Kp.mk (show (rowsT l).take (k + 1) = (rowsT l).take k ++ [rowT l k] from rowsT_take l k (by rw [HL.out, ← HK.out]; exact hkK))
            have HSO := Kp.mk (fun q (hq : blk so = some q) => show q ≠ g by
              have := (own_lt HM.out.own q hq).2; omega)
            have hsq : B ≤ wr.heap.size := Nat.le_trans hBw HBQ.out.size
            have HM4 := Kp.mk (show m * 2 = 2 ^ (k + 1) from by rw [Nat.pow_succ, HM2.out])
            clear HO HBQ
            go_wp2_with (at_builtin; refine wpList_pushS tRows rfl _ _ rfl B _ _ _ _ rfl HMQ.out.own 1 _ rfl rfl ?d1 ?d2 (by decide) hsq ?d4)
            case d1 => simp [Value.oneCell']
            case d2 => omega
            case d4 =>
              intro so' sc' w3 hown3 hg3 hno3
              have HNEW := Kp.mk (HMQ.out.push HRW.out HTL.out hc0 HSO.out hsq hown3 hg3 hno3)
              rw [← HTK.out] at HNEW
              clear hown3 hg3 hno3
              go_wp2
              go_roundw
              case rel => exact ⟨k + 1, m * 2, so', sc', _, by omega, HM4, by omega, by omega, by first | rfl | go_num, rfl, HNEW⟩
              case measure => simp [intOf]; omega
    · have hkK : k = K := by
        apply Classical.byContradiction
        intro hne
        have := lvl_le n k (by rw [← HK.out]; omega)
        rw [← HM2.out] at this
        omega
      subst hkK
      have hmi : (n : Int) < m := by omega
      have hrows := Kp.mk HM.out.rows
      rw [List.take_of_length_le (by rw [rowsT_length, HL.out, HK.out]; exact Nat.le_refl _)] at hrows
      go_wp2
      go_ret2
      exact ⟨so, sc, rfl, hrows.out, HB.out ▸ HM.out.hb⟩

end Go.Proofs.Ytnieacfleabikaa
