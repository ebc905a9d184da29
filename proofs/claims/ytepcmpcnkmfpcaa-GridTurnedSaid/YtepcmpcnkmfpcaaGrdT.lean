/- GridTurned: the walk. -/
import Derived.Test.YtepcmpcnkmfpcaaGrdG
import Derived.Test.YtepcmpcnkmfpcaaRectOf
import Derived.Test.YtepcmpcnkmfpcaaFlatIn
namespace Go.Proofs.Ytepcmpcnkmfpcaa
set_option linter.unusedVariables false
open Go.RowKit

/-- A point, X and Y changed with each other. -/
def sw (p : Pt) : Pt := ⟨p.y, p.x, p.w⟩
/-- The first k points from the place t on, round and round, the last one first, each turned. -/
def turnK (L : List Pt) (n t k : Nat) : List Pt := ((List.range k).map fun i => sw (L.getD ((i + t) % n) pt0)).reverse
theorem turnK_succ (L : List Pt) (n t k : Nat) : turnK L n t (k + 1) = sw (L.getD ((k + t) % n) pt0) :: turnK L n t k := by
  unfold turnK
  rw [List.range_succ, List.map_append, List.reverse_append]; rfl
theorem turnK_length (L : List Pt) (n t k : Nat) : (turnK L n t k).length = k := by simp [turnK]
theorem turnK_zero (L : List Pt) (n t : Nat) : turnK L n t 0 = [] := rfl
theorem round_list' (L : List Pt) (n t : Nat) (hn : L.length = n) (ht : t ≤ n) : (List.range n).map (fun i => L.getD ((i + t) % n) pt0) = L.drop t ++ L.take t := by
  apply List.ext_getElem
  · simp; omega
  · intro i h1 h2
    have hi : i < n := by simpa using h1
    rw [List.getElem_map, List.getElem_range]
    by_cases h : i + t < n
    · rw [Nat.mod_eq_of_lt h, List.getElem_append_left (by rw [List.length_drop]; omega), List.getElem_drop, getD_at _ _ (by omega)]
      congr 1; omega
    · rw [List.getElem_append_right (by rw [List.length_drop]; omega), List.getElem_take, Nat.mod_eq_sub_mod (by omega), Nat.mod_eq_of_lt (by omega), getD_at _ _ (by omega)]
      congr 1
      rw [List.length_drop]; omega
theorem turn_law (L : List Pt) (n t : Nat) (hn : L.length = n) (ht : t ≤ n) (X0 Y0 X1 Y1 : Int) : cntR (turnK L n t n) Y0 X0 Y1 X1 = cntR L X0 Y0 X1 Y1 := by
  have e1 : ((List.range n).map fun i => sw (L.getD ((i + t) % n) pt0)) = (L.drop t ++ L.take t).map sw := by
    rw [← round_list' L n t hn ht, List.map_map]; rfl
  have e2 : (L.drop t ++ L.take t).Perm L := by
    have := List.take_append_drop t L
    exact List.perm_append_comm.trans (by rw [this])
  unfold cntR turnK
  rw [e1, List.countP_reverse, List.countP_map, e2.countP_eq]
  congr 1
  funext p
  unfold inR sw
  rw [Bool.eq_iff_iff]
  simp
  omega
theorem turnK_near (L : List Pt) (n t k : Nat) (h : ∀ p ∈ L, p.Near) (hn : L.length = n) (h0 : k ≤ n) : ∀ p ∈ turnK L n t k, p.Near := by
  intro p hp
  unfold turnK at hp
  rw [List.mem_reverse] at hp
  obtain ⟨i, hi, rfl⟩ := List.mem_map.1 hp
  have hi' := List.mem_range.1 hi
  have hm : (i + t) % n < n := Nat.mod_lt _ (by omega)
  have := h (L.getD ((i + t) % n) pt0) (by rw [getD_at _ _ (by omega)]; exact List.getElem_mem _)
  unfold Pt.Near sw at *
  dsimp only
  omega
attribute [irreducible] turnK
attribute [local irreducible] cntR

theorem spt_at {w : World} {a : Option Addr} {n cap : Nat} {L : List Pt} (h : SlF ptL 3 w a n cap L) (i : Nat) (hi : i < n) :
    ∃ b off, a = some ⟨b, off, none⟩ ∧ w.cell? ⟨b, off + i * 3, none⟩ = some (.int .i64 (L.getD i pt0).x) ∧ w.cell? ⟨b, off + i * 3 + 1, none⟩ = some (.int .i64 (L.getD i pt0).y) ∧ w.cell? ⟨b, off + i * 3 + 2, none⟩ = some (.int .i64 (L.getD i pt0).w) := by
  have hl := h.len ptL_len (by omega)
  obtain ⟨b, off, ha, hb, hc⟩ := h.at ptL_len (by omega) i (by omega)
  rw [← getD_at L pt0 (by omega)] at hc
  exact ⟨b, off, ha, hc 0 (by omega), hc 1 (by omega), hc 2 (by omega)⟩

set_option maxRecDepth 100000 in
set_option maxHeartbeats 8000000 in
theorem walk_GridTurned (a0 : Option Addr) (len0 cap0 : Nat) (z0 : List Int) (a1 a2 a3 a4 a5 : Int) (w : World) (w0 : IsFlat 3 w a0 len0 cap0 z0) (w1 : (Lit.int .i64 a1).wf = true) (w2 : (Lit.int .i64 a2).wf = true) (w3 : (Lit.int .i64 a3).wf = true) (w4 : (Lit.int .i64 a4).wf = true) (w5 : (Lit.int .i64 a5).wf = true) :
    Calls Try.prog 4 #[.slice a0 len0 cap0, .int .i64 a1, .int .i64 a2, .int .i64 a3, .int .i64 a4, .int .i64 a5] w fun e w' => e = .returned (.bool true) ∧ Below w.heap.size w w' := by
  obtain ⟨S, hS, wS, nS⟩ := spots_in w0
  obtain ⟨i1, i2⟩ := wf_bd w5
  have C1 := Kp.mk (points_any a0 cap0 len0 80 20 S w hS (by unfold maxLen at nS; omega) (by omega) (by omega) (by omega) wS)
  have CR := Kp.mk (fun W => rectOf_any a1 a2 a3 a4 20 W (by omega) (by omega) w1 w2 w3 w4)
  have HSL := Kp.mk (hS.len ptL_len (by omega))
  clear w0 hS wS w1 w2 w3 w4 w5
  go_enter Try.func4, Try.ntmps4
  go_wp2_with fail
  refine C1.out.mono ?_
  rintro e w1 ⟨sa, sc, n, rfl, HR, HO, hb1⟩
  have HB1 := Kp.mk hb1
  have hn80 : n ≤ 80 := by have := HR.out; rw [ptsOf_length] at this; omega
  have HBD := Kp.mk (ptsOf_bd S 80 20 (by omega))
  have HP1 := Kp.mk (show SlF ptL 3 w1 sa n sc (ptsOf S 80 20) from own_slc HO.out)
  generalize ptsOf S 80 20 = L at *
  clear hb1 C1 HO
  go_wp2_with fail
  refine (CR.out _).mono ?_
  rintro e w2 ⟨X0, Y0, X1, Y1, hx, hx1, hy, hy1, rfl, hb2⟩
  have b14 := Box.new w2 #[.int .i64 X0, .int .i64 Y0, .int .i64 X1, .int .i64 Y1] 26
  have hbA : Below w2.heap.size w2 (w2.alloc (.cells #[.int .i64 X0, .int .i64 Y0, .int .i64 X1, .int .i64 Y1] 26)) := below_alloc (Nat.le_refl _) _
  have HB3 := Kp.mk (below_step (below_step HB1.out hb2) hbA)
  have HP3 := Kp.mk (SlF.below (SlF.below HP1.out hb2) hbA)
  have HNR := Kp.mk (show ∀ p ∈ L, p.Near from fun p hp => by
    have := HBD.out p hp; unfold Pt.Near; omega)
  clear CR HP1 HB1 hb2 hbA
  generalize hbk : w2.heap.size = bk at *
  generalize hW : w2.alloc (.cells #[.int .i64 X0, .int .i64 Y0, .int .i64 X1, .int .i64 Y1] 26) = W at *
  have HBX := Kp.mk b14
  clear b14
  go_wp2
  clear hbk hW
  obtain ⟨t, ht⟩ : ∃ t : Nat, t = (pick a5 n).toNat := ⟨_, rfl⟩
  have HT := Kp.mk (show 0 < n → pick a5 n = (t : Int) ∧ t < n from fun h => by
    have := pick_bd a5 n (by omega); omega)
  clear ht
  obtain ⟨wo, rfl⟩ : ∃ wo : World, wo = W := ⟨_, rfl⟩
  go_loopw [15, 16] (fun x i wr => ∃ (k : Nat) (ra : Option Addr) (rc : Nat), k ≤ n ∧ i = .int .i64 k ∧ x = .slice ra k rc ∧ Kp (SlF ptL 3 wr ra k rc (turnK L n t k)) ∧ Kp (Below wo.heap.size wo wr)) (fun _ i _ => n - (intOf i).toNat)
  case atStart => exact ⟨0, none, 0, Nat.zero_le _, rfl, rfl, ⟨by rw [turnK_zero]; exact own_slc (World.ownsRow_nil wo 0 0 3)⟩, ⟨Below.refl _ _⟩⟩
  case round =>
    obtain ⟨k, ra, rc, hk, rfl, rfl, HX, HB⟩ := hrel
    by_cases hlt : k < n
    · obtain ⟨ht1, ht2⟩ := HT.out (by omega)
      have CP := Kp.mk (fun W => ht1 ▸ picked_any a5 n W (by omega) (by omega) i1 i2)
      obtain ⟨q, hq⟩ : ∃ q, q = (k + t) % n := ⟨_, rfl⟩
      have hqn : q < n := by rw [hq]; exact Nat.mod_lt _ (by omega)
      have em : ((k : Int) + t).tmod n = (q : Int) := by
        rw [hq, show (k : Int) + t = ((k + t : Nat) : Int) by omega]
        exact (Int.ofNat_tmod _ _).symm
      have HTS := Kp.mk (turnK_succ L n t k)
      rw [← hq] at HTS
      obtain ⟨pb, po, rfl, p0, p1, p2⟩ := spt_at (SlF.below HP3.out HB.out) q hqn
      generalize L.getD q pt0 = p at *
      have ew : IntKind.i64.wrap ((k : Int) + t) = (k : Int) + t := IntWalk.i64_in _ (by omega)
      have ew2 : IntKind.i64.wrap (q : Int) = (q : Int) := IntWalk.i64_in _ (by omega)
      have hqz : (q : Int) < n := by omega
      have hn0 : ¬ (n : Int) = 0 := by omega
      have hbel : Below wr.heap.size wr (wr.alloc (.cells #[.int .i64 p.x, .int .i64 p.y, .int .i64 p.w] 30)) := below_alloc (Nat.le_refl _) _
      have hnew := Box.new wr #[.int .i64 p.x, .int .i64 p.y, .int .i64 p.w] 30
      have c0 : (wr.alloc (.cells #[.int .i64 p.x, .int .i64 p.y, .int .i64 p.w] 30)).cell? ⟨wr.heap.size, 0, none⟩ = some (.int .i64 p.x) := hnew.cell 0 rfl
      have c1 : (wr.alloc (.cells #[.int .i64 p.x, .int .i64 p.y, .int .i64 p.w] 30)).cell? ⟨wr.heap.size, 1, none⟩ = some (.int .i64 p.y) := hnew.cell 1 rfl
      have c2 : (wr.alloc (.cells #[.int .i64 p.x, .int .i64 p.y, .int .i64 p.w] 30)).cell? ⟨wr.heap.size, 2, none⟩ = some (.int .i64 p.w) := hnew.cell 2 rfl
      have HXA := Kp.mk (SlF.below HX.out hbel)
      have HBA := Kp.mk (HB.out.trans (hbel.mono HB.out.size))
      generalize hWA : wr.alloc (.cells #[.int .i64 p.x, .int .i64 p.y, .int .i64 p.w] 30) = WA at *
      have hlit := World.ownsRow_lit (base := WA.heap.size) (size := 3) (e := 30) WA #[.int .i64 p.y, .int .i64 p.x, .int .i64 p.w] 1 (Nat.le_refl _) (by decide) rfl
      have HLT := Kp.mk hlit
      have hbl2 := below_alloc (Nat.le_refl WA.heap.size) (.cells #[.int .i64 p.y, .int .i64 p.x, .int .i64 p.w] 30)
      have HXB := Kp.mk (SlF.below HXA.out hbl2)
      have HBL2 := Kp.mk hbl2
      have hszl : WA.heap.size ≤ (WA.alloc (.cells #[.int .i64 p.y, .int .i64 p.x, .int .i64 p.w] 30)).heap.size := hbl2.size
      clear hq ht1 hbel hnew hlit hbl2
      go_wp2_with fail
      refine (CP.out _).mono ?_
      rintro e w' ⟨rfl, rfl⟩
      go_wp2_with (at_builtin; refine wpList_cat tPts rfl _ _ rfl WA.heap.size _ 1 1 _ rfl HLT.out ra k rc _ rfl HXB.out (flat_one ptL_one _) ?d1 (by decide) hszl ?d4)
      case d1 => omega
      case d4 =>
        intro ya yc w5 ho5 hb5
        have HX5 := Kp.mk (show SlF ptL 3 w5 ya (k + 1) yc (turnK L n t (k + 1)) from by
          rw [HTS.out]
          have e : flat ptL (sw p :: turnK L n t k) = [.int .i64 p.y, .int .i64 p.x, .int .i64 p.w] ++ flat ptL (turnK L n t k) := by simp [flat, ptL, sw]
          have h5 := own_slc ho5
          rw [Nat.add_comm 1 k] at h5
          unfold SlF
          rw [e]
          exact h5)
        have HB5 := Kp.mk (HBA.out.trans ((HBL2.out.trans hb5).mono HBA.out.size))
        rw [Nat.add_comm 1 k]
        clear ho5 hb5 c0 c1 c2 hWA
        go_wp2
        go_roundw
        case rel => exact ⟨k + 1, ya, yc, by omega, by go_num, rfl, HX5, HB5⟩
        case measure => simp [intOf]; omega
    · obtain rfl : k = n := by omega
      obtain ⟨t', ht'⟩ : ∃ t', t' ≤ k ∧ turnK L k t k = turnK L k t' k := by
        rcases Nat.eq_zero_or_pos k with e | e
        · subst e
          exact ⟨0, Nat.le_refl _, by rw [turnK_zero, turnK_zero]⟩
        · exact ⟨t, by have := (HT.out e).2; omega, rfl⟩
      have HLN := Kp.mk (HP3.out.len ptL_len (by omega))
      have HLAW := Kp.mk (show cntR (turnK L k t k) Y0 X0 Y1 X1 = cntR L X0 Y0 X1 Y1 from by rw [ht'.2]; exact turn_law L k t' HLN.out ht'.1 X0 Y0 X1 Y1)
      have HNT := Kp.mk (turnK_near L k t k HNR.out HLN.out (Nat.le_refl _))
      have HPr := Kp.mk (SlF.below HP3.out HB.out)
      have hbx := HBX.out.below HB.out
      have HBr := Kp.mk (below_step HB3.out HB.out)
      have l0 := later_cell (show wr.cell? ⟨bk, 0, none⟩ = some (.int .i64 X0) from hbx.cell 0 rfl)
      have l1 := later_cell (show wr.cell? ⟨bk, 1, none⟩ = some (.int .i64 Y0) from hbx.cell 1 rfl)
      have l2 := later_cell (show wr.cell? ⟨bk, 2, none⟩ = some (.int .i64 X1) from hbx.cell 2 rfl)
      have l3 := later_cell (show wr.cell? ⟨bk, 3, none⟩ = some (.int .i64 Y1) from hbx.cell 3 rfl)
      generalize turnK L k t k = M at *
      obtain ⟨u, hu⟩ : ∃ u, u = cntR L X0 Y0 X1 Y1 := ⟨_, rfl⟩
      have C1 := Kp.mk (show ∀ x : Later wr, Calls Try.prog 15 #[.slice sa k sc, .agg #[.int .i64 X0, .int .i64 Y0, .int .i64 X1, .int .i64 Y1]] x.val (fun e w' => e = .returned (.int .i64 (u : Nat)) ∧ Below x.val.heap.size x.val w') from fun x => by rw [hu]; exact counted_any sa sc k L X0 Y0 X1 Y1 x.val (SlF.below HPr.out x.le) (by omega) HNR.out)
      have C2 := Kp.mk (show ∀ x : Later wr, Calls Try.prog 15 #[.slice ra k rc, .agg #[.int .i64 Y0, .int .i64 X0, .int .i64 Y1, .int .i64 X1]] x.val (fun e w' => e = .returned (.int .i64 (u : Nat)) ∧ Below x.val.heap.size x.val w') from fun x => by rw [hu, ← HLAW.out]; exact counted_any ra rc k M Y0 X0 Y1 X1 x.val (SlF.below HX.out x.le) (by omega) HNT.out)
      have CG := Kp.mk (fun (x : Later wr) => gridSure_any x.val)
      clear hu HLAW hbx
      go_wp2
      refine region_later (by kernel_rfl) (by kernel_rfl) ?_
      iterate 19 (go_big_quiet_step ((first | (go_at_call 16; exact q_later (CG.out _)) | (go_at_call 15; first | (with_reducible exact q_later (C1.out _)) | (with_reducible exact q_later (C2.out _))))))
      refine wpQuiet_nil ?_
      rintro w' ⟨xl, rfl⟩
      have HB7 := Kp.mk (below_step HBr.out xl.le)
      clear l0 l1 l2 l3 C1 C2 CG
      go_wp2
      go_ret
      exact ⟨by simp, HB7.out⟩

end Go.Proofs.Ytepcmpcnkmfpcaa
