/- Spans: the walk of Rooms. -/
import Derived.Test.YtlmdlholmlbcbaaSmV
import Derived.Test.YtlmdlholmlbcbaaStM
namespace Go.Proofs.Ytlmdlholmlbcbaa
set_option linter.unusedVariables false
open Go.RowKit

theorem int_at {w : World} {g c n : Nat} {X : List Int} {B : Nat} (h : w.ownsRow B 3 1 (.slice (some ⟨g, 0, none⟩) n c) n (ints X)) (hl : X.length = n) (i : Nat) (hi : i < n) : w.cell? ⟨g, i, none⟩ = some (.int .i64 (X.getD i 0)) := by
  rw [h.cellAt i (by omega)]
  simp only [ints, List.getElem?_map]
  rw [List.getElem?_eq_getElem (by omega), getD_at _ _ (by omega)]
  rfl
theorem grown_step {wo wr w' : World} {r r' : Option Nat} (h : wo.grownBy wr r) (k : wr.grownBy w' r') (hr : ∀ q, r' = some q → wo.heap.size ≤ q ∨ r = some q) : wo.grownBy w' r :=
  ⟨k.os.trans h.os, k.tape.trans h.tape, k.output.trans h.output, Nat.le_trans h.size k.size, fun i hi hne => by
    refine (k.block i (Nat.lt_of_lt_of_le hi h.size) (fun e => ?_)).trans (h.block i hi hne)
    rcases hr i e.symm with h1 | h1
    · omega
    · exact hne h1.symm⟩

set_option maxRecDepth 100000 in
set_option maxHeartbeats 1000000 in
theorem roomsFn_any (b1 b2 : Nat) (a : Option Addr) (cap n i : Nat) (x : Int) (L : List Spn) (w : World) (h : SlF spL 2 w a n cap L) (h1 : w.cell? ⟨b1, 0, none⟩ = some (.slice a n cap)) (h2 : w.cell? ⟨b2, 0, none⟩ = some (.int .i64 (i : Int))) (hi : i < n) :
    Calls Try.prog 48 #[.int .i64 x, .pointer (some ⟨b1, 0, none⟩), .pointer (some ⟨b2, 0, none⟩)] w fun e w' => e = .returned (.bool (decide (x < (L.getD i sp0).lo))) ∧ w = w' := by
  obtain ⟨b, off, rfl, x0, x1⟩ := sp_at h i hi
  generalize L.getD i sp0 = s at *
  obtain ⟨r, hr⟩ : ∃ r, decide (x < s.lo) = r := ⟨_, rfl⟩
  have HR := Kp.mk hr
  rw [hr]
  clear h
  go_enter Try.func48, Try.ntmps48
  go_wp2
  go_ret
  exact ⟨rfl, rfl⟩

set_option maxRecDepth 100000 in
set_option maxHeartbeats 2000000 in
theorem roomsIx_any (b1 b2 : Nat) (a ea : Option Addr) (cap n i ec m : Nat) (E : List Int) (L : List Spn) (w : World) (h : SlF spL 2 w a n cap L) (h1 : w.cell? ⟨b1, 0, none⟩ = some (.slice a n cap)) (h2 : w.cell? ⟨b2, 0, none⟩ = some (.int .i64 (i : Int))) (hi : i < n)
    (hE : SlI w ea ec E) (hm : E.length = m) (hm2 : m ≤ 1000) :
    Calls Try.prog 47 #[.slice ea m ec, .func (.func 48) #[] #[.pointer (some ⟨b1, 0, none⟩), .pointer (some ⟨b2, 0, none⟩)]] w fun e w' => w = w' ∧
      ((∃ r : Nat, e = .returned (.int .i64 r) ∧ r < m ∧ Kp (E.getD r 0 < (L.getD i sp0).lo)) ∨ (e = .returned (.int .i64 (-1)) ∧ Kp (∀ r, r < m → (L.getD i sp0).lo ≤ E.getD r 0))) := by
  have eg : ∀ args w, (callFunc 48 args).run Try.prog w = .ok (.enter 48 args) w := enters_of Try.func48 (by kernel_rfl) rfl
  have CF := Kp.mk (fun x => roomsFn_any b1 b2 a cap n i x L w h h1 h2 hi)
  have HE := Kp.mk hE
  have HM := Kp.mk hm
  generalize (L.getD i sp0).lo = y at *
  clear h h1 h2 hE hm
  go_enter Try.func47, Try.ntmps47
  go_wp2
  go_loop [8] (fun i => ∃ k : Nat, k ≤ m ∧ i = .int .i64 k ∧ Kp (∀ r, r < k → y ≤ E.getD r 0)) (fun i => m - (intOf i).toNat)
  case atStart => exact ⟨0, Nat.zero_le _, rfl, ⟨fun r hr => by omega⟩⟩
  case round =>
    obtain ⟨k, hk, rfl, HK⟩ := hrel
    by_cases hlt : k < m
    · have hkE : k < E.length := by rw [HM.out]; exact hlt
      obtain ⟨b, off, rfl, c0⟩ := SlI.at HE.out k hkE
      rw [← getD_at E 0 hkE] at c0
      have HY := Kp.mk (show E.getD k 0 = E.getD k 0 from rfl)
      obtain ⟨x, hx⟩ : ∃ x, E.getD k 0 = x := ⟨_, rfl⟩
      rw [hx] at c0
      have HX := Kp.mk hx
      clear hx hkE HY
      by_cases hd : x < y
      · have C := Kp.mk (CF.out x)
        rw [decide_eq_true hd] at C
        have HD := Kp.mk hd
        clear hd
        go_wp2_with (go_at_fn 48; refine C.out.mono ?_; rintro e w' ⟨rfl, rfl⟩)
        go_ret
        exact ⟨rfl, .inl ⟨k, rfl, hlt, ⟨show E.getD k 0 < y by rw [HX.out]; exact HD.out⟩⟩⟩
      · have C := Kp.mk (CF.out x)
        rw [decide_eq_false hd] at C
        have HD := Kp.mk (Int.not_lt.1 hd)
        clear hd
        go_wp2_with (go_at_fn 48; refine C.out.mono ?_; rintro e w' ⟨rfl, rfl⟩)
        go_round
        case rel => exact ⟨k + 1, by omega, by go_num, ⟨fun r hr => by
          by_cases e : r = k
          · rw [e]; show y ≤ E.getD k 0; rw [HX.out]; exact HD.out
          · exact HK.out r (by omega)⟩⟩
        case measure => simp [intOf]; omega
    · obtain rfl : k = m := by omega
      go_wp2
      go_ret
      exact ⟨rfl, .inr ⟨rfl, HK⟩⟩

set_option maxRecDepth 100000 in
set_option maxHeartbeats 8000000 in
theorem rooms_any (a : Option Addr) (cap n : Nat) (L : List Spn) (w : World) (h : SlF spL 2 w a n cap L) (hn : n ≤ 100) (h0 : 0 < n) (hO : ∀ p ∈ L, p.Ok) :
    Calls Try.prog 21 #[.slice a n cap] w fun e w' => ∃ ra rc out, e = .returned (.tuple #[.slice ra n rc, .int .i64 0]) ∧ Kp (w'.ownsRow w.heap.size 3 1 (.slice ra n rc) n (ints (out.map Int.ofNat))) ∧ Kp (IsRooms L n out) ∧ Below w.heap.size w w' := by
  have egL : ∀ args w, (callFunc 46 args).run Try.prog w = .ok (.enter 46 args) w := enters_of Try.func46 (by kernel_rfl) rfl
  have hl := h.len spL_len (by omega)
  have HLL := Kp.mk hl
  obtain ⟨ka, hka, hka2⟩ := SlC.lt h (by rw [flat_length spL_len]; omega)
  have HOk := Kp.mk (show ∀ i, i < n → (L.getD i sp0).lo ≤ (L.getD i sp0).hi ∧ -1048576 ≤ (L.getD i sp0).lo ∧ (L.getD i sp0).hi ≤ 1048576 from fun i hi => by
    have := hO (L.getD i sp0) (by rw [getD_at _ _ (by omega : i < L.length)]; exact List.getElem_mem _)
    unfold Spn.Ok at this
    omega)
  have hA1 := below_alloc (Nat.le_refl w.heap.size) (.cells #[.slice a n cap] 23)
  have HX1 := Kp.mk (Box.new w #[.slice a n cap] 23)
  have HS1 := Kp.mk (SlF.below h hA1)
  have HB1 := Kp.mk hA1
  obtain ⟨b1, hb1⟩ : ∃ b1, b1 = w.heap.size := ⟨_, rfl⟩
  have CC := Kp.mk (fun W H => scheck_any a cap n L W H hn hO)
  clear h hO hl hA1
  go_enter Try.func21, Try.ntmps21
  go_upto_region 1 with (fail)
  rw [← hb1] at HX1
  simp only [← hb1]
  generalize hw1 : w.alloc (.cells #[.slice a n cap] 23) = w1 at *
  have c1 : w1.cell? ⟨b1, 0, none⟩ = some (.slice a n cap) := HX1.out.cell 0 rfl
  have HBE := Kp.mk hb1
  clear hb1
  have HS := Kp.mk (fun W (H : Below w1.heap.size w1 W) => SlF.below HS1.out H)
  have CL := Kp.mk (fun W (H : Below w1.heap.size w1 W) => places_any 46 Spn.lo low_any egL a cap n L W (HS.out W H) (by omega) h0)
  go_wp2_with fail
  refine (CC.out _ HS1.out).mono ?_
  rintro e w2 ⟨rfl, HB2⟩
  have HX2 := Kp.mk (HX1.out.below HB2.out)
  have c2 : w2.cell? ⟨b1, 0, none⟩ = some (.slice a n cap) := HX2.out.cell 0 rfl
  have hsz2 : w.heap.size ≤ w2.heap.size := Nat.le_trans HB1.out.size HB2.out.size
  have hb1w : b1 < w1.heap.size := HX1.out.lt
  clear c1 hw1 CC
  go_wp2_with (at_make; refine wpList_mk1 tInts (show Value.cells (.int .i64 0) = #[.int .i64 0] by rfl) rfl _ _ rfl w2.heap.size n rfl rfl ?c1 (by decide) (Nat.le_refl _) ?c2)
  case c1 => omega
  case c2 =>
    intro ra rc w3 hown3 hbel3
    have HR3 := Kp.mk hown3
    have HB3 := Kp.mk (below_step HB2.out hbel3)
    have HX3 := Kp.mk (HX1.out.below HB3.out)
    have c3 : w3.cell? ⟨b1, 0, none⟩ = some (.slice a n cap) := HX3.out.cell 0 rfl
    obtain ⟨go, rfl, hgo, hgo2⟩ := own_some hown3 h0
    clear hown3 hbel3 c2 HX2
    go_wp2_with fail
    refine (CL.out w3 HB3.out).mono ?_
    rintro e w4 ⟨ta, tc, M, rfl, HM, HR4, hb4⟩
    obtain ⟨gt, rfl, hgt, hgt2⟩ := own_some HR4.out h0
    have HB4 := Kp.mk (below_step HB3.out hb4)
    have HX4 := Kp.mk (HX1.out.below HB4.out)
    have HS4 := Kp.mk (HS.out w4 HB4.out)
    have HRo := Kp.mk (own_below HR3.out hb4)
    have hgot : go ≠ gt := by omega
    have hgob : go ≠ b1 := by have := HB2.out.size; omega
    have hgoa : go ≠ ka := by omega
    have hML : M.length = n := by have := HM.out.1.length_eq; rw [List.length_range] at this; exact this
    have HML := Kp.mk hML
    have HMn := Kp.mk (show ∀ k, k < n → M.getD k 0 < n from fun k hk => by
      rw [getD_at _ _ (by omega : k < M.length)]
      exact List.mem_range.1 (HM.out.1.mem_iff.1 (List.getElem_mem _)))
    have hgo4 : go < w4.heap.size := by have := hb4.size; omega
    have hb14 : b1 < w4.heap.size := HX4.out.lt
    have hka4 : ka < w4.heap.size := by have := HB4.out.size; omega
    clear hb4 c3 HX3 HR3 HB3 CL HS hML
    obtain ⟨wo, rfl⟩ : ∃ wo : World, wo = w4 := ⟨_, rfl⟩
    go_wp2
    go_loopw [6, 21] (fun xe xi wr => ∃ (k m : Nat) (out : List Nat) (E : List Int) (ea : Option Addr) (ec : Nat), k ≤ n ∧ m ≤ k ∧ xi = .int .i64 k ∧ xe = .slice ea m ec ∧ Kp (RInv L M n k out E) ∧ Kp (E.length = m) ∧ Kp (wr.ownsRow w2.heap.size 3 1 (.slice (some ⟨go, 0, none⟩) n rc) n (ints (out.map Int.ofNat))) ∧ Kp (wr.ownsRow wo.heap.size 3 1 (.slice ea m ec) m (ints E)) ∧ Kp (wo.grownBy wr (some go))) (fun _ i _ => n - (intOf i).toNat)
    case atStart => exact ⟨0, 0, List.replicate n 0, [], none, 0, Nat.zero_le _, Nat.le_refl _, rfl, rfl, ⟨rinv_zero L M n⟩, ⟨rfl⟩, ⟨by have := HRo.out; simpa [ints] using this⟩, ⟨World.ownsRow_nil _ _ _ _⟩, ⟨grown_refl _ _⟩⟩
    case round =>
      obtain ⟨k, m, out, E, ea, ec, hk, hmk, rfl, rfl, HI, HEL, HO, HE, HG⟩ := hrel
      by_cases hlt : k < n
      · have c0 := nat_at (own_keep HR4.out HG.out (fun q hq e => by simp [blk] at e hq; omega)) HML.out k hlt
        have hin := HMn.out k hlt
        obtain ⟨i, hi⟩ : ∃ i, M.getD k 0 = i := ⟨_, rfl⟩
        rw [hi] at c0 hin
        have HII := Kp.mk hi
        have hoi := HOk.out i hin
        have hkM : k < M.length := by rw [HML.out]; exact hlt
        have HNEW := Kp.mk (fun hE => rinv_new hkM hi HM.out.1 HM.out.2 HI.out hE hoi.1)
        have HOLD := Kp.mk (fun r hr hE => rinv_step (r := r) hkM hi HM.out.1 HI.out hr hE hoi.1)
        clear hi hkM
        have hSr := SlC.keep HS4.out HG.out (fun q hq => by simp only [Option.some.injEq] at hq; rw [hka]; intro e; simp only [Option.some.injEq] at e; omega)
        have hcb : wr.cell? ⟨b1, 0, none⟩ = some (.slice a n cap) := (HG.out.cell (HX4.out.cell 0 rfl : wo.cell? ⟨b1, 0, none⟩ = some (.slice a n cap)) (by intro e; simp at e; omega))
        obtain ⟨o, ho⟩ : ∃ o : Obj, o = .cells #[.int .i64 (i : Int)] 3 := ⟨_, rfl⟩
        have hA := below_alloc (Nat.le_refl wr.heap.size) o
        have HSA := Kp.mk (SlC.below hSr hA)
        have hcbA : (wr.alloc o).cell? ⟨b1, 0, none⟩ = some (.slice a n cap) := (hA.cell (p := ⟨b1, 0, none⟩) (World.block_lt_of_cell? _ _ hcb)).trans hcb
        have hcnA : (wr.alloc o).cell? ⟨wr.heap.size, 0, none⟩ = some (.int .i64 (i : Int)) := by rw [ho]; exact (Box.new wr #[.int .i64 (i : Int)] 3).cell 0 rfl
        have HOA := Kp.mk (own_below HO.out hA)
        have HEA := Kp.mk (own_below HE.out hA)
        have HGA := Kp.mk (grown_step HG.out (grown_of_below (r := none) hA) (fun q hq => by cases hq))
        have hlE := own_lt HE.out
        have hwr := HG.out.size
        have CI := Kp.mk (roomsIx_any b1 wr.heap.size a ea cap n i ec m E L (wr.alloc o) HSA.out hcbA hcnA hin (sl_len (own_slc HEA.out) HEL.out) HEL.out (by omega))
        have HLE := Kp.mk hlE
        rw [ho] at CI
        clear hSr hA hcb hlE
        go_wp2_with fail
        refine CI.out.mono ?_
        rintro e w' ⟨rfl, hc⟩
        rw [← ho]
        have hsz1 : (wr.alloc o).heap.size = wr.heap.size + 1 := by simp
        obtain ⟨b8, hb8⟩ : ∃ b8, b8 = wr.heap.size := ⟨_, rfl⟩
        rw [← hb8] at hcnA hsz1
        simp only [← hb8]
        obtain ⟨b, off, ea1, x0, x1⟩ := sp_at HSA.out i hin
        have hbk : b = ka := by rw [ea1] at hka; simp [blk] at hka; exact hka
        subst ea1
        subst hbk
        clear CI HE HO HG x0
        obtain ⟨hh, hhi⟩ : ∃ hh, (L.getD i sp0).hi = hh := ⟨_, rfl⟩
        rw [hhi] at x1 HNEW HOLD
        clear hhi
        generalize wr.alloc o = w5 at *
        have HLEB := Kp.mk (show ∀ q, blk ea = some q → wo.heap.size ≤ q ∧ q < b8 from fun q hq => by have := HLE.out q hq; omega)
        have hb8o : wo.heap.size ≤ b8 := by omega
        have hszW : wo.heap.size ≤ w5.heap.size := by omega
        have hb8w : b8 < w5.heap.size := by omega
        clear HLE hb8 ho hwr hsz1
        rcases hc with ⟨r, rfl, hr, HX⟩ | ⟨rfl, HX⟩
        · have HN := Kp.mk (HOLD.out r (by rw [HEL.out]; exact hr) HX.out)
          obtain ⟨ge, rfl, hge1, hge2⟩ := own_some HEA.out (by omega)
          obtain ⟨hge3, hge4⟩ := HLEB.out ge rfl
          have y1 := int_at HEA.out HEL.out r hr
          have f1 := HEA.out.frozenAt r
          clear HNEW HOLD HX
          have c5 := nat_at HOA.out HI.out.len i hin
          have f5 := HOA.out.frozenAt i
          have hgg : ge ≠ go := by omega
          have hg8 : ge ≠ b8 := by omega
          have HO7 := Kp.mk (show ((w5.setCell ⟨ge, r, none⟩ (.int .i64 hh)).setCell ⟨go, i, none⟩ (.int .i64 (r : Int))).ownsRow w2.heap.size 3 1 (.slice (some ⟨go, 0, none⟩) n rc) n (ints ((out.set i r).map Int.ofNat)) from by
            have h1 := own_keep HOA.out (grown_set w5 ge r (.int .i64 hh)) (fun q hq e => by simp [blk] at e hq; omega)
            have h2 := (h1.stored i (.int .i64 (r : Int))).1
            rw [natrow_set] at h2
            exact h2)
          have HE7 := Kp.mk (show ((w5.setCell ⟨ge, r, none⟩ (.int .i64 hh)).setCell ⟨go, i, none⟩ (.int .i64 (r : Int))).ownsRow wo.heap.size 3 1 (.slice (some ⟨ge, 0, none⟩) m ec) m (ints (E.set r hh)) from by
            have h1 := (HEA.out.stored r (.int .i64 hh)).1
            rw [ints_set] at h1
            exact own_keep h1 (grown_set _ go i (.int .i64 (r : Int))) (fun q hq e => by simp [blk] at e hq; omega))
          have HG7 := Kp.mk (show wo.grownBy ((w5.setCell ⟨ge, r, none⟩ (.int .i64 hh)).setCell ⟨go, i, none⟩ (.int .i64 (r : Int))) (some go) from
            grown_step (grown_step HGA.out (grown_set w5 ge r (.int .i64 hh)) (fun q hq => by simp only [Option.some.injEq] at hq; omega)) (grown_set _ go i (.int .i64 (r : Int))) (fun q hq => .inr hq))
          have HL7 := Kp.mk (show (E.set r hh).length = m by rw [List.length_set]; exact HEL.out)
          go_wp2
          go_roundw
          case rel => exact ⟨k + 1, m, out.set i r, E.set r hh, _, ec, by omega, by omega, by go_num, rfl, HN, HL7, HO7, HE7, HG7⟩
          case measure => simp [intOf]; omega
        · have HN := Kp.mk (HNEW.out (fun r hr => HX.out r (by rw [← HEL.out]; exact hr)))
          rw [HEL.out] at HN
          clear HNEW HOLD HX
          go_wp2_with (at_builtin; refine wpList_pushS tInts rfl _ _ rfl wo.heap.size ea m ec _ rfl HEA.out 1 _ rfl rfl ?d1 ?d2 (by decide) (by omega) ?d4)
          case d1 => simp [Value.oneCell']
          case d2 => omega
          case d4 =>
            intro ea' ec' w6 ho6 hg6 hno6
            obtain ⟨ge, rfl, hge1, hge2⟩ := own_some ho6 (by omega)
            have hne1 : blk ea ≠ some go := fun e => by have := HLEB.out go e; omega
            have hne2 : blk ea ≠ some b8 := fun e => by have := HLEB.out b8 e; omega
            have hne3 : blk ea ≠ some b1 := fun e => by have := HLEB.out b1 e; omega
            have hne4 : blk ea ≠ some b := fun e => by have := HLEB.out b e; omega
            have hgo8 : ge ≠ b8 := by
              rcases hno6 with h | ⟨q, h1, h2⟩
              · intro e; subst e; exact hne2 h.symm
              · simp [blk] at h1; omega
            have hgg : ge ≠ go := by omega
            have d1 : w6.cell? ⟨b1, 0, none⟩ = some (.slice (some ⟨b, off, none⟩) n cap) := hg6.cell hcbA (fun e => hne3 e.symm)
            have d2 : w6.cell? ⟨b8, 0, none⟩ = some (.int .i64 (i : Int)) := hg6.cell hcnA (fun e => hne2 e.symm)
            have d3 : w6.cell? ⟨b, off + i * 2 + 1, none⟩ = some (.int .i64 hh) := hg6.cell x1 (fun e => hne4 e.symm)
            have HO6 := Kp.mk (own_keep HOA.out hg6 (fun q hq e => by simp [blk] at e; subst e; exact hne1 hq))
            have HE6 := Kp.mk (show w6.ownsRow wo.heap.size 3 1 (.slice (some ⟨ge, 0, none⟩) (m + 1) ec') (m + 1) (ints (E ++ [0])) from by rw [ints_append]; exact ho6)
            have HG6 := Kp.mk (grown_step HGA.out hg6 (fun q hq => .inl (HLEB.out q hq).1))
            have HEL6 := Kp.mk (show (E ++ [0]).length = m + 1 by rw [List.length_append, HEL.out]; rfl)
            clear ho6 hg6 hno6 hcbA hcnA x1 HOA HEA HGA HLEB
            have y1 := int_at HE6.out HEL6.out m (by omega)
            have f1 := HE6.out.frozenAt m
            have c5 := nat_at HO6.out HI.out.len i hin
            have f5 := HO6.out.frozenAt i
            have hset : (E ++ [0]).set m hh = E ++ [hh] := by
              rw [List.set_append_right _ _ (by rw [HEL.out]; exact Nat.le_refl _), HEL.out, Nat.sub_self]; rfl
            have HO7 := Kp.mk (show ((w6.setCell ⟨ge, m, none⟩ (.int .i64 hh)).setCell ⟨go, i, none⟩ (.int .i64 (m : Int))).ownsRow w2.heap.size 3 1 (.slice (some ⟨go, 0, none⟩) n rc) n (ints ((out.set i m).map Int.ofNat)) from by
              have h1 := own_keep HO6.out (grown_set w6 ge m (.int .i64 hh)) (fun q hq e => by simp [blk] at e hq; omega)
              have h2 := (h1.stored i (.int .i64 (m : Int))).1
              rw [natrow_set] at h2
              exact h2)
            have HE7 := Kp.mk (show ((w6.setCell ⟨ge, m, none⟩ (.int .i64 hh)).setCell ⟨go, i, none⟩ (.int .i64 (m : Int))).ownsRow wo.heap.size 3 1 (.slice (some ⟨ge, 0, none⟩) (m + 1) ec') (m + 1) (ints (E ++ [hh])) from by
              have h1 := (HE6.out.stored m (.int .i64 hh)).1
              rw [ints_set, hset] at h1
              exact own_keep h1 (grown_set _ go i (.int .i64 (m : Int))) (fun q hq e => by simp [blk] at e hq; omega))
            have HG7 := Kp.mk (show wo.grownBy ((w6.setCell ⟨ge, m, none⟩ (.int .i64 hh)).setCell ⟨go, i, none⟩ (.int .i64 (m : Int))) (some go) from
              grown_step (grown_step HG6.out (grown_set w6 ge m (.int .i64 hh)) (fun q hq => by simp only [Option.some.injEq] at hq; omega)) (grown_set _ go i (.int .i64 (m : Int))) (fun q hq => .inr hq))
            have HL7 := Kp.mk (show (E ++ [hh]).length = m + 1 by rw [List.length_append, HEL.out]; rfl)
            clear hset
            go_wp2
            go_roundw
            case rel => exact ⟨k + 1, m + 1, out.set i m, E ++ [hh], _, ec', by omega, by omega, by go_num, rfl, HN, HL7, HO7, HE7, HG7⟩
            case measure => simp [intOf]; omega
      · obtain rfl : k = n := by omega
        have HLAW := Kp.mk (rooms_law h0 HM.out.1 HI.out)
        have HBE := Kp.mk (show Below w.heap.size w wr from (below_step HB1.out HB4.out).trans (grown_below HG.out (below_step HB1.out HB4.out).size (fun q hq => by simp only [Option.some.injEq] at hq; omega)))
        go_wp2
        go_ret2
        exact ⟨_, _, out, rfl, ⟨own_base HO.out hsz2⟩, HLAW, HBE.out⟩

end Go.Proofs.Ytlmdlholmlbcbaa
