import Derived.Test.YtladgklnacihkaaGreatMg21
import Derived.Test.YtladgklnacihkaaGreatGrdH
/- Package grid: the walk of Top. -/
namespace Go.Proofs.YtladgklnacihkaaGreat
set_option linter.unusedVariables false
open Go.RowKit
open Hp (Ord HeapF nlt)

theorem hv_len {X : List Nat} {m : Nat} (h : X.length = m) {hb B : Nat} {sa : Option Addr} {cap : Nat} {a : Option Addr} {n acap : Nat} {L : List Pt} {w0 W : World} (h1 : HvM hb B sa m cap a n acap L X W) (h2 : KeepH hb sa w0 W) (h3 : m ≤ 900) : HvI hb B sa cap a n acap L w0 X W := by
  unfold HvI; rw [h]; exact ⟨h1, h2, h3⟩

def slLen : Value → Nat
  | .slice _ n _ => n
  | _ => 0

set_option maxRecDepth 100000 in
set_option maxHeartbeats 8000000 in
theorem gTop_any (a : Option Addr) (cap n : Nat) (L : List Pt) (X0 Y0 X1 Y1 : Int) (k : Nat) (w : World) (h : SlF ptL 3 w a n cap L) (hn : n ≤ 150) (hN : ∀ p ∈ L, p.Near) (ha : ∀ q, blk a = some q → q < w.heap.size) (hk : k ≤ 1000) :
    Calls Tryz.prog 12 #[.slice a n cap, .agg #[.int .i64 X0, .int .i64 Y0, .int .i64 X1, .int .i64 Y1], .int .i64 (k : Int)] w fun e w' => ∃ ra m rc out, e = .returned (.tuple #[.slice ra m rc, .int .i64 0]) ∧ Kp (out.length = m ∧ ∃ rep, IsRep L X0 Y0 X1 Y1 rep ∧ IsTop (wtL L) rep k out) ∧ Kp (w'.ownsRow w.heap.size 3 1 (.slice ra m rc) m (ints (out.map Int.ofNat))) ∧ Kp (Below w.heap.size w w') := by
  have HA := Kp.mk (below_alloc (Nat.le_refl w.heap.size) (.cells #[.int .i64 X0, .int .i64 Y0, .int .i64 X1, .int .i64 Y1] 30))
  have HBX := Kp.mk (Box.new w #[.int .i64 X0, .int .i64 Y0, .int .i64 X1, .int .i64 Y1] 30)
  have H1 := Kp.mk (SlF.below h HA.out)
  obtain ⟨w1, hw1⟩ : ∃ w1, w.alloc (.cells #[.int .i64 X0, .int .i64 Y0, .int .i64 X1, .int .i64 Y1] 30) = w1 := ⟨_, rfl⟩
  rw [hw1] at HA HBX H1
  have CR := Kp.mk (gReport_any a cap n L X0 Y0 X1 Y1 w1 H1.out hn hN)
  have HLL := Kp.mk (h.len ptL_len (by omega))
  have HAB := Kp.mk ha
  have x0 : w1.cell? ⟨w.heap.size, 0, none⟩ = some (.int .i64 X0) := HBX.out.cell 0 rfl
  have x1 : w1.cell? ⟨w.heap.size, 1, none⟩ = some (.int .i64 Y0) := HBX.out.cell 1 rfl
  have x2 : w1.cell? ⟨w.heap.size, 2, none⟩ = some (.int .i64 X1) := HBX.out.cell 2 rfl
  have x3 : w1.cell? ⟨w.heap.size, 3, none⟩ = some (.int .i64 Y1) := HBX.out.cell 3 rfl
  clear h hN ha
  go_enter Tryz.func12, Tryz.ntmps12
  go_upto_region 1 with (fail)
  try rw [hw1]
  clear hw1
  go_wp2_with fail
  refine CR.out.mono ?_
  rintro e w2 ⟨ra, m, rc, rep, rfl, HIR, HOW, HB2⟩
  obtain ⟨hir, hrl, hmn⟩ := HIR.out
  have HIR2 := Kp.mk hir
  have HRL := Kp.mk (show rep.length = m ∧ rep.length = cntR L X0 Y0 X1 Y1 from ⟨hrl, hir.len⟩)
  have HPS2 := Kp.mk (SlF.below H1.out HB2.out)
  have HBB2 := Kp.mk (below_step HA.out HB2.out)
  have hz1 : w.heap.size ≤ w1.heap.size := HA.out.size
  have hz2 : w1.heap.size ≤ w2.heap.size := HB2.out.size
  have hal := below_alloc (Nat.le_refl w2.heap.size) (.cells #[.slice ra m rc, .slice a n cap] 64)
  have HM := Kp.mk (show HvM w2.heap.size w1.heap.size ra m rc a n cap L rep (w2.alloc (.cells #[.slice ra m rc, .slice a n cap] 64)) from
    ⟨Box.new w2 _ _, own_below HOW.out hal, SlF.below HPS2.out hal, fun x hx => by have := ((hir.mem x).1 hx).1; rw [HLL.out] at this; exact this, hrl,
      fun q hq e => by have h1 := HAB.out q e; have h2 := (own_lt HOW.out q hq).1; omega, fun e => by have h1 := HAB.out _ e; omega⟩)
  have HRA := Kp.mk (fun q (hq : blk ra = some q) => own_lt HOW.out q hq)
  have HBB3 := Kp.mk (below_step HBB2.out hal)
  obtain ⟨hb, hhb⟩ : ∃ hb, w2.heap.size = hb := ⟨_, rfl⟩
  have HSZ3 := Kp.mk (show (w2.alloc (.cells #[.slice ra m rc, .slice a n cap] 64)).heap.size = hb + 1 by rw [alloc_size, hhb])
  obtain ⟨w3, hw3⟩ : ∃ w3, w2.alloc (.cells #[.slice ra m rc, .slice a n cap] 64) = w3 := ⟨_, rfl⟩
  obtain ⟨B, hB⟩ : ∃ B, w1.heap.size = B := ⟨_, rfl⟩
  rw [hw3, hhb, hB] at HM
  rw [hw3] at HBB3 HSZ3
  rw [hhb, hB] at HRA
  rw [hB] at hz1
  rw [hB, hhb] at hz2
  have CI := Kp.mk (hinit_any (hvV hb) (nlt (wtL L)) (HvI hb B ra rc a n cap L w3) (wt_ord _) (hops hb B ra rc a n cap L w3 (by omega)) rep m w3 (hv_len hrl HM.out (KeepH.refl _ _ _) (by omega)) hrl (by omega))
  have hkz : ¬ ((k : Int) < 0) := by omega
  have HHB := Kp.mk hhb
  clear hir hrl hal HIR HOW HPS2 HBB2 HB2 H1 HA HBX CR x0 x1 x2 x3 hB hhb HM
  go_upto_region 7 with (fail)
  try simp only [HHB.out]
  try rw [hw3]
  clear hw3 HHB
  go_wp2_with fail
  refine CI.out.mono ?_
  rintro e w4 ⟨rfl, X, HX, HI⟩
  obtain ⟨hxp, hxh⟩ := HX.out
  have hxl : X.length = m := by rw [hxp.length_eq]; exact HRL.out.1
  have HTI := Kp.mk (top_start (far := wtL L) HIR2.out.nodup hxp)
  have HHF := Kp.mk hxh
  have HV4 := Kp.mk (show HvM hb B ra m rc a n cap L X w4 from by have h1 := HI.out.1; rw [hxl] at h1; exact h1)
  have HB4 := Kp.mk (HBB3.out.trans (HI.out.2.1.to (r := w.heap.size) (by omega) (fun q hq => by have := (HRA.out q hq).1; omega) (by rw [HSZ3.out]; omega)))
  have HSZ4 := Kp.mk (show hb + 1 ≤ w4.heap.size from by have := HI.out.2.1.size; rw [HSZ3.out] at this; exact this)
  have HXL := Kp.mk hxl
  clear hxp hxh hxl HX HI HBB3 CI HSZ3
  obtain ⟨wo, rfl⟩ : ∃ wo : World, wo = w4 := ⟨_, rfl⟩
  go_wp2
  go_loopw [11] (fun v11 wr => ∃ (j mm : Nat) (oa : Option Addr) (oc : Nat) (X Out : List Nat), j ≤ k ∧ mm ≤ m ∧ v11 = .slice oa j oc ∧ Kp (Out.length = j ∧ X.length = mm) ∧ Kp (TopInv (wtL L) rep Out X) ∧ Kp (HeapF (nlt (wtL L)) X mm 0) ∧ Kp (HvM hb B ra mm rc a n cap L X wr) ∧ Kp (wr.ownsRow wo.heap.size 3 1 (.slice oa j oc) j (ints (Out.map Int.ofNat))) ∧ Kp (Below w.heap.size w wr) ∧ Kp (wo.heap.size ≤ wr.heap.size)) (fun v11 _ => k - slLen v11)
  case atStart => exact ⟨0, m, none, 0, X, [], Nat.zero_le _, Nat.le_refl _, rfl, ⟨rfl, HXL.out⟩, HTI, HHF, HV4, ⟨World.ownsRow_nil _ _ _ _⟩, HB4, ⟨Nat.le_refl _⟩⟩
  case round =>
    clear HTI HHF HV4 HB4 HXL
    obtain ⟨j, mm, oa, oc, X, Out, hjk, hmm, rfl, HLN, HTI, HHF, HV, HO, HB, HWZ⟩ := hrel
    by_cases hj : j < k
    · have hjz : (j : Int) < k := by omega
      have hc0 := HV.out.bx.cell 0 rfl
      go_wp2_with fail
      refine (hlen_any hb #[] ra mm rc _ hc0).mono ?_
      rintro e w' ⟨rfl, rfl⟩
      by_cases hm0 : 0 < mm
      · have hmz : (0 : Int) < mm := by omega
        obtain ⟨q, rfl⟩ : ∃ q, mm = q + 1 := ⟨mm - 1, by omega⟩
        have CP := Kp.mk (hpop_any (hvV hb) (nlt (wtL L)) hvE (fun _ => False) (HvI hb B ra rc a n cap L wr) (wt_ord _) (hops hb B ra rc a n cap L wr (by omega)) (hends hb B ra rc a n cap L wr) X q wr (hv_len HLN.out.2 HV.out (KeepH.refl _ _ _) (by omega)) HLN.out.2 (by omega) HHF.out)
        have HTS := Kp.mk (fun X' hp => top_step HTI.out HLN.out.2 HHF.out (X' := X') hp)
        have HCL := Kp.mk (fun q hq => (own_lt HO.out q hq).1)
        generalize X.getD 0 0 = r at *
        have hta : ∀ w, (Instr.typeAssert (.iface 3 (.int .i64 (r : Int))) 20 3 false).run Tryz.prog w = .ok (.int .i64 (r : Int)) w := fun _ => by kernel_rfl
        clear hc0 HHF
        go_wp2_with fail
        refine CP.out.mono ?_
        rintro e w6 ⟨rfl, X', HX', HI'⟩
        obtain ⟨hp', hh'⟩ := HX'.out
        have hxl' : X'.length = q := by have := hp'.length_eq; have := HLN.out.2; simp at *; omega
        have HT' := Kp.mk (HTS.out X' hp')
        have HH' := Kp.mk hh'
        have HV6 := Kp.mk (show HvM hb B ra q rc a n cap L X' w6 from by have h1 := HI'.out.1; rw [hxl'] at h1; exact h1)
        have HO6 := Kp.mk (HI'.out.2.1.own HO.out (fun e => by have h1 := HCL.out _ e; have := HSZ4.out; omega) (fun q hq e => by have h1 := HCL.out _ e; have h2 := (HRA.out q hq).2; have := HSZ4.out; omega))
        have HB6 := Kp.mk (HB.out.trans (HI'.out.2.1.to (r := w.heap.size) (by omega) (fun q hq => by have := (HRA.out q hq).1; omega) (by have := HB.out.size; omega)))
        have HW6 := Kp.mk (Nat.le_trans HWZ.out HI'.out.2.1.size)
        have HL' := Kp.mk (show (Out ++ [r]).length = j + 1 ∧ X'.length = q from ⟨by rw [List.length_append, HLN.out.1]; rfl, hxl'⟩)
        clear hp' hh' hxl' HX' HI' HTS HTI HV HO HB CP HLN HWZ
        unfold hvE
        have hw6 := HW6.out
        go_wp2_with (at_builtin; refine wpList_pushS tInts (by rfl) _ _ (by rfl) wo.heap.size oa j oc _ (by rfl) HO6.out 1 _ (by rfl) (by rfl) ?d1 ?d2 (by decide) hw6 ?d4)
        case d1 => simp [Value.oneCell']
        case d2 => omega
        case d4 =>
          intro sa3 sc3 w7 hown3 hgr3 hno3
          have HO7 := Kp.mk (show w7.ownsRow wo.heap.size 3 1 (.slice sa3 (j + 1) sc3) (j + 1) (ints ((Out ++ [r]).map Int.ofNat)) from by
            rw [List.map_append, ints_append]; exact hown3)
          have HV7 := Kp.mk (show HvM hb B ra q rc a n cap L X' w7 from ⟨box_grow HV6.out.bx hgr3 (fun e => by have h1 := HCL.out _ e; have := HSZ4.out; omega), own_keep HV6.out.own hgr3 (fun q hq e => by have h1 := HCL.out _ hq; have h2 := (HRA.out q e).2; have := HSZ4.out; omega), SlC.keep HV6.out.ps hgr3 (fun q hq e => by have h1 := HCL.out _ hq; have h2 := HAB.out _ e; have := HSZ4.out; omega), HV6.out.lt, HV6.out.len, HV6.out.ag, HV6.out.ah⟩)
          have HB7 := Kp.mk (HB6.out.trans (below_of_grown hgr3 (by have := HSZ4.out; omega) (fun q hq => by have h1 := HCL.out _ hq; have := HSZ4.out; omega)))
          have HW7 := Kp.mk (Nat.le_trans HW6.out hgr3.size)
          clear hown3 hgr3 hno3 HO6 HV6 HB6 HW6 hw6
          go_wp2
          go_roundw
          case rel => exact ⟨j + 1, q, sa3, sc3, X', Out ++ [r], by omega, by omega, rfl, HL', HT', HH', HV7, HO7, HB7, HW7⟩
          case measure => simp [slLen]; omega
      · have hmz : ¬ (0 : Int) < mm := by omega
        have hmz2 : (mm : Int) ≤ 0 := by omega
        have HE := Kp.mk (top_end HTI.out (k := k) (by rw [HLN.out.1]; exact hjk) (.inr (by rw [HLN.out.2]; omega)))
        go_wp2
        refine bodyPost_ret (v := .tuple #[.slice oa j oc, .int .i64 0]) (by simp [results, Tryz.results12, go_sem]) rfl ?_
        exact ⟨oa, j, oc, Out, rfl, ⟨HLN.out.1, rep, HIR2.out, HE.out⟩, ⟨own_base HO.out (by have := HSZ4.out; omega)⟩, HB⟩
    · have hjz : ¬ (j : Int) < k := by omega
      have HE := Kp.mk (top_end HTI.out (k := k) (by rw [HLN.out.1]; exact hjk) (.inl (by rw [HLN.out.1]; exact hj)))
      go_wp2
      refine bodyPost_ret (v := .tuple #[.slice oa j oc, .int .i64 0]) (by simp [results, Tryz.results12, go_sem]) rfl ?_
      exact ⟨oa, j, oc, rfl, Out, ⟨HLN.out.1, rep, HIR2.out, HE.out⟩, ⟨own_base HO.out (by have := HSZ4.out; omega)⟩, HB⟩

end Go.Proofs.YtladgklnacihkaaGreat

