import Derived.Test.YtedchegejalolaaGreatDoorMb9
import Derived.Test.YtedchegejalolaaGreatDoorMb8
import Derived.Test.YtedchegejalolaaGreatDoorMb4
import Derived.Test.YtedchegejalolaaGreatDoorMb3
import Derived.Test.YtedchegejalolaaGreatDoorMb0
import Derived.Test.YtedchegejalolaaGreatDoorMb1
/- desk: load. -/
namespace Go.Proofs.YtedchegejalolaaGreatDoor.Dk
set_option linter.unusedVariables false
open Go.RowKit Qk

theorem digit_at (n : Nat) (h : n < 16) : Lib.indexByte digits (hexD n) = (n : Int) := by
  have : ∀ m : Fin 16, Lib.indexByte digits (hexD m.1) = (m.1 : Int) := by decide
  exact this ⟨n, h⟩
theorem hex_at (l : List Nat) (k : Nat) (h : k < l.length) : (hexT l)[2 * k]? = some (hexD (l[k] / 16)) ∧ (hexT l)[2 * k + 1]? = some (hexD (l[k] % 16)) := by
  have e : hexT l = hexT (l.take k) ++ ([hexD (l[k] / 16), hexD (l[k] % 16)] ++ hexT (l.drop (k + 1))) := by
    have h1 : l = l.take k ++ (l[k] :: l.drop (k + 1)) := by rw [List.getElem_cons_drop, List.take_append_drop]
    conv => lhs; rw [h1, hexT_append]
    congr 1
  have hl : (hexT (l.take k)).length = 2 * k := by rw [hexT_length, List.length_take]; omega
  rw [e]
  constructor
  · rw [List.getElem?_append_right (by omega), hl, Nat.sub_self]; rfl
  · rw [List.getElem?_append_right (by omega), hl, show 2 * k + 1 - 2 * k = 1 by omega]; rfl
theorem str_idx' (t : Wd) (k : Nat) (c : UInt8) (h : t[k]? = some c) (W : World) : (Instr.index 9 (str t) (.int .i64 k)).run Tryz.prog W = .ok (.int .u8 (c.toNat : Int)) W := by
  obtain ⟨h1, h2⟩ := List.getElem?_eq_some_iff.1 h
  have := str_idx t k h1 W
  rwa [h2] at this

theorem own_weak {w : World} {B B' e size n : Nat} {v : Value} {xs : List Value} (h : w.ownsRow B e size v n xs) (hB : B' ≤ B) : w.ownsRow B' e size v n xs := by
  refine ⟨h.1, ?_⟩
  rcases h.2 with h0 | ⟨g, cap, cur, hv, hB2, hr⟩
  · exact .inl h0
  · exact .inr ⟨g, cap, cur, hv, Nat.le_trans hB hB2, hr⟩

set_option maxRecDepth 100000 in
set_option maxHeartbeats 8000000 in
theorem load_hex (B db pc : Nat) (pa : Option Addr) (L : List Pt) (l : List Nat) (hb : ∀ x ∈ l, x < 256) (n : Nat) (hl : l.length = n) (hn : n ≤ 1000) (code : Int) (L0 : List Pt) (hL0 : L0.length ≤ 150) (w : World) (h : DS w B db pa pc L) (hB : B ≤ w.heap.size) (hT : ∀ W, Below B w W → Tab W)
    (C : ∀ (W : World) (a : Option Addr) (c : Nat), SlB W a n c l → Calls Tryz.prog 46 #[.slice a n c] W fun e w' => ∃ (ra : Option Addr) (m rc : Nat), e = .returned (.tuple #[.slice ra m rc, .int .i64 code]) ∧ Kp (code = 0 → m = L0.length ∧ w'.ownsRow W.heap.size 78 3 (.slice ra m rc) m (flat ptL L0)) ∧ Kp (Below W.heap.size W w')) :
    Calls Tryz.prog 28 #[.pointer (some ⟨db, 0, none⟩), str (hexT l)] w fun e w' => ∃ (pa' : Option Addr) (pc' : Nat), e = .returned (str (if code = 0 then toldT okW [(L0.length : Int)] else bad)) ∧ Kp (Out B db pa w w' (if code = 0 then L0 else L) pa' pc') := by
  have H := Kp.mk h
  have HT := Kp.mk hT
  have CL := Kp.mk C
  have HLT := Kp.mk hb
  have HL := Kp.mk hl
  have HX := Kp.mk (fun k (hk : k < l.length) => hex_at l k hk)
  have htl : (hexT l).length = 2 * n := by rw [hexT_length, hl]
  have hsz : (⟨(hexT l).toArray⟩ : ByteArray).size = 2 * n := by show (hexT l).toArray.size = 2 * n; simpa using htl
  obtain ⟨RS, hRS⟩ : ∃ r, (if code = 0 then toldT okW [(L0.length : Int)] else bad) = r := ⟨_, rfl⟩
  obtain ⟨LF, hLF⟩ : ∃ r, (if code = 0 then L0 else L) = r := ⟨_, rfl⟩
  rw [hRS, hLF]
  have HRS := Kp.mk hRS
  have HLF := Kp.mk hLF
  clear hRS hLF
  generalize hexT l = t at *
  have e1 : ((2 * n : Nat) : Int).tmod 2 = 0 := by rw [Int.tmod_eq_emod_of_nonneg (by omega)]; omega
  have e2 : ((2 * n : Nat) : Int) % 2 = 0 := by omega
  have e3 : (2 * (n : Int)).tmod 2 = 0 := by rw [Int.tmod_eq_emod_of_nonneg (by omega)]; omega
  have e4 : (2 * (n : Int)) % 2 = 0 := by omega
  clear h hT C hb hl htl
  go_enter Tryz.func28, Tryz.ntmps28
  go_wp2
  obtain ⟨w0, rfl⟩ : ∃ w0 : World, w0 = w := ⟨_, rfl⟩
  go_loopw [5, 6] (fun bv iv wr => ∃ (k : Nat) (oa : Option Addr) (oc : Nat), k ≤ n ∧ iv = .int .i64 (2 * (k : Int)) ∧ bv = .slice oa k oc ∧ Kp (wr.ownsRow w0.heap.size 5 1 (.slice oa k oc) k (byts (l.take k))) ∧ Kp (Below w0.heap.size w0 wr)) (fun _ iv _ => 2 * n - (intOf iv).toNat)
  case atStart => exact ⟨0, none, 0, Nat.zero_le _, rfl, rfl, ⟨World.ownsRow_nil _ _ _ _⟩, ⟨Below.refl _ _⟩⟩
  case round =>
    obtain ⟨k, oa, oc, hk, rfl, rfl, HO, HB⟩ := hrel
    by_cases hlt : k < n
    · have hkl : k < l.length := by rw [HL.out]; exact hlt
      obtain ⟨x1, x2⟩ := HX.out k hkl
      have hx := HLT.out _ (List.getElem_mem hkl)
      have HTK := Kp.mk (show byts (l.take (k + 1)) = byts (l.take k) ++ [.int .u8 (l[k] : Int)] from by rw [List.take_succ_eq_append_getElem hkl]; show List.map _ _ = _; rw [List.map_append]; rfl)
      generalize l[k] = x at *
      obtain ⟨q, hq⟩ : ∃ q, x / 16 = q := ⟨_, rfl⟩
      obtain ⟨s, hs⟩ : ∃ s, x % 16 = s := ⟨_, rfl⟩
      rw [hq] at x1
      rw [hs] at x2
      have i1 := fun W => show (Instr.index 9 (str t) (.int .i64 (2 * (k : Int)))).run Tryz.prog W = .ok (.int .u8 ((hexD q).toNat : Int)) W from by
        rw [show (2 : Int) * (k : Int) = ((2 * k : Nat) : Int) by omega]; exact str_idx' t _ _ x1 W
      have i2 := fun W => show (Instr.index 9 (str t) (.int .i64 (2 * (k : Int) + 1))).run Tryz.prog W = .ok (.int .u8 ((hexD s).toNat : Int)) W from by
        rw [show (2 : Int) * (k : Int) + 1 = ((2 * k + 1 : Nat) : Int) by omega]; exact str_idx' t _ _ x2 W
      have ei1 : IntKind.i64.wrap (2 * (k : Int) + 1) = 2 * (k : Int) + 1 := IntWalk.i64_in _ (by omega)
      have ei2 : IntKind.i64.wrap (2 * (k : Int) + 2) = 2 * (k : Int) + 2 := IntWalk.i64_in _ (by omega)
      have hq16 : q < 16 := by omega
      have hs16 : s < 16 := by omega
      have C1 := Kp.mk (fun W => Tryz.strings_IndexByte ⟨digits.toArray⟩ ((hexD q).toNat : Int) W)
      have C2 := Kp.mk (fun W => Tryz.strings_IndexByte ⟨digits.toArray⟩ ((hexD s).toNat : Int) W)
      rw [show ((((hexD q).toNat : Int)).toNat.toUInt8) = hexD q by simp, show Lib.indexByte (⟨digits.toArray⟩ : ByteArray).data.toList (hexD q) = (q : Int) from digit_at q hq16] at C1
      rw [show ((((hexD s).toNat : Int)).toNat.toUInt8) = hexD s by simp, show Lib.indexByte (⟨digits.toArray⟩ : ByteArray).data.toList (hexD s) = (s : Int) from digit_at s hs16] at C2
      have d1 : decide ((q : Int) < 0) = false := decide_eq_false (by omega)
      have d2 : decide ((s : Int) < 0) = false := decide_eq_false (by omega)
      have e5 : IntKind.i64.wrap ((q : Int) * 16) = ((q * 16 : Nat) : Int) := by
        rw [show (q : Int) * 16 = ((q * 16 : Nat) : Int) by omega]; exact IntWalk.i64_in _ (by omega)
      have e6 : bits BinOp.or IntKind.i64 ((q : Int) * 16) (s : Int) = (x : Int) := by
        have h1 := i64_or_nat (q * 16) s (by omega) (by omega)
        rw [show q * 16 = 2 ^ 4 * q by omega, ← Nat.two_pow_add_eq_or_of_lt hs16 q] at h1
        rw [show (q : Int) * 16 = ((2 ^ 4 * q : Nat) : Int) by omega, h1]; omega
      have e7 : IntKind.u8.wrap (x : Int) = (x : Int) := by unfold IntKind.wrap; simp [IntKind.bits, IntKind.signed]; omega
      clear x1 x2 hkl hq hs
      go_upto_region 7 with (fail)
      have C1L := Kp.mk (fun X : Later wr => show Calls Tryz.prog 45 #[.string ⟨digits.toArray⟩, .int .u8 ((hexD q).toNat : Int)] X.val (fun e w' => e = .returned (.int .i64 (q : Int)) ∧ Below X.val.heap.size X.val w') from (C1.out X.val).mono fun e w' ⟨he, hw⟩ => ⟨he, hw ▸ Below.refl _ _⟩)
      have C2L := Kp.mk (fun X : Later wr => show Calls Tryz.prog 45 #[.string ⟨digits.toArray⟩, .int .u8 ((hexD s).toNat : Int)] X.val (fun e w' => e = .returned (.int .i64 (s : Int)) ∧ Below X.val.heap.size X.val w') from (C2.out X.val).mono fun e w' ⟨he, hw⟩ => ⟨he, hw ▸ Below.refl _ _⟩)
      refine region_later (by kernel_rfl) (by kernel_rfl) ?_
      iterate 11 (go_big_quiet_step ((go_at_call 45; first | (exact q_later (C1L.out _)) | (exact q_later (C2L.out _)))))
      refine wpQuiet_nil ?_
      rintro w' ⟨xl, rfl⟩
      have HBX := Kp.mk (below_step HB.out xl.le)
      have HOX := Kp.mk (own_below HO.out xl.le)
      generalize xl.val = w4 at *
      clear i1 i2 C1 C2 C1L C2L HO HB
      have hs4 : w0.heap.size ≤ w4.heap.size := HBX.out.size
      go_wp2_with (at_builtin; refine wpList_pushS tBytes (by rfl) _ _ (by rfl) w0.heap.size oa k oc _ (by rfl) HOX.out 1 _ (by rfl) (by rfl) ?d1 ?d2 (by decide) hs4 ?d4)
      case d1 => rfl
      case d2 => omega
      case d4 =>
        intro oa2 oc2 w5 ho5 hg5 hn5
        have HO5 := Kp.mk (show w5.ownsRow w0.heap.size 5 1 (.slice oa2 (k + 1) oc2) (k + 1) (byts (l.take (k + 1))) from by rw [HTK.out]; simpa using ho5)
        have HB5 := Kp.mk (HBX.out.trans (below_of_grown hg5 hs4 (fun g hg => (own_lt HOX.out g hg).1)))
        clear ho5 hg5 hn5 HOX HBX HTK
        go_wp2
        go_roundw
        case rel => exact ⟨k + 1, oa2, oc2, by omega, by congr 1, rfl, HO5, HB5⟩
        case measure => simp [intOf]; omega
    · obtain rfl : k = n := by omega
      rw [List.take_of_length_le (by rw [HL.out]; exact Nat.le_refl _)] at HO
      have CLK := Kp.mk (CL.out wr oa oc (own_slb HO.out))
      have H1 := Kp.mk (H.out.below HB.out)
      go_wp2_with fail
      refine CLK.out.mono ?_
      rintro e w4 ⟨ra, m, rc, rfl, HR, HB4⟩
      have HBW := Kp.mk (below_step HB.out HB4.out)
      have hs4 : B ≤ w4.heap.size := Nat.le_trans hB HBW.out.size
      have H4 := Kp.mk (H1.out.below HB4.out)
      have hsr : w0.heap.size ≤ wr.heap.size := HB.out.size
      clear CLK CL HO HB H1 HX
      by_cases hc : code = 0
      · subst hc
        have hRS := HRS.out
        have hLF := HLF.out
        rw [if_pos rfl] at hRS hLF
        obtain ⟨hm, hrow⟩ := HR.out rfl
        obtain ⟨n0, hn0⟩ : ∃ n0, L0.length = n0 := ⟨_, rfl⟩
        rw [hn0] at hm hRS hL0
        subst hm
        have hbx := H4.out.box
        have k4 : w4.cell? ⟨db, 0, none⟩ = some (.slice pa L.length pc) := hbx.cell 0 rfl
        have f4 := hbx.free 0
        have hgs := grown_set w4 db 0 (.slice ra m rc)
        have hrB : w4.ownsRow B 78 3 (.slice ra m rc) m (flat ptL L0) := own_weak hrow (by omega)
        have HO := Kp.mk (show Out B db pa w0 (w4.setCell ⟨db, 0, none⟩ (.slice ra m rc)) L0 ra rc from by
          refine ⟨⟨?_, ?_, H4.out.lo⟩, (Chg.of_below HBW.out).same (Chg.of_grown hgs (fun k e => by cases e; exact .inl rfl)), fun k e => .inr (Nat.le_trans hsr (own_lt hrow k e).1)⟩
          · rw [hn0]
            have := box_put (i := 0) hbx (.slice ra m rc)
            simpa using this
          · rw [hn0]
            exact own_keep hrB hgs (fun k e e2 => by
              cases e
              exact TyAt.ne (w := w4) (e := 44) ⟨_, hbx⟩ (ty_own hrB e2).1 (by decide) rfl))
        have HB5 := Kp.mk (HO.out.chg.below hB (fun k e => show B ≤ k from by
          rcases e with rfl | e
          · exact H.out.lo
          · exact (own_lt H.out.row k e).1))
        obtain ⟨w5, hw5⟩ : ∃ w5, w4.setCell ⟨db, 0, none⟩ (.slice ra m rc) = w5 := ⟨_, rfl⟩
        rw [hw5] at HO HB5
        have HW5 := Kp.mk hw5
        have hal := below_alloc (Nat.le_refl w5.heap.size) (.cells #[.int .i64 (m : Int)] 3)
        have hB5 : B ≤ w5.heap.size := Nat.le_trans hB HO.out.chg.size
        have CT := Kp.mk (told_any okW (by decide) (some ⟨w5.heap.size, 0, none⟩) 1 1 [(m : Int)] (w5.alloc (.cells #[.int .i64 (m : Int)] 3)) (own_slc (B := 0) (e := 3) ⟨rfl, .inr ⟨w5.heap.size, 1, #[.int .i64 (m : Int)], rfl, Nat.zero_le _, heap_alloc_new w5 _, Nat.le_refl _, by decide, rfl, rfl⟩⟩) rfl (by omega) (fun z hz => by rw [List.mem_singleton.1 hz]; omega) (HT.out _ (HB5.out.trans (hal.mono hB5))))
        have HAL := Kp.mk hal
        have HRS2 := Kp.mk hRS
        subst hLF
        clear hal hbx hgs hrB hrow hn0 hw5 HR H4 hRS
        go_upto_region 15 with (fail)
        rw [HW5.out]
        clear k4 f4 HW5
        go_wp2_with fail
        refine CT.out.mono ?_
        rintro e w8 ⟨rfl, HB8⟩
        have HB58 := HAL.out.trans (HB8.out.mono HAL.out.size)
        have HF := Kp.mk (show Out B db pa w0 w8 L0 ra rc from ⟨HO.out.ds.below HB58, HO.out.chg.same (Chg.of_below HB58), HO.out.new⟩)
        clear CT HAL HB8 HB58 HO HB5
        go_wp2
        go_ret
        exact ⟨ra, rc, by rw [← HRS2.out]; rfl, HF⟩
      · have hc2 : (code == 0) = false := by rw [beq_eq_false_iff_ne]; exact hc
        have hc3 : (code != 0) = true := by simpa using hc
        have hRS := HRS.out
        have hLF := HLF.out
        rw [if_neg hc] at hRS hLF
        subst hRS hLF
        have HO := Kp.mk (Out.same H.out HBW.out)
        clear hc H H4 HR
        go_wp2
        go_ret
        exact ⟨pa, pc, rfl, HO⟩

end Go.Proofs.YtedchegejalolaaGreatDoor.Dk

/- The law's own RectOf. -/
namespace Go.Proofs.YtedchegejalolaaGreatDoor
set_option linter.unusedVariables false
open Go.RowKit

end Go.Proofs.YtedchegejalolaaGreatDoor

/- Expressions of raw numbers: the walk of ExprOf. -/
namespace Go.Proofs.YtedchegejalolaaGreatDoor
set_option linter.unusedVariables false
open Go.RowKit

/-- An expression in memory, in blocks of a kind. -/
def IsExB (P : Nat → Prop) (w : World) : Ex → ExV → Prop
  | .inn a b c d, v => v = ⟨1, a, b, c, d, 0, none, 0, 0⟩
  | .hv x, v => v = ⟨2, 0, 0, 0, 0, x, none, 0, 0⟩
  | .not p, v => ∃ sa cap vp, v = ⟨5, 0, 0, 0, 0, 0, sa, 1, cap⟩ ∧ SlF exL 7 w sa 1 cap [vp] ∧ (∀ k, blk sa = some k → P k ∧ k < w.heap.size) ∧ IsExB P w p vp
  | .two o p q, v => ∃ sa cap vp vq, v = ⟨Ex.ok o, 0, 0, 0, 0, 0, sa, 2, cap⟩ ∧ SlF exL 7 w sa 2 cap [vp, vq] ∧ (∀ k, blk sa = some k → P k ∧ k < w.heap.size) ∧ IsExB P w p vp ∧ IsExB P w q vq
  | .three o p q r, v => ∃ sa cap vp vq vr, v = ⟨Ex.ok o, 0, 0, 0, 0, 0, sa, 3, cap⟩ ∧ SlF exL 7 w sa 3 cap [vp, vq, vr] ∧ (∀ k, blk sa = some k → P k ∧ k < w.heap.size) ∧ IsExB P w p vp ∧ IsExB P w q vq ∧ IsExB P w r vr
theorem IsExB.is {P : Nat → Prop} {w : World} : ∀ {x : Ex} {v : ExV}, IsExB P w x v → IsEx w x v
  | .inn .., v, h => h
  | .hv _, v, h => h
  | .not p, v, h => by obtain ⟨sa, cap, vp, h1, h2, _, h3⟩ := h; exact ⟨sa, cap, vp, h1, h2, h3.is⟩
  | .two o p q, v, h => by obtain ⟨sa, cap, vp, vq, h1, h2, _, h3, h4⟩ := h; exact ⟨sa, cap, vp, vq, h1, h2, h3.is, h4.is⟩
  | .three o p q r, v, h => by obtain ⟨sa, cap, vp, vq, vr, h1, h2, _, h3, h4, h5⟩ := h; exact ⟨sa, cap, vp, vq, vr, h1, h2, h3.is, h4.is, h5.is⟩
theorem slF_keepB {P : Nat → Prop} {w w' : World} {sa : Option Addr} {n cap : Nat} {vs : List ExV} (h : SlF exL 7 w sa n cap vs) (hb : ∀ k, blk sa = some k → P k ∧ k < w.heap.size) (hk : ∀ k, P k → k < w.heap.size → w'.heap[k]? = w.heap[k]?) : SlF exL 7 w' sa n cap vs :=
  ⟨h.hlen, h.le, h.capm, h.nil, fun i hi => by
    obtain ⟨b, off, ha, hc⟩ := h.cell i hi
    subst ha
    obtain ⟨h1, h2⟩ := hb b rfl
    refine ⟨b, off, rfl, ?_⟩
    rw [← hc]
    unfold World.cell?
    dsimp only
    rw [hk b h1 h2]⟩
theorem IsExB.keep {P Q : Nat → Prop} {w w' : World} (hk : ∀ k, P k → k < w.heap.size → w'.heap[k]? = w.heap[k]?) (hz : w.heap.size ≤ w'.heap.size) (hq : ∀ k, P k → k < w.heap.size → Q k) : ∀ {x : Ex} {v : ExV}, IsExB P w x v → IsExB Q w' x v
  | .inn .., v, h => h
  | .hv _, v, h => h
  | .not p, v, h => by
    obtain ⟨sa, cap, vp, h1, h2, hb, h3⟩ := h
    exact ⟨sa, cap, vp, h1, slF_keepB h2 hb hk, fun k e => ⟨hq k (hb k e).1 (hb k e).2, Nat.lt_of_lt_of_le (hb k e).2 hz⟩, IsExB.keep hk hz hq h3⟩
  | .two o p q, v, h => by
    obtain ⟨sa, cap, vp, vq, h1, h2, hb, h3, h4⟩ := h
    exact ⟨sa, cap, vp, vq, h1, slF_keepB h2 hb hk, fun k e => ⟨hq k (hb k e).1 (hb k e).2, Nat.lt_of_lt_of_le (hb k e).2 hz⟩, IsExB.keep hk hz hq h3, IsExB.keep hk hz hq h4⟩
  | .three o p q r, v, h => by
    obtain ⟨sa, cap, vp, vq, vr, h1, h2, hb, h3, h4, h5⟩ := h
    exact ⟨sa, cap, vp, vq, vr, h1, slF_keepB h2 hb hk, fun k e => ⟨hq k (hb k e).1 (hb k e).2, Nat.lt_of_lt_of_le (hb k e).2 hz⟩, IsExB.keep hk hz hq h3, IsExB.keep hk hz hq h4, IsExB.keep hk hz hq h5⟩
theorem IsExB.below {P : Nat → Prop} {w w' : World} {x : Ex} {v : ExV} (h : IsExB P w x v) (hb : Below w.heap.size w w') : IsExB P w' x v := h.keep (fun k _ hk => hb.block k hk) hb.size (fun k hk _ => hk)

theorem info_exs : (Tryz.prog.info? 83).map (fun i => (i.zero, i.size, i.bytes)) = some (some (.agg #[.int .i64 0, .int .i64 0, .int .i64 0, .int .i64 0, .int .i64 0, .int .i64 0, .slice none 0 0]), 7, 72) := by kernel_rfl
theorem tExs : ElemTy Tryz.prog 81 83 7 72 (.agg #[.int .i64 0, .int .i64 0, .int .i64 0, .int .i64 0, .int .i64 0, .int .i64 0, .slice none 0 0]) :=
  ⟨Tryz.underlying81, by obtain ⟨i0, hi, h0, h1, h2⟩ := info_parts info_exs; exact ⟨i0, hi, h0, h1, h2⟩, rfl, by decide⟩

/-- What is left of the raw numbers. -/
structure Raw (w : World) (la : Option Addr) (ln lc : Nat) (l : List Int) : Prop where
  sl : SlI w la lc l
  len : l.length = ln
  bd : ∀ z ∈ l, -9223372036854775808 ≤ z ∧ z ≤ 9223372036854775807
theorem Raw.below {w w' : World} {la : Option Addr} {ln lc : Nat} {l : List Int} (h : Raw w la ln lc l) (hb : Below w.heap.size w w') : Raw w' la ln lc l := ⟨h.sl.below hb, h.len, h.bd⟩

theorem len_two {α : Type _} {l : List α} (h : l.length = 2) : ∃ a b, l = [a, b] := by
  match l, h with
  | [a, b], _ => exact ⟨a, b, rfl⟩
theorem len_three {α : Type _} {l : List α} (h : l.length = 3) : ∃ a b c, l = [a, b, c] := by
  match l, h with
  | [a, b, c], _ => exact ⟨a, b, c, rfl⟩
theorem st7_box {w : World} {b : Nat} {t : TypeId} {a0 a1 a2 a3 a4 a5 a6 : Value} (h : Box w b #[a0, a1, a2, a3, a4, a5, a6] t) (v0 v1 v2 v3 v4 v5 v6 : Value) :
    Box (((((((w.setCell ⟨b, 0, none⟩ v0).setCell ⟨b, 1, none⟩ v1).setCell ⟨b, 2, none⟩ v2).setCell ⟨b, 3, none⟩ v3).setCell ⟨b, 4, none⟩ v4).setCell ⟨b, 5, none⟩ v5).setCell ⟨b, 6, none⟩ v6) b #[v0, v1, v2, v3, v4, v5, v6] t := by
  have := box_put (i := 6) (box_put (i := 5) (box_put (i := 4) (box_put (i := 3) (box_put (i := 2) (box_put (i := 1) (box_put (i := 0) h v0) v1) v2) v3) v4) v5) v6
  simpa using this
theorem st7_grown (w : World) (b : Nat) (v0 v1 v2 v3 v4 v5 v6 : Value) :
    w.grownBy (((((((w.setCell ⟨b, 0, none⟩ v0).setCell ⟨b, 1, none⟩ v1).setCell ⟨b, 2, none⟩ v2).setCell ⟨b, 3, none⟩ v3).setCell ⟨b, 4, none⟩ v4).setCell ⟨b, 5, none⟩ v5).setCell ⟨b, 6, none⟩ v6) (some b) :=
  grown_trans (grown_trans (grown_trans (grown_trans (grown_trans (grown_trans (grown_set w b 0 v0) (grown_set _ b 1 v1)) (grown_set _ b 2 v2)) (grown_set _ b 3 v3)) (grown_set _ b 4 v4)) (grown_set _ b 5 v5)) (grown_set _ b 6 v6)
theorem Raw.tail {w : World} {b o ln lc : Nat} {l : List Int} (h : Raw w (some ⟨b, o, none⟩) ln lc l) (h0 : 0 < ln) : Raw w (some ⟨b, o + 1, none⟩) (ln - 1) (lc - 1) (l.drop 1) := by
  have hl := h.len
  refine ⟨⟨?_, ?_, ?_, fun e => (by cases e), fun i hi => ?_⟩, by rw [List.length_drop, hl], fun z hz => h.bd z (List.mem_of_mem_drop hz)⟩
  · rw [ints_length, Nat.mul_one]
  · rw [List.length_drop]; have := h.sl.le; omega
  · have := h.sl.capm; omega
  · have hi' : i + 1 < l.length := by rw [ints_length, List.length_drop] at hi; omega
    obtain ⟨b', o', e, hc⟩ := h.sl.at (i + 1) hi'
    simp only [Option.some.injEq, Addr.mk.injEq, and_true] at e
    obtain ⟨rfl, rfl⟩ := e
    refine ⟨_, _, rfl, ?_⟩
    rw [show o + 1 + i = o + (i + 1) by omega, hc]
    congr 1
    unfold ints
    simp
theorem Raw.tail0 {w : World} {a : Option Addr} {ln lc : Nat} {l : List Int} (h : Raw w a ln lc l) (h1 : ln = 1) (hc : lc = 1) : Raw w a 0 0 (l.drop 1) := by
  have hl := h.len
  have hd : l.drop 1 = [] := by rw [← List.length_eq_zero_iff, List.length_drop]; omega
  rw [hd]
  exact ⟨⟨rfl, Nat.le_refl _, Nat.zero_le _, fun _ => rfl, fun i hi => absurd hi (by simp [ints])⟩, rfl, fun z hz => absurd hz (by simp)⟩

end Go.Proofs.YtedchegejalolaaGreatDoor

/- The parser: what it holds; the next word. -/
namespace Go.Proofs.YtedchegejalolaaGreatDoor
set_option linter.unusedVariables false
open Go.RowKit Qk

theorem SlC.back {w : World} {ad : Addr} {len cap size m : Nat} {cs : List Value} (h : SlC w (some ad) len cap size cs) (hm : m ≤ len) : SlC w (some (ad.add (m * size))) (len - m) (cap - m) size (cs.drop (m * size)) := by
  refine ⟨by rw [List.length_drop, h.hlen, Nat.mul_sub_right_distrib], by have := h.le; omega, by have := h.capm; omega, (fun e => by cases e), fun i hi => ?_⟩
  rw [List.length_drop] at hi
  obtain ⟨b, off, ha, hc⟩ := h.cell (m * size + i) (by omega)
  obtain rfl := Option.some.inj ha
  refine ⟨b, off + m * size, by simp [Addr.add], ?_⟩
  rw [Nat.add_assoc, hc, List.getElem_drop]

/-- A parser that is not bad, with so many words left. -/
structure PS (w0 w : World) (pb : Nat) (la : Option Addr) (lc : Nat) (T : List Wd) : Prop where
  box : Box w pb #[.slice la T.length lc, .bool false] 109
  row : SlC w la T.length lc 1 (strs T)
  lt : ∀ k, blk la = some k → k < w0.heap.size
  tab : Tab w0
  bel : Below w0.heap.size w0 w
  lo : w0.heap.size ≤ pb
theorem PS.grown {w0 w w' : World} {pb lc lc' : Nat} {la la' : Option Addr} {T T' : List Wd} (h : PS w0 w pb la lc T) (hg : w.grownBy w' (some pb)) (hb : Box w' pb #[.slice la' T'.length lc', .bool false] 109) (hr : SlC w' la' T'.length lc' 1 (strs T')) (hn : ∀ k, blk la' = some k → k < w0.heap.size) : PS w0 w' pb la' lc' T' :=
  ⟨hb, hr, hn, h.tab, h.bel.trans (below_of_grown hg h.bel.size (fun q hq => by cases hq; exact h.lo)), h.lo⟩
theorem PS.later {w0 w w' : World} {pb lc : Nat} {la : Option Addr} {T : List Wd} (h : PS w0 w pb la lc T) (hb : Below w.heap.size w w') : PS w0 w' pb la lc T :=
  ⟨h.box.below hb, h.row.below hb, h.lt, h.tab, h.bel.trans (hb.mono h.bel.size), h.lo⟩
theorem PS.keep {w0 w w' : World} {pb lc : Nat} {b : Option Nat} {la : Option Addr} {T : List Wd} (h : PS w0 w pb la lc T) (hg : w.grownBy w' b) (hq : ∀ k, b = some k → k ≠ pb ∧ w0.heap.size ≤ k) : PS w0 w' pb la lc T :=
  ⟨box_grow h.box hg (fun e => (hq _ e).1 rfl), h.row.keep hg (fun k e e2 => by have := (hq k e).2; have := h.lt _ e2; omega), h.lt, h.tab, h.bel.trans (below_of_grown hg h.bel.size (fun k e => (hq k e).2)), h.lo⟩
theorem PS.tabs {w0 w : World} {pb lc : Nat} {la : Option Addr} {T : List Wd} (h : PS w0 w pb la lc T) : Tab w := h.tab.below h.bel
/-- The first word. -/
theorem PS.head {w0 w : World} {pb lc : Nat} {la : Option Addr} {t : Wd} {R : List Wd} (h : PS w0 w pb la lc (t :: R)) : ∃ b o, la = some ⟨b, o, none⟩ ∧ w.cell? ⟨b, o, none⟩ = some (str t) := by
  obtain ⟨b, o, ha, hc⟩ := h.row.cell 0 (by simp [strs])
  exact ⟨b, o, ha, by simpa [strs] using hc⟩
/-- The first word is taken. -/
theorem PS.tail {w0 w : World} {pb lc b o : Nat} {t : Wd} {R : List Wd} (h : PS w0 w pb (some ⟨b, o, none⟩) lc (t :: R)) : PS w0 (w.setCell ⟨pb, 0, none⟩ (.slice (some ⟨b, o + 1, none⟩) R.length (lc - 1))) pb (some ⟨b, o + 1, none⟩) (lc - 1) R := by
  have hg := grown_set w pb 0 (.slice (some ⟨b, o + 1, none⟩) R.length (lc - 1))
  have hlt := h.lt b rfl
  have hne : b ≠ pb := by have := h.lo; omega
  have h1 := h.row.keep hg (fun k e e2 => by cases e; exact hne (by simpa [blk] using e2))
  have h2 := SlC.back h1 (m := 1) (by simp)
  have h3 : SlC (w.setCell ⟨pb, 0, none⟩ (.slice (some ⟨b, o + 1, none⟩) R.length (lc - 1))) (some ⟨b, o + 1, none⟩) R.length (lc - 1) 1 (strs R) := by simpa [Addr.add, strs] using h2
  refine h.grown hg ?_ h3 (fun k e => by cases e; exact hlt)
  have := box_put (i := 0) h.box (.slice (some ⟨b, o + 1, none⟩) R.length (lc - 1))
  simpa using this
theorem PS.tail0 {w0 w : World} {pb b o : Nat} {t : Wd} {R : List Wd} (h : PS w0 w pb (some ⟨b, o, none⟩) 1 (t :: R)) : R = [] ∧ PS w0 (w.setCell ⟨pb, 0, none⟩ (.slice (some ⟨b, o, none⟩) 0 0)) pb (some ⟨b, o, none⟩) 0 [] := by
  have hl := h.row.le
  have hR : R = [] := by rw [← List.length_eq_zero_iff]; simpa using hl
  refine ⟨hR, h.grown (grown_set w pb 0 _) ?_ ⟨rfl, Nat.le_refl _, Nat.zero_le _, (fun e => by cases e), (fun i hi => absurd hi (by simp [strs]))⟩ h.lt⟩
  have := box_put (i := 0) h.box (.slice (some ⟨b, o, none⟩) 0 0)
  simpa using this

set_option maxRecDepth 100000 in
set_option maxHeartbeats 4000000 in
theorem takes_yes (w0 w : World) (pb : Nat) (la : Option Addr) (lc : Nat) (t : Wd) (R : List Wd) (h : PS w0 w pb la lc (t :: R)) :
    Calls Tryz.prog 118 #[.pointer (some ⟨pb, 0, none⟩), str t] w fun e w' => ∃ la' lc', e = .returned (.bool true) ∧ Kp (PS w0 w' pb la' lc' R) ∧ Kp (w.grownBy w' (some pb)) := by
  obtain ⟨b, o, rfl, hc⟩ := h.head
  have k0 : w.cell? ⟨pb, 0, none⟩ = some (.slice (some ⟨b, o, none⟩) (R.length + 1) lc) := h.box.cell 0 rfl
  have hf := h.box.free 0
  have hlc := h.row.le
  simp only [List.length_cons] at hlc
  by_cases hc1 : lc = 1
  · subst hc1
    obtain ⟨rfl, hp⟩ := h.tail0
    have HP := Kp.mk hp
    have HG := Kp.mk (grown_set w pb 0 (.slice (some ⟨b, o, none⟩) 0 0))
    clear h hp
    go_enter Tryz.func118, Tryz.ntmps118
    go_wp2
    go_ret
    exact ⟨_, _, rfl, HP, HG⟩
  · have HP := Kp.mk h.tail
    have HG := Kp.mk (grown_set w pb 0 (.slice (some ⟨b, o + 1, none⟩) R.length (lc - 1)))
    clear h
    go_enter Tryz.func118, Tryz.ntmps118
    go_wp2
    go_ret
    exact ⟨_, _, rfl, HP, HG⟩

set_option maxRecDepth 100000 in
set_option maxHeartbeats 4000000 in
theorem takes_no (w0 w : World) (pb : Nat) (la : Option Addr) (lc : Nat) (t : Wd) (T : List Wd) (h : PS w0 w pb la lc T) (hn : T.head? ≠ some t) :
    Calls Tryz.prog 118 #[.pointer (some ⟨pb, 0, none⟩), str t] w fun e w' => e = .returned (.bool false) ∧ Kp (PS w0 w' pb la lc T) ∧ Kp (Below w.heap.size w w') := by
  have HP := Kp.mk (fun (W : World) (hW : Below w.heap.size w W) => h.later hW)
  cases T with
  | nil =>
    have k0 : w.cell? ⟨pb, 0, none⟩ = some (.slice la 0 lc) := h.box.cell 0 rfl
    clear h
    go_enter Tryz.func118, Tryz.ntmps118
    go_wp2
    go_ret
    exact ⟨rfl, ⟨HP.out _ (Below.refl _ _)⟩, ⟨Below.refl _ _⟩⟩
  | cons u R =>
    have hne : u ≠ t := fun e => hn (by rw [e]; rfl)
    have e1 : (u == t) = false := by rw [beq_eq_false_iff_ne]; exact hne
    have e2 : ((R.length : Int) + 1 == 0) = false := by rw [beq_eq_false_iff_ne]; omega
    obtain ⟨b, o, rfl, hc⟩ := h.head
    have k0 : w.cell? ⟨pb, 0, none⟩ = some (.slice (some ⟨b, o, none⟩) (R.length + 1) lc) := h.box.cell 0 rfl
    clear h hn hne
    go_enter Tryz.func118, Tryz.ntmps118
    go_wp2
    go_ret
    exact ⟨rfl, ⟨HP.out _ (Below.refl _ _)⟩, ⟨Below.refl _ _⟩⟩

end Go.Proofs.YtedchegejalolaaGreatDoor

