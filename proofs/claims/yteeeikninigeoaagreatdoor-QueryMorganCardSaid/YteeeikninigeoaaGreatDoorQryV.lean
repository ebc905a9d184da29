/- QueryMorgan: the walk. -/
import Derived.Test.YteeeikninigeoaaGreatDoorQryO
import Derived.Test.YteeeikninigeoaaGreatDoorQryB
import Derived.Test.YteeeikninigeoaaGreatDoorFlatIn
namespace Go.Proofs.YteeeikninigeoaaGreatDoor
set_option linter.unusedVariables false
open Go.RowKit

theorem raw_in {w : World} {a : Option Addr} {len cap : Nat} {zs : List Int} (h : IsRow .i64 w a len cap zs) : ∃ l, Raw w a len cap l := by
  obtain ⟨l, hl, hs, hw, _⟩ := row_sl h
  exact ⟨l, hs, hl.symm, fun z hz => wf_bd (hw z hz)⟩
/-- What is known of an expression that a law made. -/
structure Made (x : Ex) : Prop where
  small : x.small
  dep : x.dep ≤ 2
theorem Made.len {x : Ex} (h : Made x) : x.txt.length ≤ 54 := by
  have := Ex.txt_len x 2 h.small h.dep
  have e : Ex.bnd 2 = 54 := by decide
  omega
/-- A row of bools that a call handed back. -/
structure BoR (w : World) (a : Option Addr) (c n : Nat) (f : Nat → Bool) : Prop where
  ex : ∃ B T, Tells f n T ∧ w.ownsRow B 4 1 (.slice a n c) n (bls T)
theorem BoR.below {w w' : World} {a : Option Addr} {c n : Nat} {f : Nat → Bool} (h : BoR w a c n f) (hb : Below w.heap.size w w') : BoR w' a c n f := by
  obtain ⟨B, T, h1, h2⟩ := h.ex
  exact ⟨B, T, h1, own_below h2 hb⟩
theorem BoR.at {w : World} {a : Option Addr} {c n : Nat} {f : Nat → Bool} (h : BoR w a c n f) (i : Nat) (hi : i < n) : ∃ b, a = some ⟨b, 0, none⟩ ∧ w.cell? ⟨b, i, none⟩ = some (.bool (f i)) ∧ n ≤ c := by
  obtain ⟨B, T, h1, h2⟩ := h.ex
  obtain ⟨b, rfl, _, _⟩ := own_some h2 (by omega)
  exact ⟨b, rfl, tells_cell h1 h2 hi, (own_slc h2).le⟩

set_option maxRecDepth 100000 in
set_option maxHeartbeats 32000000 in
theorem walk_QueryMorgan (a0 : Option Addr) (len0 cap0 : Nat) (z0 : List Int) (a1 : Option Addr) (len1 cap1 : Nat) (z1 : List Int) (a2 : Option Addr) (len2 cap2 : Nat) (z2 : List Int) (w : World) (w0 : IsRow .i64 w a0 len0 cap0 z0) (w1 : IsRow .i64 w a1 len1 cap1 z1) (w2 : IsFlat 3 w a2 len2 cap2 z2) (hT : Tab w) :
    Calls Tryz.prog 3 #[.slice a0 len0 cap0, .slice a1 len1 cap1, .slice a2 len2 cap2] w fun e w' => e = .returned (.bool true) ∧ Below w.heap.size w w' := by
  obtain ⟨l0, r0⟩ := raw_in w0
  obtain ⟨l1, r1⟩ := raw_in w1
  obtain ⟨S, hS, wS, nS⟩ := spots_in w2
  have C1 := Kp.mk (points_any a2 cap2 len2 40 20 S w hS (by unfold maxLen at nS; omega) (by omega) (by omega) (by omega) wS)
  have HR0 := Kp.mk r0
  have HR1 := Kp.mk r1
  have HTB := Kp.mk hT
  have eg : ∀ args w, (callFunc 10 args).run Tryz.prog w = .ok (.enter 10 args) w := enters_of Tryz.func10 (by kernel_rfl) rfl
  have HX := Kp.mk (exprOf_any 2 (by omega))
  clear w0 w1 w2 hS wS nS r0 r1 hT
  go_enter Tryz.func3, Tryz.ntmps3
  go_wp2_with fail
  refine C1.out.mono ?_
  rintro e w1 ⟨sa, sc, n, rfl, HR, HO, hb1⟩
  have HB1 := Kp.mk hb1
  have hn40 : n ≤ 40 := by have := HR.out; rw [ptsOf_length] at this; omega
  have HBD := Kp.mk (ptsOf_bd S 40 20 (by omega))
  have HP1 := Kp.mk (show SlF ptL 3 w1 sa n sc (ptsOf S 40 20) from own_slc HO.out)
  generalize ptsOf S 40 20 = L at *
  have HNR := Kp.mk (show ∀ p ∈ L, p.Near from fun p hp => by have := HBD.out p hp; unfold Pt.Near; omega)
  have CX := Kp.mk (HX.out a0 len0 cap0 l0 w1 (HR0.out.below hb1))
  clear hb1 C1 HO HR HBD
  go_wp2_with fail
  refine CX.out.mono ?_
  rintro e w2 ⟨⟨k, a, b, c, d, y, ea, en, ec⟩, x, _, _, _, _, rfl, HXV, HXS, _, HB2⟩
  rw [show (exL ⟨k, a, b, c, d, y, ea, en, ec⟩).toArray = exA k a b c d y ea en ec from rfl]
  have HMX := Kp.mk (show Made x from ⟨HXS.out.1, by have := HXS.out.2; omega⟩)
  have hal := below_alloc (Nat.le_refl w2.heap.size) (.cells (exA k a b c d y ea en ec) 30)
  have hbn := Box.new w2 (exA k a b c d y ea en ec) 30
  have HBW3 := Kp.mk (below_step (below_step HB1.out HB2.out) hal)
  have HIX := Kp.mk (HXV.out.is.below hal)
  have HP3 := Kp.mk (SlF.below (SlF.below HP1.out HB2.out) hal)
  obtain ⟨bx, hbx⟩ : ∃ bx, w2.heap.size = bx := ⟨_, rfl⟩
  obtain ⟨w3, hw3⟩ : ∃ w3, w2.alloc (.cells (exA k a b c d y ea en ec) 30) = w3 := ⟨_, rfl⟩
  rw [hw3] at hbn HBW3 HIX HP3
  rw [hbx] at hbn
  have HBX := Kp.mk hbn
  have HW3 := Kp.mk hw3
  have HBXE := Kp.mk hbx
  clear hal hbn hw3 hbx HP1 HB1 HXV HXS HB2 CX
  go_upto_region 3 with (fail)
  simp only [HBXE.out]
  rw [show (#[Value.int IntKind.i64 k, Value.int IntKind.i64 a, Value.int IntKind.i64 b, Value.int IntKind.i64 c, Value.int IntKind.i64 d, Value.int IntKind.i64 y, Value.slice ea en ec] : Array Value) = exA k a b c d y ea en ec from rfl, HW3.out]
  clear HW3 HBXE
  have CY := Kp.mk (HX.out a1 len1 cap1 l1 w3 (HR1.out.below HBW3.out))
  clear HX
  go_wp2_with fail
  refine CY.out.mono ?_
  rintro e w4 ⟨⟨k', a', b', c', d', y', ea', en', ec'⟩, x', _, _, _, _, rfl, HXV, HXS, _, HB4⟩
  rw [show (exL ⟨k', a', b', c', d', y', ea', en', ec'⟩).toArray = exA k' a' b' c' d' y' ea' en' ec' from rfl]
  have HMY := Kp.mk (show Made x' from ⟨HXS.out.1, by have := HXS.out.2; omega⟩)
  have hal := below_alloc (Nat.le_refl w4.heap.size) (.cells (exA k' a' b' c' d' y' ea' en' ec') 30)
  have hbn := Box.new w4 (exA k' a' b' c' d' y' ea' en' ec') 30
  have hb34 := below_step HB4.out hal
  have HBW5 := Kp.mk (below_step HBW3.out hb34)
  have HIY := Kp.mk (HXV.out.is.below hal)
  have HIX5 := Kp.mk (HIX.out.below hb34)
  have HP5 := Kp.mk (SlF.below HP3.out hb34)
  have HBX5 := Kp.mk (HBX.out.below hb34)
  obtain ⟨bY, hbY⟩ : ∃ bY, w4.heap.size = bY := ⟨_, rfl⟩
  obtain ⟨w5, hw5⟩ : ∃ w5, w4.alloc (.cells (exA k' a' b' c' d' y' ea' en' ec') 30) = w5 := ⟨_, rfl⟩
  rw [hw5] at hbn HBW5 HIY HIX5 HP5 HBX5
  rw [hbY] at hbn
  have HBY5 := Kp.mk hbn
  have HW5 := Kp.mk hw5
  have HBYE := Kp.mk hbY
  clear hal hbn hb34 hw5 hbY HP3 HBW3 HXV HXS HB4 CY HIX HBX
  go_upto_region 4 with (fail)
  simp only [HBYE.out]
  rw [show (#[Value.int IntKind.i64 k', Value.int IntKind.i64 a', Value.int IntKind.i64 b', Value.int IntKind.i64 c', Value.int IntKind.i64 d', Value.int IntKind.i64 y', Value.slice ea' en' ec'] : Array Value) = exA k' a' b' c' d' y' ea' en' ec' from rfl, HW5.out]
  clear HW5 HBYE
  have MB := Kp.mk (fun (W : World) (X : Ex) (v : ExV) (hW : Below w5.heap.size w5 W) (hi : IsEx W X v) (hs : X.small) (hd : X.dep ≤ 8) (hl : X.txt.length ≤ 400) => show Calls Tryz.prog 11 #[.agg (exL v).toArray, .slice sa n sc] W (fun e w' => ∃ ra rc, e = .returned (.tuple #[.slice ra n rc, .bool true]) ∧ Kp (BoR w' ra rc n (X.sem L)) ∧ Kp (Below W.heap.size W w')) from
    (meantBy_any sa sc n L (by omega) HNR.out X v W hi (SlF.below HP5.out hW) hs hd hl ((HTB.out.below HBW5.out).below hW)).mono fun e w' ⟨ra, rc, T, h1, h2, h3, h4⟩ => ⟨ra, rc, h1, ⟨⟨_, T, h2.out, h3.out⟩⟩, h4⟩)
  have HCX := Kp.mk (fun (W : World) (hW : Below w5.heap.size w5 W) => show (W.cell? ⟨bx, 0, none⟩ = some (.int .i64 k) ∧ W.cell? ⟨bx, 1, none⟩ = some (.int .i64 a) ∧ W.cell? ⟨bx, 2, none⟩ = some (.int .i64 b) ∧ W.cell? ⟨bx, 3, none⟩ = some (.int .i64 c) ∧ W.cell? ⟨bx, 4, none⟩ = some (.int .i64 d) ∧ W.cell? ⟨bx, 5, none⟩ = some (.int .i64 y) ∧ W.cell? ⟨bx, 6, none⟩ = some (.slice ea en ec)) from by
    have hb := HBX5.out.below hW
    exact ⟨hb.cell 0 rfl, hb.cell 1 rfl, hb.cell 2 rfl, hb.cell 3 rfl, hb.cell 4 rfl, hb.cell 5 rfl, hb.cell 6 rfl⟩)
  have HCY := Kp.mk (fun (W : World) (hW : Below w5.heap.size w5 W) => show (W.cell? ⟨bY, 0, none⟩ = some (.int .i64 k') ∧ W.cell? ⟨bY, 1, none⟩ = some (.int .i64 a') ∧ W.cell? ⟨bY, 2, none⟩ = some (.int .i64 b') ∧ W.cell? ⟨bY, 3, none⟩ = some (.int .i64 c') ∧ W.cell? ⟨bY, 4, none⟩ = some (.int .i64 d') ∧ W.cell? ⟨bY, 5, none⟩ = some (.int .i64 y') ∧ W.cell? ⟨bY, 6, none⟩ = some (.slice ea' en' ec')) from by
    have hb := HBY5.out.below hW
    exact ⟨hb.cell 0 rfl, hb.cell 1 rfl, hb.cell 2 rfl, hb.cell 3 rfl, hb.cell 4 rfl, hb.cell 5 rfl, hb.cell 6 rfl⟩)
  have lx := HMX.out.len
  have ly := HMY.out.len
  obtain ⟨sx, dx⟩ := HMX.out
  obtain ⟨sy, dy⟩ := HMY.out
  obtain ⟨c0, c1, c2, c3, c4, c5, c6⟩ := HCX.out w5 (Below.refl _ _)
  obtain ⟨d0, d1, d2, d3, d4, d5, d6⟩ := HCY.out w5 (Below.refl _ _)
  have H6 := Kp.mk (lit_two w5 false x x' _ _ HIX5.out HIY.out #[.int .i64 k, .int .i64 a, .int .i64 b, .int .i64 c, .int .i64 d, .int .i64 y, .slice ea en ec, .int .i64 k', .int .i64 a', .int .i64 b', .int .i64 c', .int .i64 d', .int .i64 y', .slice ea' en' ec'] rfl)
  have HB56 := Kp.mk (below_alloc (Nat.le_refl w5.heap.size) (.cells #[.int .i64 k, .int .i64 a, .int .i64 b, .int .i64 c, .int .i64 d, .int .i64 y, .slice ea en ec, .int .i64 k', .int .i64 a', .int .i64 b', .int .i64 c', .int .i64 d', .int .i64 y', .slice ea' en' ec'] 30))
  have CN6 := Kp.mk (not_lit (.two false x x') 3 0 0 0 0 0 (some ⟨w5.heap.size, 0, none⟩) 2 2 _ H6.out)
  go_wp2_with (first
    | (go_at_fn 10; refine CN6.out.mono ?_; rintro e w7 ⟨g, rfl, HN7, HB7⟩; have HB57 := Kp.mk (HB56.out.trans (HB7.out.mono HB56.out.size)))
    | (go_at_call 11; refine (MB.out w7 (.not (.two false x x')) _ HB57.out HN7.out (by exact ⟨sx, sy⟩) (by simp only [Ex.dep]; omega) (by have := Ex.len_not (.two false x x'); have := Ex.len_two false x x'; omega)).mono ?_; rintro e w8 ⟨ra, rca, rfl, HRA, HB8⟩)
    | fail)
  have HB58 := Kp.mk (HB57.out.trans (HB8.out.mono HB57.out.size))
  clear c0 c1 c2 c3 c4 c5 c6 d0 d1 d2 d3 d4 d5 d6 CN6 H6 HB56 HN7 HB7 HB57 HB8
  have hSS : ∀ W, Below w8.heap.size w8 W → (W.cell? ⟨bx, 0, none⟩ = some (.int .i64 k) ∧ W.cell? ⟨bx, 1, none⟩ = some (.int .i64 a) ∧ W.cell? ⟨bx, 2, none⟩ = some (.int .i64 b) ∧ W.cell? ⟨bx, 3, none⟩ = some (.int .i64 c) ∧ W.cell? ⟨bx, 4, none⟩ = some (.int .i64 d) ∧ W.cell? ⟨bx, 5, none⟩ = some (.int .i64 y) ∧ W.cell? ⟨bx, 6, none⟩ = some (.slice ea en ec)) ∧ (W.cell? ⟨bY, 0, none⟩ = some (.int .i64 k') ∧ W.cell? ⟨bY, 1, none⟩ = some (.int .i64 a') ∧ W.cell? ⟨bY, 2, none⟩ = some (.int .i64 b') ∧ W.cell? ⟨bY, 3, none⟩ = some (.int .i64 c') ∧ W.cell? ⟨bY, 4, none⟩ = some (.int .i64 d') ∧ W.cell? ⟨bY, 5, none⟩ = some (.int .i64 y') ∧ W.cell? ⟨bY, 6, none⟩ = some (.slice ea' en' ec')) := fun W hW => ⟨HCX.out W (HB58.out.trans (hW.mono HB58.out.size)), HCY.out W (HB58.out.trans (hW.mono HB58.out.size))⟩
  have hS0 := hSS w8 (Below.refl _ _)
  have hD8 : Below w8.heap.size w8 w8.drew := (Below.refl _ _).drew
  have HNX := Kp.mk (fun (W : World) (hW : Below w8.heap.size w8 W) => not_lit x k a b c d y ea en ec W (HIX5.out.below (HB58.out.trans (hW.mono HB58.out.size))))
  have HNY := Kp.mk (fun (W : World) (hW : Below w8.heap.size w8 W) => not_lit x' k' a' b' c' d' y' ea' en' ec' W (HIY.out.below (HB58.out.trans (hW.mono HB58.out.size))))
  go_upto_region 6 with (fail)
  go_cut [15, 16] (fun v15 v16 wx => ∃ rb rcb, v15 = .slice rb n rcb ∧ v16 = .bool true ∧ Kp (BoR wx rb rcb n ((Ex.two true (.not x) (.not x')).sem L)) ∧ Kp (Below w8.heap.size w8 wx))
  case first =>
   go_region_held3 (fun W => (W.cell? ⟨bx, 0, none⟩ = some (.int .i64 k) ∧ W.cell? ⟨bx, 1, none⟩ = some (.int .i64 a) ∧ W.cell? ⟨bx, 2, none⟩ = some (.int .i64 b) ∧ W.cell? ⟨bx, 3, none⟩ = some (.int .i64 c) ∧ W.cell? ⟨bx, 4, none⟩ = some (.int .i64 d) ∧ W.cell? ⟨bx, 5, none⟩ = some (.int .i64 y) ∧ W.cell? ⟨bx, 6, none⟩ = some (.slice ea en ec)) ∧ (W.cell? ⟨bY, 0, none⟩ = some (.int .i64 k') ∧ W.cell? ⟨bY, 1, none⟩ = some (.int .i64 a') ∧ W.cell? ⟨bY, 2, none⟩ = some (.int .i64 b') ∧ W.cell? ⟨bY, 3, none⟩ = some (.int .i64 c') ∧ W.cell? ⟨bY, 4, none⟩ = some (.int .i64 d') ∧ W.cell? ⟨bY, 5, none⟩ = some (.int .i64 y') ∧ W.cell? ⟨bY, 6, none⟩ = some (.slice ea' en' ec')))
    (first | exact hS0 | exact hSx | exact hSy | exact hS9 | exact hSS _ (below_then_alloc hby8 _) | exact hSS _ (below_then_alloc hbx8 _) | go_keep)
    ((first
      | (go_at_call 10; with_reducible refine (HNX.out w8.drew hD8).mono ?_; rintro e wx ⟨gx, rfl, HNXa, HBxa⟩; have hbx8 : Below w8.heap.size w8 wx := hD8.trans (HBxa.out.mono hD8.size); have hSx := hSS wx hbx8)
      | (go_at_call 10; with_reducible refine (HNY.out wx hbx8).mono ?_; rintro e wy ⟨gy, rfl, HNYa, HByx⟩; have hby8 : Below w8.heap.size w8 wy := hbx8.trans (HByx.out.mono hbx8.size); have hSy := hSS wy hby8; have hXX := HNXa.out.below HByx.out; have hYY := HNYa.out)
      | (go_at_call 10; with_reducible refine (HNY.out w8.drew hD8).mono ?_; rintro e wy ⟨gy, rfl, HNYa, HBya⟩; have hby8 : Below w8.heap.size w8 wy := hD8.trans (HBya.out.mono hD8.size); have hSy := hSS wy hby8)
      | (go_at_call 10; with_reducible refine (HNX.out wy hby8).mono ?_; rintro e wx ⟨gx, rfl, HNXa, HBxy⟩; have hbx8 : Below w8.heap.size w8 wx := hby8.trans (HBxy.out.mono hby8.size); have hSx := hSS wx hbx8; have hXX := HNXa.out; have hYY := HNYa.out.below HBxy.out)
      | (go_at_call 11; refine (MB.out (wy.alloc (.cells #[.int .i64 5, .int .i64 0, .int .i64 0, .int .i64 0, .int .i64 0, .int .i64 0, .slice (some ⟨gx, 0, none⟩) 1 1, .int .i64 5, .int .i64 0, .int .i64 0, .int .i64 0, .int .i64 0, .int .i64 0, .slice (some ⟨gy, 0, none⟩) 1 1] 30)) (.two true (.not x) (.not x')) ⟨4, 0, 0, 0, 0, 0, some ⟨wy.heap.size, 0, none⟩, 2, 2⟩ (below_then_alloc (HB58.out.trans (hby8.mono HB58.out.size)) _) (lit_two wy true (.not x) (.not x') _ _ hXX hYY #[.int .i64 5, .int .i64 0, .int .i64 0, .int .i64 0, .int .i64 0, .int .i64 0, .slice (some ⟨gx, 0, none⟩) 1 1, .int .i64 5, .int .i64 0, .int .i64 0, .int .i64 0, .int .i64 0, .int .i64 0, .slice (some ⟨gy, 0, none⟩) 1 1] rfl) (by exact ⟨sx, sy⟩) (by simp only [Ex.dep]; omega) (by have := Ex.len_two true (.not x) (.not x'); have := Ex.len_not x; have := Ex.len_not x'; omega)).mono ?_; rintro e w9 ⟨rb, rcb, rfl, HRB, HB9⟩; have hb9 := (below_then_alloc hby8 (.cells #[.int .i64 5, .int .i64 0, .int .i64 0, .int .i64 0, .int .i64 0, .int .i64 0, .slice (some ⟨gx, 0, none⟩) 1 1, .int .i64 5, .int .i64 0, .int .i64 0, .int .i64 0, .int .i64 0, .int .i64 0, .slice (some ⟨gy, 0, none⟩) 1 1] 30)).trans (HB9.out.mono (by rw [alloc_size]; have := hby8.size; omega)); have hS9 := hSS w9 hb9)
      | (go_at_call 11; refine (MB.out (wx.alloc (.cells #[.int .i64 5, .int .i64 0, .int .i64 0, .int .i64 0, .int .i64 0, .int .i64 0, .slice (some ⟨gx, 0, none⟩) 1 1, .int .i64 5, .int .i64 0, .int .i64 0, .int .i64 0, .int .i64 0, .int .i64 0, .slice (some ⟨gy, 0, none⟩) 1 1] 30)) (.two true (.not x) (.not x')) ⟨4, 0, 0, 0, 0, 0, some ⟨wx.heap.size, 0, none⟩, 2, 2⟩ (below_then_alloc (HB58.out.trans (hbx8.mono HB58.out.size)) _) (lit_two wx true (.not x) (.not x') _ _ hXX hYY #[.int .i64 5, .int .i64 0, .int .i64 0, .int .i64 0, .int .i64 0, .int .i64 0, .slice (some ⟨gx, 0, none⟩) 1 1, .int .i64 5, .int .i64 0, .int .i64 0, .int .i64 0, .int .i64 0, .int .i64 0, .slice (some ⟨gy, 0, none⟩) 1 1] rfl) (by exact ⟨sx, sy⟩) (by simp only [Ex.dep]; omega) (by have := Ex.len_two true (.not x) (.not x'); have := Ex.len_not x; have := Ex.len_not x'; omega)).mono ?_; rintro e w9 ⟨rb, rcb, rfl, HRB, HB9⟩; have hb9 := (below_then_alloc hbx8 (.cells #[.int .i64 5, .int .i64 0, .int .i64 0, .int .i64 0, .int .i64 0, .int .i64 0, .slice (some ⟨gx, 0, none⟩) 1 1, .int .i64 5, .int .i64 0, .int .i64 0, .int .i64 0, .int .i64 0, .int .i64 0, .slice (some ⟨gy, 0, none⟩) 1 1] 30)).trans (HB9.out.mono (by rw [alloc_size]; have := hbx8.size; omega)); have hS9 := hSS w9 hb9)
      | fail))
   all_goals
    go_wp2
    go_meet
    exact ⟨rb, rcb, rfl, rfl, HRB, ⟨hb9⟩⟩
  case rest =>
  obtain ⟨rb, rcb, rfl, rfl, HRB, HB9⟩ := hcut
  have HRA9 := Kp.mk (HRA.out.below HB9.out)
  have HB59 := Kp.mk (HB58.out.trans (HB9.out.mono HB58.out.size))
  clear hSS hS0 hD8 HNX HNY HRA HB9
  obtain ⟨w9, rfl⟩ : ∃ w9 : World, w9 = wc := ⟨_, rfl⟩
  have hSS : ∀ W, Below w9.heap.size w9 W → (W.cell? ⟨bx, 0, none⟩ = some (.int .i64 k) ∧ W.cell? ⟨bx, 1, none⟩ = some (.int .i64 a) ∧ W.cell? ⟨bx, 2, none⟩ = some (.int .i64 b) ∧ W.cell? ⟨bx, 3, none⟩ = some (.int .i64 c) ∧ W.cell? ⟨bx, 4, none⟩ = some (.int .i64 d) ∧ W.cell? ⟨bx, 5, none⟩ = some (.int .i64 y) ∧ W.cell? ⟨bx, 6, none⟩ = some (.slice ea en ec)) := fun W hW => HCX.out W (HB59.out.trans (hW.mono HB59.out.size))
  have hS0 := hSS w9 (Below.refl _ _)
  have hD9 : Below w9.heap.size w9 w9.drew := (Below.refl _ _).drew
  have HNX := Kp.mk (fun (W : World) (hW : Below w9.heap.size w9 W) => not_lit x k a b c d y ea en ec W (HIX5.out.below (HB59.out.trans (hW.mono HB59.out.size))))
  go_upto_region 7 with (fail)
  go_cut [17, 18] (fun v17 v18 wx => ∃ rb rcb, v17 = .slice rb n rcb ∧ v18 = .bool true ∧ Kp (BoR wx rb rcb n ((Ex.two false x (.not x)).sem L)) ∧ Kp (Below w9.heap.size w9 wx))
  case first =>
   go_region_held3 (fun W => (W.cell? ⟨bx, 0, none⟩ = some (.int .i64 k) ∧ W.cell? ⟨bx, 1, none⟩ = some (.int .i64 a) ∧ W.cell? ⟨bx, 2, none⟩ = some (.int .i64 b) ∧ W.cell? ⟨bx, 3, none⟩ = some (.int .i64 c) ∧ W.cell? ⟨bx, 4, none⟩ = some (.int .i64 d) ∧ W.cell? ⟨bx, 5, none⟩ = some (.int .i64 y) ∧ W.cell? ⟨bx, 6, none⟩ = some (.slice ea en ec)))
    (first | exact hS0 | exact hSx | exact hS10 | exact hSS _ (below_then_alloc hbx9 _) | go_keep)
    ((first
      | (go_at_call 10; with_reducible refine (HNX.out w9.drew hD9).mono ?_; rintro e wx ⟨gx, rfl, HNXa, HBxa⟩; have hbx9 : Below w9.heap.size w9 wx := hD9.trans (HBxa.out.mono hD9.size); have hSx := hSS wx hbx9)
      | (go_at_call 11; refine (MB.out (wx.alloc (.cells #[.int .i64 k, .int .i64 a, .int .i64 b, .int .i64 c, .int .i64 d, .int .i64 y, .slice ea en ec, .int .i64 5, .int .i64 0, .int .i64 0, .int .i64 0, .int .i64 0, .int .i64 0, .slice (some ⟨gx, 0, none⟩) 1 1] 30)) (.two false x (.not x)) ⟨3, 0, 0, 0, 0, 0, some ⟨wx.heap.size, 0, none⟩, 2, 2⟩ (below_then_alloc (HB59.out.trans (hbx9.mono HB59.out.size)) _) (lit_two wx false x (.not x) ⟨k, a, b, c, d, y, ea, en, ec⟩ _ (HIX5.out.below (HB59.out.trans (hbx9.mono HB59.out.size))) HNXa.out #[.int .i64 k, .int .i64 a, .int .i64 b, .int .i64 c, .int .i64 d, .int .i64 y, .slice ea en ec, .int .i64 5, .int .i64 0, .int .i64 0, .int .i64 0, .int .i64 0, .int .i64 0, .slice (some ⟨gx, 0, none⟩) 1 1] rfl) (by exact ⟨sx, sx⟩) (by simp only [Ex.dep]; omega) (by have := Ex.len_two false x (.not x); have := Ex.len_not x; omega)).mono ?_; rintro e w10 ⟨rd, rcd, rfl, HRD, HB10⟩; have hb10 := (below_then_alloc hbx9 (.cells #[.int .i64 k, .int .i64 a, .int .i64 b, .int .i64 c, .int .i64 d, .int .i64 y, .slice ea en ec, .int .i64 5, .int .i64 0, .int .i64 0, .int .i64 0, .int .i64 0, .int .i64 0, .slice (some ⟨gx, 0, none⟩) 1 1] 30)).trans (HB10.out.mono (by rw [alloc_size]; have := hbx9.size; omega)); have hS10 := hSS w10 hb10)
      | fail))
   all_goals
    go_wp2
    go_meet
    exact ⟨rd, rcd, rfl, rfl, HRD, ⟨hb10⟩⟩
  case rest =>
  obtain ⟨rd, rcd, rfl, rfl, HRD, HB10⟩ := hcut
  have HRA10 := Kp.mk (HRA9.out.below HB10.out)
  have HRB10 := Kp.mk (HRB.out.below HB10.out)
  have HB510 := Kp.mk (HB59.out.trans (HB10.out.mono HB59.out.size))
  clear hSS hS0 hD9 HNX HRA9 HRB HB10 HB59 HB58
  obtain ⟨w10, rfl⟩ : ∃ w10 : World, w10 = wc := ⟨_, rfl⟩
  obtain ⟨c0, c1, c2, c3, c4, c5, c6⟩ := HCX.out w10 HB510.out
  have CNa := Kp.mk (not_lit x k a b c d y ea en ec w10 (HIX5.out.below HB510.out))
  go_upto_region 9 with (first
    | (go_at_fn 10; with_reducible refine CNa.out.mono ?_; rintro e w11 ⟨ga, rfl, HN11, HB11⟩; have HB511 := Kp.mk (HB510.out.trans (HB11.out.mono HB510.out.size)))
    | (go_at_fn 10; refine (not_lit (.not x) 5 0 0 0 0 0 (some ⟨ga, 0, none⟩) 1 1 w11 HN11.out).mono ?_; rintro e w12 ⟨gb, rfl, HN12, HB12⟩; have HB512 := Kp.mk (HB511.out.trans (HB12.out.mono HB511.out.size)))
    | (go_at_call 11; refine (MB.out w12 (.not (.not x)) ⟨5, 0, 0, 0, 0, 0, some ⟨gb, 0, none⟩, 1, 1⟩ HB512.out HN12.out (by exact sx) (by simp only [Ex.dep]; omega) (by have := Ex.len_not (.not x); have := Ex.len_not x; omega)).mono ?_; rintro e w13 ⟨re, rce, rfl, HRE, HB13⟩; have HB513 := Kp.mk (HB512.out.trans (HB13.out.mono HB512.out.size)); clear c0 c1 c2 c3 c4 c5 c6; obtain ⟨c0, c1, c2, c3, c4, c5, c6⟩ := HCX.out w13 HB513.out)
    | fail)
  go_wp2_with (first
    | (go_at_call 11; refine (MB.out w13 x ⟨k, a, b, c, d, y, ea, en, ec⟩ HB513.out (HIX5.out.below HB513.out) (by exact sx) (by omega) (by omega)).mono ?_; rintro e w14 ⟨rf, rcf, rfl, HRF, HB14⟩)
    | fail)
  have HB014 := Kp.mk (below_step HBW5.out (HB513.out.trans (HB14.out.mono HB513.out.size)))
  have hb1014 : Below w10.heap.size w10 w14 := HB11.out.trans ((HB12.out.trans ((HB13.out.trans (HB14.out.mono HB13.out.size)).mono HB12.out.size)).mono HB11.out.size)
  have HA := Kp.mk (HRA10.out.below hb1014)
  have HBb := Kp.mk (HRB10.out.below hb1014)
  have HD := Kp.mk (HRD.out.below (hb1014.mono (Nat.le_refl _)))
  have HE := Kp.mk (HRE.out.below HB14.out)
  clear hb1014 HRA10 HRB10 HRD HRE HB14 HB13 HB12 HB11 HB513 HB512 HB511 HB510 CNa c0 c1 c2 c3 c4 c5 c6 HCX HCY MB HN11 HN12 HBX5 HBY5 HIX5 HIY
  go_loopw [23] (fun v23 wr => ∃ i : Nat, i ≤ n ∧ v23 = .int .i64 i ∧ Kp (Below w14.heap.size w14 wr)) (fun v23 _ => n - (intOf v23).toNat)
  case atStart => exact ⟨0, Nat.zero_le _, rfl, ⟨Below.refl _ _⟩⟩
  case round =>
    obtain ⟨i, hi, rfl, HBr⟩ := hrel
    by_cases hin : i < n
    · have hiz : (i : Int) < n := by omega
      obtain ⟨b1, rfl, p1, _⟩ := (HA.out.below HBr.out).at i hin
      obtain ⟨b2, rfl, p2, _⟩ := (HBb.out.below HBr.out).at i hin
      obtain ⟨b3, rfl, p3, _⟩ := (HD.out.below HBr.out).at i hin
      obtain ⟨b4, rfl, p4, _⟩ := (HE.out.below HBr.out).at i hin
      obtain ⟨b5, rfl, p5, _⟩ := (HRF.out.below HBr.out).at i hin
      simp only [Ex.sem, opB, if_true, if_false, Bool.false_eq_true] at p1 p2 p3 p4 p5
      have HSS : ∃ P Q, x.sem L i = P ∧ x'.sem L i = Q := ⟨_, _, rfl, rfl⟩
      obtain ⟨P, Q, e1, e2⟩ := HSS
      rw [e1, e2] at p1 p2
      rw [e1] at p3 p4 p5
      clear e1 e2
      cases P <;> cases Q <;> simp only [Bool.not_true, Bool.not_false, Bool.and_true, Bool.and_false, Bool.or_true, Bool.or_false, Bool.true_and, Bool.false_and, Bool.true_or, Bool.false_or, Bool.and_self, Bool.or_self] at p1 p2 p3 p4 p5
      all_goals
        have y1 := later_cell p1
        have y2 := later_cell p2
        have y3 := later_cell p3
        have y4 := later_cell p4
        have y5 := later_cell p5
        go_wp2
        go_quiet (fail)
        go_wp2
        go_roundw
        case rel => exact ⟨i + 1, by omega, by go_num, ⟨below_drewN HBr.out _⟩⟩
        case measure => simp [intOf]; omega
    · obtain rfl : i = n := by omega
      go_wp2
      go_ret
      refine ⟨rfl, ?_⟩
      exact below_step HB014.out HBr.out

end Go.Proofs.YteeeikninigeoaaGreatDoor
