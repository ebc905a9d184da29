import Derived.Test.YteeeikninigeoaaGreatDoorMg3
import Derived.Test.YteeeikninigeoaaGreatDoorMg0
import Derived.Test.YteeeikninigeoaaGreatDoorMg1
/- Package query: Check: the walk. -/
namespace Go.Proofs.YteeeikninigeoaaGreatDoor
set_option linter.unusedVariables false
open Go.RowKit

set_option maxRecDepth 100000 in
set_option maxHeartbeats 4000000 in
theorem qcheck_any (x : Ex) (v : ExV) (w : World) (h : IsEx w x v) (hs : x.small) (hd : x.dep ≤ 8) (hl : x.txt.length ≤ 400) (hT : Tab w) :
    Calls Tryz.prog 36 #[.agg (exL v).toArray] w fun e w' => e = .returned (.int .i64 0) ∧ RowKit.Below w.heap.size w w' := by
  have HF := Kp.mk (fun (W : World) (hW : RowKit.Below w.heap.size w W) => fault_any x 0 v W (h.below hW) hs (by omega))
  have HX := Kp.mk (fun (W : World) (hW : RowKit.Below w.heap.size w W) => text_any x v W (h.below hW) hs (by omega) (hT.below hW))
  have hls : (⟨x.txt.toArray⟩ : ByteArray).size ≤ 400 := str_size hl
  clear h hs hd hT
  obtain ⟨k, a, b, c, d, y, sa, n, cap⟩ := v
  show Calls Tryz.prog 36 #[.agg #[.int .i64 k, .int .i64 a, .int .i64 b, .int .i64 c, .int .i64 d, .int .i64 y, .slice sa n cap]] w _
  generalize x.txt = t at *
  have HA := Kp.mk (below_alloc (Nat.le_refl w.heap.size) (.cells #[.int .i64 k, .int .i64 a, .int .i64 b, .int .i64 c, .int .i64 d, .int .i64 y, .slice sa n cap] 30))
  have HBX := Kp.mk (Box.new w #[.int .i64 k, .int .i64 a, .int .i64 b, .int .i64 c, .int .i64 d, .int .i64 y, .slice sa n cap] 30)
  obtain ⟨bz, hbz⟩ : ∃ bz, w.heap.size = bz := ⟨_, rfl⟩
  obtain ⟨w1, hw1⟩ : ∃ w1, w.alloc (.cells #[.int .i64 k, .int .i64 a, .int .i64 b, .int .i64 c, .int .i64 d, .int .i64 y, .slice sa n cap] 30) = w1 := ⟨_, rfl⟩
  rw [hw1] at HA HBX
  rw [hbz] at HBX
  have CF := Kp.mk (HF.out w1 HA.out)
  have z0 : w1.cell? ⟨bz, 0, none⟩ = some (.int .i64 k) := HBX.out.cell 0 rfl
  have z1 : w1.cell? ⟨bz, 1, none⟩ = some (.int .i64 a) := HBX.out.cell 1 rfl
  have z2 : w1.cell? ⟨bz, 2, none⟩ = some (.int .i64 b) := HBX.out.cell 2 rfl
  have z3 : w1.cell? ⟨bz, 3, none⟩ = some (.int .i64 c) := HBX.out.cell 3 rfl
  have z4 : w1.cell? ⟨bz, 4, none⟩ = some (.int .i64 d) := HBX.out.cell 4 rfl
  have z5 : w1.cell? ⟨bz, 5, none⟩ = some (.int .i64 y) := HBX.out.cell 5 rfl
  have z6 : w1.cell? ⟨bz, 6, none⟩ = some (.slice sa n cap) := HBX.out.cell 6 rfl
  have HBZ := Kp.mk hbz
  go_enter Tryz.func36, Tryz.ntmps36
  go_upto_region 1 with (fail)
  try rw [hw1]
  try simp only [hbz]
  clear hw1 hbz HF
  go_wp2_with fail
  refine CF.out.mono ?_
  rintro e w2 ⟨rfl, hb2⟩
  have HB2 := Kp.mk (below_step HA.out hb2)
  have hbx := HBX.out.below hb2
  have y0 : w2.cell? ⟨bz, 0, none⟩ = some (.int .i64 k) := hbx.cell 0 rfl
  have y1 : w2.cell? ⟨bz, 1, none⟩ = some (.int .i64 a) := hbx.cell 1 rfl
  have y2 : w2.cell? ⟨bz, 2, none⟩ = some (.int .i64 b) := hbx.cell 2 rfl
  have y3 : w2.cell? ⟨bz, 3, none⟩ = some (.int .i64 c) := hbx.cell 3 rfl
  have y4 : w2.cell? ⟨bz, 4, none⟩ = some (.int .i64 d) := hbx.cell 4 rfl
  have y5 : w2.cell? ⟨bz, 5, none⟩ = some (.int .i64 y) := hbx.cell 5 rfl
  have y6 : w2.cell? ⟨bz, 6, none⟩ = some (.slice sa n cap) := hbx.cell 6 rfl
  have CX := Kp.mk (HX.out w2 HB2.out)
  clear z0 z1 z2 z3 z4 z5 z6 hbx hb2 CF HBX HA HX
  go_wp2_with fail
  refine CX.out.mono ?_
  rintro e w3 ⟨rfl, hb3⟩
  have HB3 := Kp.mk (below_step HB2.out hb3)
  have hlz : (t.length : Int) ≤ 400 := by omega
  have hlz3 : ¬ 400 < t.length := by omega
  have hlz4 : decide (400 < t.length) = false := decide_eq_false (by omega)
  have hlz2 : ¬ ((⟨t.toArray⟩ : ByteArray).size : Int) > 400 := by omega
  clear y0 y1 y2 y3 y4 y5 y6 CX hb3
  go_wp2
  go_ret
  exact ⟨rfl, HB3.out⟩

end Go.Proofs.YteeeikninigeoaaGreatDoor

/- cmp.Compare of integers. -/
namespace Go.Proofs.YteeeikninigeoaaGreatDoor
set_option linter.unusedVariables false
open Go.RowKit

def cmpI (x y : Int) : Int := if x < y then -1 else if y < x then 1 else 0
def or3 (a b c : Int) : Int := if a ≠ 0 then a else if b ≠ 0 then b else c

set_option maxHeartbeats 400000 in
theorem cmpNaN_any (x : Int) (w : World) : Calls Tryz.prog 103 #[.int .i64 x] w fun e w' => e = .returned (.bool false) ∧ w = w' := by
  go_enter Tryz.func103, Tryz.ntmps103
  go_wp2
  go_ret
  exact ⟨by simp, rfl⟩

set_option maxHeartbeats 400000 in
theorem compare_any (x y : Int) (w : World) : Calls Tryz.prog 71 #[.int .i64 x, .int .i64 y] w fun e w' => e = .returned (.int .i64 (cmpI x y)) ∧ w = w' := by
  have C := Kp.mk (cmpNaN_any)
  have hor : (x < y ∧ Kp (cmpI x y = -1)) ∨ ((¬ x < y ∧ y < x) ∧ Kp (cmpI x y = 1)) ∨ ((¬ x < y ∧ ¬ y < x) ∧ Kp (cmpI x y = 0)) := by
    unfold cmpI
    by_cases h1 : x < y
    · exact .inl ⟨h1, ⟨if_pos h1⟩⟩
    · by_cases h2 : y < x
      · exact .inr (.inl ⟨⟨h1, h2⟩, ⟨by rw [if_neg h1, if_pos h2]⟩⟩)
      · exact .inr (.inr ⟨⟨h1, h2⟩, ⟨by rw [if_neg h1, if_neg h2]⟩⟩)
  rcases hor with ⟨h1, H⟩ | ⟨⟨h1, h2⟩, H⟩ | ⟨⟨h1, h2⟩, H⟩
  all_goals
    rw [H.out]
    clear H
    go_enter Tryz.func71, Tryz.ntmps71
    go_wp2_with (go_at_call 103; refine (C.out _ _).mono ?_; rintro e w' ⟨rfl, rfl⟩)
    go_ret
    exact ⟨rfl, rfl⟩


end Go.Proofs.YteeeikninigeoaaGreatDoor

/- Plain facts on points. -/
namespace Go.Proofs.YteeeikninigeoaaGreatDoor
set_option linter.unusedVariables false
open Go.RowKit

/-- A point. -/
structure Pt where
  x : Int
  y : Int
  w : Int
instance : Inhabited Pt := ⟨⟨0, 0, 0⟩⟩

def ptL (p : Pt) : List Value := [.int .i64 p.x, .int .i64 p.y, .int .i64 p.w]
theorem ptL_len (p : Pt) : (ptL p).length = 3 := rfl
theorem ptL_one (p : Pt) : ∀ u ∈ ptL p, u.oneCell' = true := by simp [ptL, Value.oneCell']
abbrev pt0 : Pt := ⟨0, 0, 0⟩
structure Pt.Wf (p : Pt) : Prop where
  x : (Lit.int .i64 p.x).wf = true
  y : (Lit.int .i64 p.y).wf = true
  w : (Lit.int .i64 p.w).wf = true
/-- All coordinates are near. -/
def Pt.Near (p : Pt) : Prop := (-1048576 ≤ p.x ∧ p.x ≤ 1048576) ∧ (-1048576 ≤ p.y ∧ p.y ≤ 1048576) ∧ (-1048576 ≤ p.w ∧ p.w ≤ 1048576)
/-- The point of a raw spot. -/
def ptOf (bound : Int) (s : Pt) : Pt := ⟨pick s.x bound, pick s.y bound, pick s.w 20⟩
def ptsOf (L : List Pt) (n : Nat) (bound : Int) : List Pt := (L.take n).map (ptOf bound)
theorem ptsOf_length (L : List Pt) (n : Nat) (bound : Int) : (ptsOf L n bound).length = min n L.length := by simp [ptsOf]
theorem ptsOf_succ (L : List Pt) (k : Nat) (bound : Int) (h : k < L.length) : ptsOf L (k + 1) bound = ptsOf L k bound ++ [ptOf bound L[k]] := by
  rw [ptsOf, List.take_succ_eq_append_getElem h, List.map_append]; rfl
theorem ptsOf_bd (L : List Pt) (n : Nat) (bound : Int) (h : 0 < bound) : ∀ p ∈ ptsOf L n bound, (0 ≤ p.x ∧ p.x < bound) ∧ (0 ≤ p.y ∧ p.y < bound) ∧ (0 ≤ p.w ∧ p.w < 20) := by
  intro p hp
  obtain ⟨s, _, rfl⟩ := List.mem_map.1 hp
  exact ⟨pick_bd s.x bound h, pick_bd s.y bound h, pick_bd s.w 20 (by omega)⟩
attribute [irreducible] ptsOf

/-- The spots that came in. -/
theorem spots_in {w : World} {a : Option Addr} {len cap : Nat} {zs : List Int} (h : IsFlat 3 w a len cap zs) : ∃ L : List Pt, SlF ptL 3 w a len cap L ∧ (∀ x ∈ L, x.Wf) ∧ len ≤ maxLen := by
  obtain ⟨h1, h2, h3, h4⟩ := flat_slc (by omega) h
  have key : ∀ (n : Nat) (zs : List Int), zs.length = n * 3 → (∀ n ∈ zs, (Lit.int .i64 n).wf = true) → ∃ L : List Pt, flat ptL L = ints zs ∧ ∀ x ∈ L, x.Wf := by
    intro n
    induction n with
    | zero =>
      intro zs hz _
      obtain rfl : zs = [] := List.length_eq_zero_iff.1 (by omega)
      exact ⟨[], rfl, by simp⟩
    | succ n ih =>
      intro zs hz hw
      match zs, hz, hw with
      | a :: b :: c :: zs, hz, hw =>
        obtain ⟨L, hL, hwL⟩ := ih zs (by simp at hz; omega) (fun n hn => hw n (by simp [hn]))
        refine ⟨⟨a, b, c⟩ :: L, ?_, fun x hx => ?_⟩
        · have : flat ptL (⟨a, b, c⟩ :: L) = ptL ⟨a, b, c⟩ ++ flat ptL L := by simp [flat]
          rw [this, hL]; rfl
        · rcases List.mem_cons.1 hx with rfl | hx
          · exact ⟨hw a (by simp), hw b (by simp), hw c (by simp)⟩
          · exact hwL x hx
      | [], hz, _ => simp at hz
      | [_], hz, _ => simp at hz; omega
      | [_, _], hz, _ => simp at hz; omega
  obtain ⟨L, hL, hw⟩ := key len zs h4 h2
  exact ⟨L, by unfold SlF; rw [hL]; exact h1, hw, h3⟩

end Go.Proofs.YteeeikninigeoaaGreatDoor

