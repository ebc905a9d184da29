/- The laws' own Flags and row. -/
import Derived.Test.YtaelcebfepbckaaBits
namespace Go.Proofs.Ytaelcebfepbckaa
set_option linter.unusedVariables false
open Go.RowKit

/-- What a law is told of a slice of bools that came in. -/
def IsBools (w : World) (a : Option Addr) (len cap : Nat) (B : Nat → Bool) : Prop :=
  (a = none ∧ len = 0 ∧ cap = 0) ∨ ∃ x, a = some x ∧ len ≤ cap ∧ cap ≤ maxLen ∧ ∀ i, i < cap → w.cell? (x.add i) = some (.bool (B i))
theorem row_bools {w : World} {a : Option Addr} {len cap : Nat} {B : Nat → Bool} (h : IsBools w a len cap B) : ∃ l : List Bool, l.length = len ∧ SlBo w a len cap l ∧ len ≤ maxLen := by
  rcases h with ⟨rfl, rfl, rfl⟩ | ⟨x, rfl, hl, hm, hc⟩
  · exact ⟨[], rfl, ⟨rfl, Nat.le_refl _, Nat.zero_le _, (fun _ => rfl), fun i hi => by simp [bls] at hi⟩, Nat.zero_le _⟩
  · refine ⟨(List.range len).map B, by simp, ⟨by simp [bls], hl, hm, (fun h => by cases h), fun i hi => ?_⟩, by omega⟩
    have hi' : i < len := by simpa [bls] using hi
    have h1 := hc i (by omega)
    obtain ⟨b, off, spot⟩ := x
    have hspot : spot = none := by
      have := World.cell?_spot (hc 0 (by omega))
      simpa [Addr.add] using this
    subst hspot
    rw [add_none] at h1
    refine ⟨b, off, rfl, ?_⟩
    rw [h1]
    simp [bls]
theorem SlBo.front {w : World} {a : Option Addr} {len cap m : Nat} {l : List Bool} (h : SlBo w a len cap l) (hm : m ≤ len) : SlBo w a m cap (l.take m) := by
  have := SlC.front h hm
  rw [Nat.mul_one] at this
  unfold SlBo
  rwa [show bls (l.take m) = (bls l).take m by simp [bls]]
theorem SlBo.below {w w' : World} {a : Option Addr} {n cap : Nat} {l : List Bool} (h : SlBo w a n cap l) (hb : Below w.heap.size w w') : SlBo w' a n cap l := SlC.below h hb

set_option maxHeartbeats 400000 in
theorem flags_any (a : Option Addr) (cap len n : Nat) (l : List Bool) (w : World) (h : SlBo w a len cap l) (hl : len ≤ 9223372036854775807) (hn : n ≤ 1000) :
    Calls Try.prog 28 #[.slice a len cap, .int .i64 n] w (fun e w' => ∃ b c, e = .returned (.slice b (min len n) c) ∧ OwnBo w.heap.size w' b (min len n) c (l.take (min len n)) ∧ Below w.heap.size w w') := by
  have hcap := h.le
  have hk : ∀ m, m ≤ len → m ≤ 1000 → (∀ W : World, W = w → SlBo W a m cap (l.take m)) := fun m hm _ W hW => by rw [hW]; exact h.front hm
  by_cases hlt : n < len
  · have H := Kp.mk (hk n (by omega) hn w rfl)
    have e0 : min len n = n := by omega
    rw [e0]
    unfold SlBo at H
    have hmc : n ≤ cap := by omega
    generalize l.take n = L at *
    clear h hk e0
    go_enter Try.func28, Try.ntmps28
    go_wp2_with (at_builtin; refine wpList_cat tBools rfl _ _ rfl w.heap.size none 0 0 [] rfl (World.ownsRow_nil _ _ _ _) _ _ _ _ rfl H.out (bls_one _) ?c1 (by decide) (Nat.le_refl _) ?c2)
    case c1 => omega
    case c2 =>
      intro sa cap' w' hown hbel
      have HO := Kp.mk hown
      have HB := Kp.mk hbel
      clear hown hbel
      go_wp2
      go_ret
      exact ⟨sa, cap', rfl, HO.out, HB.out⟩
  · have H := Kp.mk (hk len (by omega) (by omega) w rfl)
    have e0 : min len n = len := by omega
    rw [e0]
    unfold SlBo at H
    generalize l.take len = L at *
    clear h hk e0
    go_enter Try.func28, Try.ntmps28
    go_wp2_with (at_builtin; refine wpList_cat tBools rfl _ _ rfl w.heap.size none 0 0 [] rfl (World.ownsRow_nil _ _ _ _) _ _ _ _ rfl H.out (bls_one _) ?d1 (by decide) (Nat.le_refl _) ?d2)
    case d1 => omega
    case d2 =>
      intro sa cap' w' hown hbel
      have HO := Kp.mk hown
      have HB := Kp.mk hbel
      clear hown hbel
      go_wp2
      go_ret
      exact ⟨sa, cap', rfl, HO.out, HB.out⟩

theorem two_bools (w : World) (b : Nat) (h : b = w.heap.size) : SlBo (w.alloc (.cells #[.bool false, .bool true] 4)) (some ⟨b, 0, none⟩) 2 2 [false, true] := by
  subst h
  exact own_slc (World.ownsRow_lit (base := 0) w #[.bool false, .bool true] 2 (Nat.zero_le _) (by decide) rfl)
theorem two_word : wds (wordsOf (bitsN [false, true] 2) 1) = [.int .u64 2] := by
  have : bitsN [false, true] 2 = 2 := by rw [bitsN_succ, bitsN_succ, bitsN_zero]; rfl
  rw [this]; rfl

/-- A row of a list of flags, and 'true'. -/
def RowRet (w : World) (n : Nat) (E : List Bool) (e : Ending) (w' : World) : Prop :=
  ∃ sa cap, e = .returned (.tuple #[.agg #[.int .i64 n, .slice sa (bwN n) cap], .bool true]) ∧ w'.ownsRow w.heap.size 97 1 (.slice sa (bwN n) cap) (bwN n) (wds (wordsOf (bitsN E n) (bwN n))) ∧ Below w.heap.size w w'

set_option maxRecDepth 100000 in
set_option maxHeartbeats 1000000 in
theorem row_any (a : Option Addr) (cap n : Nat) (E : List Bool) (w : World) (h : SlBo w a n cap E) (hl : n ≤ 1000) :
    Calls Try.prog 29 #[.slice a n cap] w (RowRet w n E) := by
  have H := Kp.mk h
  clear h
  have hal := Kp.mk (below_alloc (Nat.le_refl w.heap.size) (Obj.cells #[Value.int IntKind.i64 0, Value.slice none 0 0] 57))
  have H0 := Kp.mk (H.out.below hal.out)
  have hw0 := alloc_size w (Obj.cells #[Value.int IntKind.i64 0, Value.slice none 0 0] 57)
  have hB0 := Kp.mk (Box.new w #[Value.int IntKind.i64 0, Value.slice none 0 0] 57)
  have HW0 := Kp.mk hw0
  unfold SlBo at H0
  clear hw0
  go_enter Try.func29, Try.ntmps29
  go_wp2_with (at_builtin; refine wpList_cat tBools rfl _ _ rfl (w.heap.size + 1) none 0 0 [] rfl (World.ownsRow_nil _ _ _ _) _ _ _ _ rfl H0.out (bls_one _) ?c1 (by decide) ?c0 ?c2)
  case c1 => omega
  case c0 => rw [HW0.out]; exact Nat.le_refl _
  case c2 =>
    intro sc cc w1 hown hbel
    have HO := Kp.mk (own_slc hown)
    have hbel' := hbel
    rw [← HW0.out] at hbel'
    have HB1 := Kp.mk (below_step hal.out hbel')
    have HBx1 := Kp.mk (hB0.out.below hbel')
    clear hown hbel hbel'
    have C := Kp.mk (bmake_any sc cc n E w1 HO.out (by omega))
    go_wp2_with fail
    refine C.out.mono ?_
    rintro e w2 ⟨sx, cx, rfl, hox, hbx⟩
    have hal2 := below_alloc (Nat.le_refl w2.heap.size) (Obj.cells #[Value.int IntKind.i64 ↑n, Value.slice sx (bwN n) cx] 57)
    have HX := Kp.mk (own_below hox hal2)
    have HB2 := Kp.mk (below_step (below_step HB1.out hbx) hal2)
    have HBx2 := Kp.mk ((HBx1.out.below hbx).below hal2)
    have HBn := Kp.mk (Box.new w2 #[Value.int IntKind.i64 ↑n, Value.slice sx (bwN n) cx] 57)
    have h12 : Kp (w.heap.size < w1.heap.size ∧ w1.heap.size ≤ w2.heap.size) := ⟨HBx1.out.lt, hbx.size⟩
    have C2 := Kp.mk (bmake_any (some ⟨w2.heap.size + 1, 0, none⟩) 2 2 [false, true] _ (two_bools (w2.alloc (Obj.cells #[Value.int IntKind.i64 ↑n, Value.slice sx (bwN n) cx] 57)) _ (by simp)) (by omega))
    clear hox hbx hal2 C
    go_wp2_with fail
    refine C2.out.mono ?_
    rintro e w5 ⟨so, co, rfl, hoo, hbo⟩
    rw [show bwN 2 = 1 by decide] at hoo ⊢
    rw [two_word] at hoo
    have hb5 := below_step (below_alloc (Nat.le_refl (w2.alloc (Obj.cells #[Value.int IntKind.i64 ↑n, Value.slice sx (bwN n) cx] 57)).heap.size) (Obj.cells #[Value.bool false, Value.bool true] 4)) hbo
    obtain ⟨g, rfl, hg1, hg2⟩ := own_some hoo (by omega)
    have hal6 := below_alloc (Nat.le_refl w5.heap.size) (Obj.cells #[Value.int IntKind.i64 2, Value.slice (some ⟨g, 0, none⟩) 1 co] 57)
    have hb6 := below_step hb5 hal6
    have HX6 := Kp.mk (own_below HX.out hb6)
    have HB6 := Kp.mk (below_step HB2.out hb6)
    have B4 := HBn.out.below hb6
    have B2 := HBx2.out.below hb6
    have B5 := Box.new w5 #[Value.int IntKind.i64 2, Value.slice (some ⟨g, 0, none⟩) 1 co] 57
    have cg := (own_below hoo hal6).cellAt 0 (by omega)
    have hs5 : w2.heap.size + 2 ≤ w5.heap.size := by
      have := hbo.size
      simp only [alloc_size] at this
      exact this
    have hg3 : w2.heap.size + 2 ≤ g := by
      simp only [alloc_size] at hg1
      exact hg1
    clear hb5 hal6 hb6 hbo hoo C2 HX HB2 HBx2 HBn
    go_wp2
    generalize w5.alloc (Obj.cells #[Value.int IntKind.i64 2, Value.slice (some ⟨g, 0, none⟩) 1 co] 57) = W at *
    obtain ⟨⟨x0, x1⟩, f0, f1⟩ := box2 B2
    obtain ⟨⟨y0, y1⟩, -⟩ := box2 B4
    obtain ⟨⟨z0, z1⟩, -⟩ := box2 B5
    have cg' : W.cell? ⟨g, 0, none⟩ = some (.int .u64 2) := cg
    obtain ⟨k1, k2⟩ := h12.out
    have n1 : w.heap.size ≠ w2.heap.size := by omega
    have n2 : w.heap.size ≠ w5.heap.size := by omega
    have n3 : w.heap.size ≠ g := by omega
    have n1' : w2.heap.size ≠ w.heap.size := by omega
    have n2' : w5.heap.size ≠ w.heap.size := by omega
    have n3' : g ≠ w.heap.size := by omega
    have B2' := Kp.mk B2
    clear B2 B4 B5 cg hg1 hg3
    go_region_held3 (fun w' => w'.cell? ⟨w2.heap.size, 0, none⟩ = some (.int .i64 n) ∧ w'.cell? ⟨w2.heap.size, 1, none⟩ = some (.slice sx (bwN n) cx) ∧ w'.cell? ⟨w5.heap.size, 1, none⟩ = some (.slice (some ⟨g, 0, none⟩) 1 co) ∧ w'.cell? ⟨g, 0, none⟩ = some (.int .u64 2))
      (go_keep) ((first | fail))
    all_goals
      go_wp2
      refine bodyPost_ret (v := .tuple #[.agg #[.int .i64 n, .slice sx (bwN n) cx], .bool true]) (by
        clear H HO hal H0 hB0 HW0 HX6 HB6 HB1 HBx1 B2' h12
        rw [results_cell_tmp rfl]
        go_simp) rfl ⟨sx, cx, rfl, ?_, ?_⟩
      · exact (own_base (ownsRow_setCell_below (ownsRow_setCell_below HX6.out k1 _) k1 _) (by omega)).drew
      · exact (((HB6.out.setCell (p := ⟨w.heap.size, 0, none⟩) (Nat.le_refl _) _).setCell (p := ⟨w.heap.size, 1, none⟩) (Nat.le_refl _) _)).drew

end Go.Proofs.Ytaelcebfepbckaa
