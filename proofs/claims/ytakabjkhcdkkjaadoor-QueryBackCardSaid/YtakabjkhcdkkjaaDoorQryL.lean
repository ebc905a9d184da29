/- The parser: what it holds; the next word. -/
import Derived.Test.YtakabjkhcdkkjaaDoorQryR
import Derived.Test.YtakabjkhcdkkjaaDoorQryX
import Derived.Test.YtakabjkhcdkkjaaDoorQryK
namespace Go.Proofs.YtakabjkhcdkkjaaDoor
set_option linter.unusedVariables false
open Go.RowKit Qk

theorem SlC.back {w : World} {ad : Addr} {len cap size m : Nat} {cs : List Value} (h : SlC w (some ad) len cap size cs) (hm : m ≤ len) : SlC w (some (ad.add (m * size))) (len - m) (cap - m) size (cs.drop (m * size)) := by
  refine ⟨by rw [List.length_drop, h.hlen, Nat.mul_sub_right_distrib], by have := h.le; omega, by have := h.capm; omega, (fun e => by cases e), fun i hi => ?_⟩
  rw [List.length_drop] at hi
  obtain ⟨b, off, ha, hc⟩ := h.cell (m * size + i) (by omega)
  obtain rfl := Option.some.inj ha
  refine ⟨b, off + m * size, by simp [Addr.add], ?_⟩
  rw [Nat.add_assoc, hc, List.getElem_drop]

/-- A parser that is not bad, with so many words left. -/
structure PS (w0 w : World) (pb : Nat) (la : Option Addr) (lc : Nat) (T : List Wd) : Prop where
  box : Box w pb #[.slice la T.length lc, .bool false] 46
  row : SlC w la T.length lc 1 (strs T)
  lt : ∀ k, blk la = some k → k < w0.heap.size
  tab : Tab w0
  bel : Below w0.heap.size w0 w
  lo : w0.heap.size ≤ pb
theorem PS.grown {w0 w w' : World} {pb lc lc' : Nat} {la la' : Option Addr} {T T' : List Wd} (h : PS w0 w pb la lc T) (hg : w.grownBy w' (some pb)) (hb : Box w' pb #[.slice la' T'.length lc', .bool false] 46) (hr : SlC w' la' T'.length lc' 1 (strs T')) (hn : ∀ k, blk la' = some k → k < w0.heap.size) : PS w0 w' pb la' lc' T' :=
  ⟨hb, hr, hn, h.tab, h.bel.trans (below_of_grown hg h.bel.size (fun q hq => by cases hq; exact h.lo)), h.lo⟩
theorem PS.later {w0 w w' : World} {pb lc : Nat} {la : Option Addr} {T : List Wd} (h : PS w0 w pb la lc T) (hb : Below w.heap.size w w') : PS w0 w' pb la lc T :=
  ⟨h.box.below hb, h.row.below hb, h.lt, h.tab, h.bel.trans (hb.mono h.bel.size), h.lo⟩
theorem PS.keep {w0 w w' : World} {pb lc : Nat} {b : Option Nat} {la : Option Addr} {T : List Wd} (h : PS w0 w pb la lc T) (hg : w.grownBy w' b) (hq : ∀ k, b = some k → k ≠ pb ∧ w0.heap.size ≤ k) : PS w0 w' pb la lc T :=
  ⟨box_grow h.box hg (fun e => (hq _ e).1 rfl), h.row.keep hg (fun k e e2 => by have := (hq k e).2; have := h.lt _ e2; omega), h.lt, h.tab, h.bel.trans (below_of_grown hg h.bel.size (fun k e => (hq k e).2)), h.lo⟩
theorem PS.tabs {w0 w : World} {pb lc : Nat} {la : Option Addr} {T : List Wd} (h : PS w0 w pb la lc T) : Tab w := h.tab.below h.bel
/-- The first word. -/
theorem PS.head {w0 w : World} {pb lc : Nat} {la : Option Addr} {t : Wd} {R : List Wd} (h : PS w0 w pb la lc (t :: R)) : ∃ b o, la = some ⟨b, o, none⟩ ∧ w.cell? ⟨b, o, none⟩ = some (str t) := by
  obtain ⟨b, o, ha, hc⟩ := h.row.cell 0 (by simp [strs])
  exact ⟨b, o, ha, by simpa [strs] using hc⟩
/-- The first word is taken. -/
theorem PS.tail {w0 w : World} {pb lc b o : Nat} {t : Wd} {R : List Wd} (h : PS w0 w pb (some ⟨b, o, none⟩) lc (t :: R)) : PS w0 (w.setCell ⟨pb, 0, none⟩ (.slice (some ⟨b, o + 1, none⟩) R.length (lc - 1))) pb (some ⟨b, o + 1, none⟩) (lc - 1) R := by
  have hg := grown_set w pb 0 (.slice (some ⟨b, o + 1, none⟩) R.length (lc - 1))
  have hlt := h.lt b rfl
  have hne : b ≠ pb := by have := h.lo; omega
  have h1 := h.row.keep hg (fun k e e2 => by cases e; exact hne (by simpa [blk] using e2))
  have h2 := SlC.back h1 (m := 1) (by simp)
  have h3 : SlC (w.setCell ⟨pb, 0, none⟩ (.slice (some ⟨b, o + 1, none⟩) R.length (lc - 1))) (some ⟨b, o + 1, none⟩) R.length (lc - 1) 1 (strs R) := by simpa [Addr.add, strs] using h2
  refine h.grown hg ?_ h3 (fun k e => by cases e; exact hlt)
  have := box_put (i := 0) h.box (.slice (some ⟨b, o + 1, none⟩) R.length (lc - 1))
  simpa using this
theorem PS.tail0 {w0 w : World} {pb b o : Nat} {t : Wd} {R : List Wd} (h : PS w0 w pb (some ⟨b, o, none⟩) 1 (t :: R)) : R = [] ∧ PS w0 (w.setCell ⟨pb, 0, none⟩ (.slice (some ⟨b, o, none⟩) 0 0)) pb (some ⟨b, o, none⟩) 0 [] := by
  have hl := h.row.le
  have hR : R = [] := by rw [← List.length_eq_zero_iff]; simpa using hl
  refine ⟨hR, h.grown (grown_set w pb 0 _) ?_ ⟨rfl, Nat.le_refl _, Nat.zero_le _, (fun e => by cases e), (fun i hi => absurd hi (by simp [strs]))⟩ h.lt⟩
  have := box_put (i := 0) h.box (.slice (some ⟨b, o, none⟩) 0 0)
  simpa using this

set_option maxRecDepth 100000 in
set_option maxHeartbeats 4000000 in
theorem takes_yes (w0 w : World) (pb : Nat) (la : Option Addr) (lc : Nat) (t : Wd) (R : List Wd) (h : PS w0 w pb la lc (t :: R)) :
    Calls Tryd.prog 28 #[.pointer (some ⟨pb, 0, none⟩), str t] w fun e w' => ∃ la' lc', e = .returned (.bool true) ∧ Kp (PS w0 w' pb la' lc' R) ∧ Kp (w.grownBy w' (some pb)) := by
  obtain ⟨b, o, rfl, hc⟩ := h.head
  have k0 : w.cell? ⟨pb, 0, none⟩ = some (.slice (some ⟨b, o, none⟩) (R.length + 1) lc) := h.box.cell 0 rfl
  have hf := h.box.free 0
  have hlc := h.row.le
  simp only [List.length_cons] at hlc
  by_cases hc1 : lc = 1
  · subst hc1
    obtain ⟨rfl, hp⟩ := h.tail0
    have HP := Kp.mk hp
    have HG := Kp.mk (grown_set w pb 0 (.slice (some ⟨b, o, none⟩) 0 0))
    clear h hp
    go_enter Tryd.func28, Tryd.ntmps28
    go_wp2
    go_ret
    exact ⟨_, _, rfl, HP, HG⟩
  · have HP := Kp.mk h.tail
    have HG := Kp.mk (grown_set w pb 0 (.slice (some ⟨b, o + 1, none⟩) R.length (lc - 1)))
    clear h
    go_enter Tryd.func28, Tryd.ntmps28
    go_wp2
    go_ret
    exact ⟨_, _, rfl, HP, HG⟩

set_option maxRecDepth 100000 in
set_option maxHeartbeats 4000000 in
theorem takes_no (w0 w : World) (pb : Nat) (la : Option Addr) (lc : Nat) (t : Wd) (T : List Wd) (h : PS w0 w pb la lc T) (hn : T.head? ≠ some t) :
    Calls Tryd.prog 28 #[.pointer (some ⟨pb, 0, none⟩), str t] w fun e w' => e = .returned (.bool false) ∧ Kp (PS w0 w' pb la lc T) ∧ Kp (Below w.heap.size w w') := by
  have HP := Kp.mk (fun (W : World) (hW : Below w.heap.size w W) => h.later hW)
  cases T with
  | nil =>
    have k0 : w.cell? ⟨pb, 0, none⟩ = some (.slice la 0 lc) := h.box.cell 0 rfl
    clear h
    go_enter Tryd.func28, Tryd.ntmps28
    go_wp2
    go_ret
    exact ⟨rfl, ⟨HP.out _ (Below.refl _ _)⟩, ⟨Below.refl _ _⟩⟩
  | cons u R =>
    have hne : u ≠ t := fun e => hn (by rw [e]; rfl)
    have e1 : (u == t) = false := by rw [beq_eq_false_iff_ne]; exact hne
    have e2 : ((R.length : Int) + 1 == 0) = false := by rw [beq_eq_false_iff_ne]; omega
    obtain ⟨b, o, rfl, hc⟩ := h.head
    have k0 : w.cell? ⟨pb, 0, none⟩ = some (.slice (some ⟨b, o, none⟩) (R.length + 1) lc) := h.box.cell 0 rfl
    clear h hn hne
    go_enter Tryd.func28, Tryd.ntmps28
    go_wp2
    go_ret
    exact ⟨rfl, ⟨HP.out _ (Below.refl _ _)⟩, ⟨Below.refl _ _⟩⟩

end Go.Proofs.YtakabjkhcdkkjaaDoor
