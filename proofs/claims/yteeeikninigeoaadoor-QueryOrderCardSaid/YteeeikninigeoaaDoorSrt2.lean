/- slices.Collect, Sorted, Compact at ints. -/
import Derived.Test.YteeeikninigeoaaDoorSrt
import Derived.Test.YteeeikninigeoaaDoorDel
import Derived.Test.YteeeikninigeoaaDoorRnkP
import Derived.Sort.OwnSortedInts
namespace Go.Proofs.YteeeikninigeoaaDoor
set_option linter.unusedVariables false
open Go.RowKit

theorem collect_any (a : Option Addr) (c n bs : Nat) (l : List Int) (w0 w : World) (hs : SlI w0 a c l) (hl : l.length = n) (hn : n ≤ 100000) (hb : Below w0.heap.size w0 w) (hc : w.cell? ⟨bs, 0, none⟩ = some (.slice a n c)) :
    Calls Tryd.prog 101 #[.func (.func 103) #[] #[.pointer (some ⟨bs, 0, none⟩)]] w fun e w' => ∃ ra rc, e = .returned (.slice ra n rc) ∧ Kp (w'.ownsRow w.heap.size 3 1 (.slice ra n rc) n (ints l)) ∧ Kp (Below w.heap.size w w') := by
  have C := Kp.mk (appendSeq_any a c n bs l w0 w hs hl hn hb hc)
  clear hs hl hb hc
  go_enter Tryd.func101, Tryd.ntmps101
  go_wp2_with fail
  refine C.out.mono ?_
  rintro e w1 ⟨ra, rc, rfl, HR, HB⟩
  go_wp2
  go_ret
  exact ⟨ra, rc, rfl, HR, HB⟩

/-- slices.Sort on a slice of the call's own. -/
theorem sort_own (B : Nat) (a : Option Addr) (c n : Nat) (l : List Int) (w : World) (h : w.ownsRow B 3 1 (.slice a n c) n (ints l)) (hl : l.length = n) (hn : n ≤ 100000) (hB : B ≤ w.heap.size) :
    Calls Tryd.prog 102 #[.slice a n c] w fun e w' => e = .returned (.tuple #[]) ∧ Kp (w'.ownsRow B 3 1 (.slice a n c) n (ints (l.mergeSort fun x y => decide (x ≤ y)))) ∧ Kp (Below B w w') := by
  by_cases h0 : n = 0
  · subst h0
    obtain rfl : l = [] := List.length_eq_zero_iff.1 hl
    exact (Tryd.slices_Sort_int_none a c w).mono fun e w' ⟨h1, h2⟩ => ⟨h1, by subst h2; exact ⟨by simpa [ints] using h⟩, by subst h2; exact ⟨Below.refl _ _⟩⟩
  · subst hl
    obtain ⟨g, rfl, hg, hg2⟩ := own_some h (by omega)
    rcases h.2 with ⟨hv, _⟩ | ⟨g', cap', cur, hv, hB', hgb, h1, h2, h3, h4⟩
    · cases hv
    simp only [Value.slice.injEq, Option.some.injEq, Addr.mk.injEq, and_true, true_and] at hv
    obtain ⟨rfl, rfl⟩ := hv
    refine (Tryd.slices_Sort_int g 0 c l w (holds_of_blockI hgb (by rw [Nat.mul_one] at h4; exact h4)) hg2 (by omega)).mono ?_
    rintro e w' ⟨rfl, k, os, rfl⟩
    refine ⟨rfl, ⟨?_⟩, ⟨?_⟩⟩
    · exact ownsRow_sortedI (by rw [List.length_mergeSort]) hB' hgb h1 h2 h3
    · exact below_of_grown (grownBy_sortedI _) hB (fun q hq => by cases hq; exact hB')

set_option maxHeartbeats 1000000 in
theorem sorted_any (a : Option Addr) (c n bs : Nat) (l : List Int) (w0 w : World) (hs : SlI w0 a c l) (hl : l.length = n) (hn : n ≤ 100000) (hb : Below w0.heap.size w0 w) (hc : w.cell? ⟨bs, 0, none⟩ = some (.slice a n c)) :
    Calls Tryd.prog 76 #[.func (.func 103) #[] #[.pointer (some ⟨bs, 0, none⟩)]] w fun e w' => ∃ ra rc, e = .returned (.slice ra n rc) ∧ Kp (w'.ownsRow w.heap.size 3 1 (.slice ra n rc) n (ints (l.mergeSort fun x y => decide (x ≤ y)))) ∧ Kp (Below w.heap.size w w') := by
  have C := Kp.mk (collect_any a c n bs l w0 w hs hl hn hb hc)
  have HL := Kp.mk hl
  clear hs hl hb hc
  go_enter Tryd.func76, Tryd.ntmps76
  go_wp2_with fail
  refine C.out.mono ?_
  rintro e w1 ⟨ra, rc, rfl, HR, HB⟩
  go_wp2_with fail
  refine (sort_own w.heap.size ra rc n l w1 HR.out HL.out hn HB.out.size).mono ?_
  rintro e w2 ⟨rfl, HS, HB2⟩
  have HF := Kp.mk (HB.out.trans HB2.out)
  go_wp2
  go_ret
  exact ⟨ra, rc, rfl, HS, HF⟩

theorem compact_own (B : Nat) (a : Option Addr) (c n : Nat) (l : List Int) (w : World) (h : w.ownsRow B 3 1 (.slice a n c) n (ints l)) (hl : l.length = n) (hn : n ≤ 100000) (hB : B ≤ w.heap.size) :
    Calls Tryd.prog 75 #[.slice a n c] w fun e w' => ∃ m, e = .returned (.slice a m c) ∧ m = (Lib.compact l).length ∧ Kp (w'.ownsRow B 3 1 (.slice a m c) m (ints (Lib.compact l))) ∧ Kp (Below B w w') := by
  by_cases h0 : n = 0
  · subst h0
    obtain rfl : l = [] := List.length_eq_zero_iff.1 hl
    exact (Tryd.slices_Compact_int_empty a c w).mono fun e w' ⟨h1, h2⟩ => ⟨0, h1, rfl, by subst h2; exact ⟨h⟩, by subst h2; exact ⟨Below.refl _ _⟩⟩
  · obtain ⟨g, rfl, hg, hg2⟩ := own_some h (by omega)
    have hle := Lib.compact_length_le l
    have hsl := own_slc h
    refine (Tryd.slices_Compact_int_cells g 0 n c l w (by omega) (by omega) hsl.le (fun j hj => ?_) (fun j hj => by rw [Nat.zero_add]; exact h.frozenAt j)).mono ?_
    · rw [Nat.zero_add, h.cellAt j (by omega)]
      rw [List.getElem?_eq_getElem (by rw [ints_length]; exact hj), ints_get, getD_at _ _ hj]
    · rintro e w' ⟨rfl, q, rfl⟩
      rw [List.take_of_length_le (by omega)]
      refine ⟨_, rfl, rfl, ⟨?_⟩, ⟨?_⟩⟩
      · have hd : (w.drewN q).ownsRow B 3 1 (.slice (some ⟨g, 0, none⟩) n c) n (ints l) := own_below h (drewN_below q)
        have hlen : ((Lib.compact l ++ List.replicate (n - (Lib.compact l).length) 0).map (Value.int .i64)).length = n := by
          rw [List.length_map, List.length_append, List.length_replicate]; omega
        have h1 := (own_setCells _ 0 (w.drewN q) _ hd (by rw [Nat.zero_add, hlen]; exact Nat.le_refl _)).1
        have h2 := own_front h1 (m := (Lib.compact l).length) (by omega)
        have e : (List.take 0 (ints l) ++ List.map (Value.int .i64) (Lib.compact l ++ List.replicate (n - (Lib.compact l).length) 0) ++ List.drop (0 + (List.map (Value.int .i64) (Lib.compact l ++ List.replicate (n - (Lib.compact l).length) 0)).length) (ints l)).take (Lib.compact l).length = ints (Lib.compact l) := by
          rw [List.take_zero, List.nil_append, List.map_append, List.append_assoc, List.take_append_of_le_length (by rw [List.length_map]; exact Nat.le_refl _), List.take_of_length_le (by rw [List.length_map]; exact Nat.le_refl _)]
          rfl
        rwa [e] at h2
      · have hd : (w.drewN q).ownsRow B 3 1 (.slice (some ⟨g, 0, none⟩) n c) n (ints l) := own_below h (drewN_below q)
        have hlen : ((Lib.compact l ++ List.replicate (n - (Lib.compact l).length) 0).map (Value.int .i64)).length = n := by
          rw [List.length_map, List.length_append, List.length_replicate]; omega
        have h1 := (own_setCells _ 0 (w.drewN q) _ hd (by rw [Nat.zero_add, hlen]; exact Nat.le_refl _)).2
        exact (drewN_below q).trans (below_of_grown h1 hB (fun k hk => by cases hk; exact hg))

end Go.Proofs.YteeeikninigeoaaDoor
