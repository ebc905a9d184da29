import Derived.Test.YteeeikninigeoaaGreatDoorMg0
import Derived.Test.YteeeikninigeoaaGreatDoorMg9
import Derived.Test.YteeeikninigeoaaGreatDoorMg6
import Derived.Sort.OwnSortedInts
import Derived.Test.YteeeikninigeoaaGreatDoorShelf
/- An element is taken out of a slice of the call's own. -/
namespace Go.Proofs.YteeeikninigeoaaGreatDoor
set_option linter.unusedVariables false
open Go.RowKit

theorem own_setCells {B e g n cap : Nat} : ∀ (vs : List Value) (o : Nat) (w : World) (xs : List Value), w.ownsRow B e 1 (.slice (some ⟨g, 0, none⟩) n cap) n xs → o + vs.length ≤ n →
    (w.setCells g o vs).ownsRow B e 1 (.slice (some ⟨g, 0, none⟩) n cap) n (xs.take o ++ vs ++ xs.drop (o + vs.length)) ∧ w.grownBy (w.setCells g o vs) (some g)
  | [], o, w, xs, h, hl => by
    refine ⟨?_, grown_refl _ _⟩
    simp only [List.append_nil, List.length_nil, Nat.add_zero, List.take_append_drop]
    exact h
  | v :: vs, o, w, xs, h, hl => by
    have hxl : xs.length = n := by rw [h.1, Nat.mul_one]
    have h1 := (h.stored o v).1
    obtain ⟨h2, h3⟩ := own_setCells vs (o + 1) (w.setCell ⟨g, o, none⟩ v) _ h1 (by simp at hl; omega)
    refine ⟨?_, grown_trans (grown_set w g o v) h3⟩
    have e : (xs.set o v).take (o + 1) ++ vs ++ (xs.set o v).drop (o + 1 + vs.length) = xs.take o ++ (v :: vs) ++ xs.drop (o + (v :: vs).length) := by
      have ho : o < xs.length := by simp at hl; omega
      rw [List.drop_set_of_lt (by omega), List.take_set]
      rw [List.take_succ_eq_append_getElem ho, List.set_append_right _ _ (by simp; omega)]
      simp [Nat.min_eq_left (Nat.le_of_lt ho), Nat.add_assoc, Nat.add_comm 1]
    rw [← e]
    exact h2
theorem own_front {w : World} {B e g n m cap : Nat} {xs : List Value} (h : w.ownsRow B e 1 (.slice (some ⟨g, 0, none⟩) n cap) n xs) (hm : m ≤ n) : w.ownsRow B e 1 (.slice (some ⟨g, 0, none⟩) m cap) m (xs.take m) := by
  have hxl : xs.length = n := by rw [h.1, Nat.mul_one]
  refine ⟨by rw [List.length_take, hxl]; omega, ?_⟩
  rcases h.2 with ⟨hv, _⟩ | ⟨g', cap', cur, hv, hB, hg, h1, h2, h3, h4⟩
  · cases hv
  · simp only [Value.slice.injEq, Option.some.injEq, Addr.mk.injEq, and_true, true_and] at hv
    obtain ⟨rfl, rfl⟩ := hv
    refine .inr ⟨g, cap, cur, rfl, hB, hg, by omega, h2, h3, ?_⟩
    rw [← h4, Nat.mul_one, Nat.mul_one, List.take_take, Nat.min_eq_left hm]
/-- The row behind 'append(s[:i], s[i+1:]...)'. -/
theorem own_del {w : World} {B g n cap i : Nat} {L : List Int} (h : w.ownsRow B 3 1 (.slice (some ⟨g, 0, none⟩) n cap) n (ints L)) (hi : i < n) :
    (w.setCells g i (ints (L.drop (i + 1)))).ownsRow B 3 1 (.slice (some ⟨g, 0, none⟩) (i + (n - (i + 1))) cap) (i + (n - (i + 1))) (ints (L.eraseIdx i)) ∧ w.grownBy (w.setCells g i (ints (L.drop (i + 1)))) (some g) := by
  have hL : L.length = n := by have := h.1; rwa [ints_length, Nat.mul_one] at this
  obtain ⟨h1, h2⟩ := own_setCells (ints (L.drop (i + 1))) i w _ h (by rw [ints_length, List.length_drop]; omega)
  refine ⟨?_, h2⟩
  have h3 := own_front h1 (m := i + (n - (i + 1))) (by omega)
  have e : ((ints L).take i ++ ints (L.drop (i + 1)) ++ (ints L).drop (i + (ints (L.drop (i + 1))).length)).take (i + (n - (i + 1))) = ints (L.eraseIdx i) := by
    rw [List.eraseIdx_eq_take_drop_succ, ints_append]
    have e1 : (ints L).take i = ints (L.take i) := by simp [ints]
    rw [e1, List.take_append_of_le_length (by rw [List.length_append, ints_length, ints_length, List.length_take, List.length_drop, hL]; omega)]
    apply List.take_of_length_le
    rw [List.length_append, ints_length, ints_length, List.length_take, List.length_drop, hL]; omega
  rwa [e] at h3

end Go.Proofs.YteeeikninigeoaaGreatDoor

/- slices.Collect, Sorted, Compact at ints. -/
namespace Go.Proofs.YteeeikninigeoaaGreatDoor
set_option linter.unusedVariables false
open Go.RowKit

theorem collect_any (a : Option Addr) (c n bs : Nat) (l : List Int) (w0 w : World) (hs : SlI w0 a c l) (hl : l.length = n) (hn : n ≤ 100000) (hb : Below w0.heap.size w0 w) (hc : w.cell? ⟨bs, 0, none⟩ = some (.slice a n c)) :
    Calls Tryz.prog 192 #[.func (.func 194) #[] #[.pointer (some ⟨bs, 0, none⟩)]] w fun e w' => ∃ ra rc, e = .returned (.slice ra n rc) ∧ Kp (w'.ownsRow w.heap.size 3 1 (.slice ra n rc) n (ints l)) ∧ Kp (Below w.heap.size w w') := by
  have C := Kp.mk (appendSeq_any a c n bs l w0 w hs hl hn hb hc)
  clear hs hl hb hc
  go_enter Tryz.func192, Tryz.ntmps192
  go_wp2_with fail
  refine C.out.mono ?_
  rintro e w1 ⟨ra, rc, rfl, HR, HB⟩
  go_wp2
  go_ret
  exact ⟨ra, rc, rfl, HR, HB⟩

/-- slices.Sort on a slice of the call's own. -/
theorem sort_own (B : Nat) (a : Option Addr) (c n : Nat) (l : List Int) (w : World) (h : w.ownsRow B 3 1 (.slice a n c) n (ints l)) (hl : l.length = n) (hn : n ≤ 100000) (hB : B ≤ w.heap.size) :
    Calls Tryz.prog 193 #[.slice a n c] w fun e w' => e = .returned (.tuple #[]) ∧ Kp (w'.ownsRow B 3 1 (.slice a n c) n (ints (l.mergeSort fun x y => decide (x ≤ y)))) ∧ Kp (Below B w w') := by
  by_cases h0 : n = 0
  · subst h0
    obtain rfl : l = [] := List.length_eq_zero_iff.1 hl
    exact (Tryz.slices_Sort_int_none a c w).mono fun e w' ⟨h1, h2⟩ => ⟨h1, by subst h2; exact ⟨by simpa [ints] using h⟩, by subst h2; exact ⟨Below.refl _ _⟩⟩
  · subst hl
    obtain ⟨g, rfl, hg, hg2⟩ := own_some h (by omega)
    rcases h.2 with ⟨hv, _⟩ | ⟨g', cap', cur, hv, hB', hgb, h1, h2, h3, h4⟩
    · cases hv
    simp only [Value.slice.injEq, Option.some.injEq, Addr.mk.injEq, and_true, true_and] at hv
    obtain ⟨rfl, rfl⟩ := hv
    refine (Tryz.slices_Sort_int g 0 c l w (holds_of_blockI hgb (by rw [Nat.mul_one] at h4; exact h4)) hg2 (by omega)).mono ?_
    rintro e w' ⟨rfl, k, os, rfl⟩
    refine ⟨rfl, ⟨?_⟩, ⟨?_⟩⟩
    · exact ownsRow_sortedI (by rw [List.length_mergeSort]) hB' hgb h1 h2 h3
    · exact below_of_grown (grownBy_sortedI _) hB (fun q hq => by cases hq; exact hB')

set_option maxHeartbeats 1000000 in
theorem sorted_any (a : Option Addr) (c n bs : Nat) (l : List Int) (w0 w : World) (hs : SlI w0 a c l) (hl : l.length = n) (hn : n ≤ 100000) (hb : Below w0.heap.size w0 w) (hc : w.cell? ⟨bs, 0, none⟩ = some (.slice a n c)) :
    Calls Tryz.prog 170 #[.func (.func 194) #[] #[.pointer (some ⟨bs, 0, none⟩)]] w fun e w' => ∃ ra rc, e = .returned (.slice ra n rc) ∧ Kp (w'.ownsRow w.heap.size 3 1 (.slice ra n rc) n (ints (l.mergeSort fun x y => decide (x ≤ y)))) ∧ Kp (Below w.heap.size w w') := by
  have C := Kp.mk (collect_any a c n bs l w0 w hs hl hn hb hc)
  have HL := Kp.mk hl
  clear hs hl hb hc
  go_enter Tryz.func170, Tryz.ntmps170
  go_wp2_with fail
  refine C.out.mono ?_
  rintro e w1 ⟨ra, rc, rfl, HR, HB⟩
  go_wp2_with fail
  refine (sort_own w.heap.size ra rc n l w1 HR.out HL.out hn HB.out.size).mono ?_
  rintro e w2 ⟨rfl, HS, HB2⟩
  have HF := Kp.mk (HB.out.trans HB2.out)
  go_wp2
  go_ret
  exact ⟨ra, rc, rfl, HS, HF⟩

theorem compact_own (B : Nat) (a : Option Addr) (c n : Nat) (l : List Int) (w : World) (h : w.ownsRow B 3 1 (.slice a n c) n (ints l)) (hl : l.length = n) (hn : n ≤ 100000) (hB : B ≤ w.heap.size) :
    Calls Tryz.prog 169 #[.slice a n c] w fun e w' => ∃ m, e = .returned (.slice a m c) ∧ m = (Lib.compact l).length ∧ Kp (w'.ownsRow B 3 1 (.slice a m c) m (ints (Lib.compact l))) ∧ Kp (Below B w w') := by
  by_cases h0 : n = 0
  · subst h0
    obtain rfl : l = [] := List.length_eq_zero_iff.1 hl
    exact (Tryz.slices_Compact_int_empty a c w).mono fun e w' ⟨h1, h2⟩ => ⟨0, h1, rfl, by subst h2; exact ⟨h⟩, by subst h2; exact ⟨Below.refl _ _⟩⟩
  · obtain ⟨g, rfl, hg, hg2⟩ := own_some h (by omega)
    have hle := Lib.compact_length_le l
    have hsl := own_slc h
    refine (Tryz.slices_Compact_int_cells g 0 n c l w (by omega) (by omega) hsl.le (fun j hj => ?_) (fun j hj => by rw [Nat.zero_add]; exact h.frozenAt j)).mono ?_
    · rw [Nat.zero_add, h.cellAt j (by omega)]
      rw [List.getElem?_eq_getElem (by rw [ints_length]; exact hj), ints_get, getD_at _ _ hj]
    · rintro e w' ⟨rfl, q, rfl⟩
      rw [List.take_of_length_le (by omega)]
      refine ⟨_, rfl, rfl, ⟨?_⟩, ⟨?_⟩⟩
      · have hd : (w.drewN q).ownsRow B 3 1 (.slice (some ⟨g, 0, none⟩) n c) n (ints l) := own_below h (drewN_below q)
        have hlen : ((Lib.compact l ++ List.replicate (n - (Lib.compact l).length) 0).map (Value.int .i64)).length = n := by
          rw [List.length_map, List.length_append, List.length_replicate]; omega
        have h1 := (own_setCells _ 0 (w.drewN q) _ hd (by rw [Nat.zero_add, hlen]; exact Nat.le_refl _)).1
        have h2 := own_front h1 (m := (Lib.compact l).length) (by omega)
        have e : (List.take 0 (ints l) ++ List.map (Value.int .i64) (Lib.compact l ++ List.replicate (n - (Lib.compact l).length) 0) ++ List.drop (0 + (List.map (Value.int .i64) (Lib.compact l ++ List.replicate (n - (Lib.compact l).length) 0)).length) (ints l)).take (Lib.compact l).length = ints (Lib.compact l) := by
          rw [List.take_zero, List.nil_append, List.map_append, List.append_assoc, List.take_append_of_le_length (by rw [List.length_map]; exact Nat.le_refl _), List.take_of_length_le (by rw [List.length_map]; exact Nat.le_refl _)]
          rfl
        rwa [e] at h2
      · have hd : (w.drewN q).ownsRow B 3 1 (.slice (some ⟨g, 0, none⟩) n c) n (ints l) := own_below h (drewN_below q)
        have hlen : ((Lib.compact l ++ List.replicate (n - (Lib.compact l).length) 0).map (Value.int .i64)).length = n := by
          rw [List.length_map, List.length_append, List.length_replicate]; omega
        have h1 := (own_setCells _ 0 (w.drewN q) _ hd (by rw [Nat.zero_add, hlen]; exact Nat.le_refl _)).2
        exact (drewN_below q).trans (below_of_grown h1 hB (fun k hk => by cases hk; exact hg))

end Go.Proofs.YteeeikninigeoaaGreatDoor

/- slices.Clone of a slice of int. -/
namespace Go.Proofs.YteeeikninigeoaaGreatDoor
set_option linter.unusedVariables false
open Go.RowKit

theorem own_is_slice {w : World} {B e size n : Nat} {v : Value} {xs : List Value} (h : w.ownsRow B e size v n xs) : ∃ a cap, v = .slice a n cap := by
  rcases h.2 with ⟨h, h2⟩ | ⟨g, cap, cur, hv, _⟩
  · exact ⟨none, 0, by rw [h, h2]⟩
  · exact ⟨_, _, hv⟩

theorem clone_any (a : Option Addr) (cap n : Nat) (l : List Int) (w : World) (h : SlI w a cap l) (hn : l.length = n) (hb : n * 8 ≤ 140737488355328) :
    Calls Tryz.prog 173 #[.slice a n cap] w fun e w' => ∃ b c, e = .returned (.slice b n c) ∧ OwnI w.heap.size w' b c l ∧ Below w.heap.size w w' := by
  cases a with
  | none =>
    have h0 := h.nil rfl
    have h1 := h.le
    have hl : l = [] := List.length_eq_zero_iff.1 (by omega)
    subst hl
    subst hn
    exact (Tryz.slices_Clone_int_nil 0 cap w).mono fun e w' ⟨h1, h2⟩ => ⟨none, 0, h1, World.ownsRow_nil _ _ _ _, by rw [h2]; exact Below.refl _ _⟩
  | some ad =>
    by_cases h0 : n = 0
    · subst h0
      have hl : l = [] := List.length_eq_zero_iff.1 hn
      subst hl
      refine (Tryz.slices_Clone_int_zero ad cap w).mono fun e w' ⟨v', h1, h2, _, h3⟩ => ?_
      obtain ⟨b, c, rfl⟩ := own_is_slice h2
      exact ⟨b, c, h1, h2, h3⟩
    · obtain ⟨b0, off, ha, _⟩ := h.at 0 (by omega)
      simp only [Option.some.injEq] at ha
      subst ha
      refine (Tryz.slices_Clone_int b0 off n cap l w (by omega) hb (fun j hj => ?_)).mono fun e w' ⟨v', h1, h2, _, h3⟩ => ?_
      · obtain ⟨b1, o1, ha, hc⟩ := h.at j hj
        simp only [Option.some.injEq, Addr.mk.injEq] at ha
        obtain ⟨rfl, rfl, _⟩ := ha
        rw [hc, getD_at _ _ hj]
      · obtain ⟨b, c, rfl⟩ := own_is_slice h2
        refine ⟨b, c, h1, ?_, h3⟩
        rw [List.take_of_length_le (by omega)] at h2
        subst hn
        exact h2

end Go.Proofs.YteeeikninigeoaaGreatDoor

