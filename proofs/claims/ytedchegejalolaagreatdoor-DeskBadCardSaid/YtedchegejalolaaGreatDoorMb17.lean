import Derived.Test.YtedchegejalolaaGreatDoorMb16
import Derived.Test.YtedchegejalolaaGreatDoorMb14
import Derived.Test.YtedchegejalolaaGreatDoorMb0
import Derived.Test.YtedchegejalolaaGreatDoorMb1
import Derived.Sort.OwnSortedInts
import Derived.Shelf.Abstract
/- slices.Collect, Sorted, Compact at ints. -/
namespace Go.Proofs.YtedchegejalolaaGreatDoor
set_option linter.unusedVariables false
open Go.RowKit

theorem collect_any (a : Option Addr) (c n bs : Nat) (l : List Int) (w0 w : World) (hs : SlI w0 a c l) (hl : l.length = n) (hn : n ≤ 100000) (hb : Below w0.heap.size w0 w) (hc : w.cell? ⟨bs, 0, none⟩ = some (.slice a n c)) :
    Calls Tryz.prog 155 #[.func (.func 157) #[] #[.pointer (some ⟨bs, 0, none⟩)]] w fun e w' => ∃ ra rc, e = .returned (.slice ra n rc) ∧ Kp (w'.ownsRow w.heap.size 3 1 (.slice ra n rc) n (ints l)) ∧ Kp (Below w.heap.size w w') := by
  have C := Kp.mk (appendSeq_any a c n bs l w0 w hs hl hn hb hc)
  clear hs hl hb hc
  go_enter Tryz.func155, Tryz.ntmps155
  go_wp2_with fail
  refine C.out.mono ?_
  rintro e w1 ⟨ra, rc, rfl, HR, HB⟩
  go_wp2
  go_ret
  exact ⟨ra, rc, rfl, HR, HB⟩

/-- slices.Sort on a slice of the call's own. -/
theorem sort_own (B : Nat) (a : Option Addr) (c n : Nat) (l : List Int) (w : World) (h : w.ownsRow B 3 1 (.slice a n c) n (ints l)) (hl : l.length = n) (hn : n ≤ 100000) (hB : B ≤ w.heap.size) :
    Calls Tryz.prog 156 #[.slice a n c] w fun e w' => e = .returned (.tuple #[]) ∧ Kp (w'.ownsRow B 3 1 (.slice a n c) n (ints (l.mergeSort fun x y => decide (x ≤ y)))) ∧ Kp (Below B w w') := by
  by_cases h0 : n = 0
  · subst h0
    obtain rfl : l = [] := List.length_eq_zero_iff.1 hl
    exact (Tryz.slices_Sort_int_none a c w).mono fun e w' ⟨h1, h2⟩ => ⟨h1, by subst h2; exact ⟨by simpa [ints] using h⟩, by subst h2; exact ⟨Below.refl _ _⟩⟩
  · subst hl
    obtain ⟨g, rfl, hg, hg2⟩ := own_some h (by omega)
    rcases h.2 with ⟨hv, _⟩ | ⟨g', cap', cur, hv, hB', hgb, h1, h2, h3, h4⟩
    · cases hv
    simp only [Value.slice.injEq, Option.some.injEq, Addr.mk.injEq, and_true, true_and] at hv
    obtain ⟨rfl, rfl⟩ := hv
    refine (Tryz.slices_Sort_int g 0 c l w (holds_of_blockI hgb (by rw [Nat.mul_one] at h4; exact h4)) hg2 (by omega)).mono ?_
    rintro e w' ⟨rfl, k, os, rfl⟩
    refine ⟨rfl, ⟨?_⟩, ⟨?_⟩⟩
    · exact ownsRow_sortedI (by rw [List.length_mergeSort]) hB' hgb h1 h2 h3
    · exact below_of_grown (grownBy_sortedI _) hB (fun q hq => by cases hq; exact hB')

set_option maxHeartbeats 1000000 in
theorem sorted_any (a : Option Addr) (c n bs : Nat) (l : List Int) (w0 w : World) (hs : SlI w0 a c l) (hl : l.length = n) (hn : n ≤ 100000) (hb : Below w0.heap.size w0 w) (hc : w.cell? ⟨bs, 0, none⟩ = some (.slice a n c)) :
    Calls Tryz.prog 126 #[.func (.func 157) #[] #[.pointer (some ⟨bs, 0, none⟩)]] w fun e w' => ∃ ra rc, e = .returned (.slice ra n rc) ∧ Kp (w'.ownsRow w.heap.size 3 1 (.slice ra n rc) n (ints (l.mergeSort fun x y => decide (x ≤ y)))) ∧ Kp (Below w.heap.size w w') := by
  have C := Kp.mk (collect_any a c n bs l w0 w hs hl hn hb hc)
  have HL := Kp.mk hl
  clear hs hl hb hc
  go_enter Tryz.func126, Tryz.ntmps126
  go_wp2_with fail
  refine C.out.mono ?_
  rintro e w1 ⟨ra, rc, rfl, HR, HB⟩
  go_wp2_with fail
  refine (sort_own w.heap.size ra rc n l w1 HR.out HL.out hn HB.out.size).mono ?_
  rintro e w2 ⟨rfl, HS, HB2⟩
  have HF := Kp.mk (HB.out.trans HB2.out)
  go_wp2
  go_ret
  exact ⟨ra, rc, rfl, HS, HF⟩

theorem compact_own (B : Nat) (a : Option Addr) (c n : Nat) (l : List Int) (w : World) (h : w.ownsRow B 3 1 (.slice a n c) n (ints l)) (hl : l.length = n) (hn : n ≤ 100000) (hB : B ≤ w.heap.size) :
    Calls Tryz.prog 125 #[.slice a n c] w fun e w' => ∃ m, e = .returned (.slice a m c) ∧ m = (Lib.compact l).length ∧ Kp (w'.ownsRow B 3 1 (.slice a m c) m (ints (Lib.compact l))) ∧ Kp (Below B w w') := by
  by_cases h0 : n = 0
  · subst h0
    obtain rfl : l = [] := List.length_eq_zero_iff.1 hl
    exact (Tryz.slices_Compact_int_empty a c w).mono fun e w' ⟨h1, h2⟩ => ⟨0, h1, rfl, by subst h2; exact ⟨h⟩, by subst h2; exact ⟨Below.refl _ _⟩⟩
  · obtain ⟨g, rfl, hg, hg2⟩ := own_some h (by omega)
    have hle := Lib.compact_length_le l
    have hsl := own_slc h
    refine (Tryz.slices_Compact_int_cells g 0 n c l w (by omega) (by omega) hsl.le (fun j hj => ?_) (fun j hj => by rw [Nat.zero_add]; exact h.frozenAt j)).mono ?_
    · rw [Nat.zero_add, h.cellAt j (by omega)]
      rw [List.getElem?_eq_getElem (by rw [ints_length]; exact hj), ints_get, getD_at _ _ hj]
    · rintro e w' ⟨rfl, q, rfl⟩
      rw [List.take_of_length_le (by omega)]
      refine ⟨_, rfl, rfl, ⟨?_⟩, ⟨?_⟩⟩
      · have hd : (w.drewN q).ownsRow B 3 1 (.slice (some ⟨g, 0, none⟩) n c) n (ints l) := own_below h (drewN_below q)
        have hlen : ((Lib.compact l ++ List.replicate (n - (Lib.compact l).length) 0).map (Value.int .i64)).length = n := by
          rw [List.length_map, List.length_append, List.length_replicate]; omega
        have h1 := (own_setCells _ 0 (w.drewN q) _ hd (by rw [Nat.zero_add, hlen]; exact Nat.le_refl _)).1
        have h2 := own_front h1 (m := (Lib.compact l).length) (by omega)
        have e : (List.take 0 (ints l) ++ List.map (Value.int .i64) (Lib.compact l ++ List.replicate (n - (Lib.compact l).length) 0) ++ List.drop (0 + (List.map (Value.int .i64) (Lib.compact l ++ List.replicate (n - (Lib.compact l).length) 0)).length) (ints l)).take (Lib.compact l).length = ints (Lib.compact l) := by
          rw [List.take_zero, List.nil_append, List.map_append, List.append_assoc, List.take_append_of_le_length (by rw [List.length_map]; exact Nat.le_refl _), List.take_of_length_le (by rw [List.length_map]; exact Nat.le_refl _)]
          rfl
        rwa [e] at h2
      · have hd : (w.drewN q).ownsRow B 3 1 (.slice (some ⟨g, 0, none⟩) n c) n (ints l) := own_below h (drewN_below q)
        have hlen : ((Lib.compact l ++ List.replicate (n - (Lib.compact l).length) 0).map (Value.int .i64)).length = n := by
          rw [List.length_map, List.length_append, List.length_replicate]; omega
        have h1 := (own_setCells _ 0 (w.drewN q) _ hd (by rw [Nat.zero_add, hlen]; exact Nat.le_refl _)).2
        exact (drewN_below q).trans (below_of_grown h1 hB (fun k hk => by cases hk; exact hg))

end Go.Proofs.YtedchegejalolaaGreatDoor

/- slices.Clone of a slice of int. -/
namespace Go.Proofs.YtedchegejalolaaGreatDoor
set_option linter.unusedVariables false
open Go.RowKit

theorem own_is_slice {w : World} {B e size n : Nat} {v : Value} {xs : List Value} (h : w.ownsRow B e size v n xs) : ∃ a cap, v = .slice a n cap := by
  rcases h.2 with ⟨h, h2⟩ | ⟨g, cap, cur, hv, _⟩
  · exact ⟨none, 0, by rw [h, h2]⟩
  · exact ⟨_, _, hv⟩

theorem clone_any (a : Option Addr) (cap n : Nat) (l : List Int) (w : World) (h : SlI w a cap l) (hn : l.length = n) (hb : n * 8 ≤ 140737488355328) :
    Calls Tryz.prog 129 #[.slice a n cap] w fun e w' => ∃ b c, e = .returned (.slice b n c) ∧ OwnI w.heap.size w' b c l ∧ Below w.heap.size w w' := by
  cases a with
  | none =>
    have h0 := h.nil rfl
    have h1 := h.le
    have hl : l = [] := List.length_eq_zero_iff.1 (by omega)
    subst hl
    subst hn
    exact (Tryz.slices_Clone_int_nil 0 cap w).mono fun e w' ⟨h1, h2⟩ => ⟨none, 0, h1, World.ownsRow_nil _ _ _ _, by rw [h2]; exact Below.refl _ _⟩
  | some ad =>
    by_cases h0 : n = 0
    · subst h0
      have hl : l = [] := List.length_eq_zero_iff.1 hn
      subst hl
      refine (Tryz.slices_Clone_int_zero ad cap w).mono fun e w' ⟨v', h1, h2, _, h3⟩ => ?_
      obtain ⟨b, c, rfl⟩ := own_is_slice h2
      exact ⟨b, c, h1, h2, h3⟩
    · obtain ⟨b0, off, ha, _⟩ := h.at 0 (by omega)
      simp only [Option.some.injEq] at ha
      subst ha
      refine (Tryz.slices_Clone_int b0 off n cap l w (by omega) hb (fun j hj => ?_)).mono fun e w' ⟨v', h1, h2, _, h3⟩ => ?_
      · obtain ⟨b1, o1, ha, hc⟩ := h.at j hj
        simp only [Option.some.injEq, Addr.mk.injEq] at ha
        obtain ⟨rfl, rfl, _⟩ := ha
        rw [hc, getD_at _ _ hj]
      · obtain ⟨b, c, rfl⟩ := own_is_slice h2
        refine ⟨b, c, h1, ?_, h3⟩
        rw [List.take_of_length_le (by omega)] at h2
        subst hn
        exact h2

end Go.Proofs.YtedchegejalolaaGreatDoor

/- sort.Search with a test that only reads. -/
namespace Go.Proofs.YtedchegejalolaaGreatDoor
set_option linter.unusedVariables false
open Go.RowKit

/-- A test of places that only reads, in every world that has drawn more. -/
def Asks (g : FuncId) (cb : Array Value) (p : Nat → Bool) (n : Nat) (w : World) : Prop :=
  ∀ W, Drew w W → ∀ k : Nat, k < n → Calls Tryz.prog g (#[.int .i64 k] ++ cb) W fun e w' => e = .returned (.bool (p k)) ∧ Drew W w'

set_option maxHeartbeats 1000000 in
theorem search_any (g : FuncId) (cb : Array Value) (p : Nat → Bool) (n : Nat) (eg : ∀ args w, (callFunc g args).run Tryz.prog w = .ok (.enter g args) w) (w : World) (hn : n ≤ 1000000) (hg : Asks g cb p n w)
    (hm : ∀ a b, a ≤ b → b < n → p a = true → p b = true) :
    Calls Tryz.prog 101 #[.int .i64 n, .func (.func g) #[] cb] w fun e w' => ∃ k : Nat, e = .returned (.int .i64 k) ∧ k ≤ n ∧ (∀ i, i < k → p i = false) ∧ (k < n → p k = true) ∧ Drew w w' := by
  have HG := Kp.mk hg
  have HM := Kp.mk hm
  clear hg hm
  go_enter Tryz.func101, Tryz.ntmps101
  go_wp2
  go_loopw [5, 6] (fun x y wr => ∃ i j : Nat, i ≤ j ∧ j ≤ n ∧ x = .int .i64 i ∧ y = .int .i64 j ∧ Kp (∀ q, q < i → p q = false) ∧ Kp (j < n → p j = true) ∧ Kp (Drew w wr)) (fun x y _ => (intOf y).toNat - (intOf x).toNat)
  case atStart => exact ⟨0, n, Nat.zero_le _, Nat.le_refl _, rfl, rfl, ⟨fun q h => by omega⟩, ⟨fun h => by omega⟩, ⟨Drew.refl _⟩⟩
  case round =>
    obtain ⟨i, j, hij, hjn, rfl, rfl, H1, H2, HD⟩ := hrel
    by_cases hlt : i < j
    · obtain ⟨m, hm⟩ : ∃ m, m = (i + j) / 2 := ⟨_, rfl⟩
      have hmi : i ≤ m := by omega
      have hmj : m < j := by omega
      have e1 : ((i : Int) + j) / 2 = m := by omega
      have C := Kp.mk (HG.out wr HD.out m (by omega))
      clear hm
      cases hp : p m with
      | true =>
        rw [hp] at C
        have HP := Kp.mk hp
        clear hp
        go_wp2_with fail
        refine C.out.mono ?_
        rintro e w' ⟨rfl, hd⟩
        have HD2 := Kp.mk (HD.out.trans hd)
        clear hd C
        go_wp2
        go_roundw
        case rel => exact ⟨i, m, hmi, by omega, rfl, rfl, H1, ⟨fun _ => HP.out⟩, HD2⟩
        case measure => simp [intOf]; omega
      | false =>
        rw [hp] at C
        have HP := Kp.mk hp
        clear hp
        have H3 := Kp.mk (show ∀ q, q < m + 1 → p q = false from fun q hq => by
          cases hpq : p q with
          | false => rfl
          | true =>
            have := HM.out q m (by omega) (by omega) hpq
            rw [HP.out] at this
            cases this)
        go_wp2_with fail
        refine C.out.mono ?_
        rintro e w' ⟨rfl, hd⟩
        have HD2 := Kp.mk (HD.out.trans hd)
        clear hd C
        go_wp2
        go_roundw
        case rel => exact ⟨m + 1, j, by omega, hjn, by go_num, rfl, H3, H2, HD2⟩
        case measure => simp [intOf]; omega
    · obtain rfl : i = j := by omega
      go_wp2
      go_ret
      exact ⟨i, rfl, hjn, H1.out, H2.out, HD.out⟩

end Go.Proofs.YtedchegejalolaaGreatDoor

/- sort.SearchInts. -/
namespace Go.Proofs.YtedchegejalolaaGreatDoor
set_option linter.unusedVariables false
open Go.RowKit

set_option maxRecDepth 100000 in
set_option maxHeartbeats 1000000 in
theorem sitest_any (l : List Int) (n p q k : Nat) (x : Int) (a : Option Addr) (cap : Nat) (W : World) (h : SlI W a cap l) (hl : l.length = n) (hp : W.cell? ⟨p, 0, none⟩ = some (.slice a n cap)) (hq : W.cell? ⟨q, 0, none⟩ = some (.int .i64 x)) (hk : k < n) :
    Calls Tryz.prog 158 #[.int .i64 k, .pointer (some ⟨p, 0, none⟩), .pointer (some ⟨q, 0, none⟩)] W fun e w' => e = .returned (.bool (decide (x ≤ l.getD k 0))) ∧ Drew W w' := by
  obtain ⟨b, off, rfl, c⟩ := h.at k (by omega)
  have HV := Kp.mk (getD_at l 0 (show k < l.length by omega))
  generalize l[k] = y at *
  have hkn : (k : Int) < n := by omega
  clear h hl
  go_enter Tryz.func158, Tryz.ntmps158
  go_wp2
  go_quiet (fail)
  go_wp2
  go_ret
  exact ⟨by rw [HV.out]; rfl, ⟨_, rfl⟩⟩

set_option maxRecDepth 100000 in
set_option maxHeartbeats 1000000 in
theorem srchInts_any (a : Option Addr) (cap n : Nat) (l : List Int) (x : Int) (w : World) (h : SlI w a cap l) (hl : l.length = n) (hn : n ≤ 100000) (hs : ∀ i j, i ≤ j → j < n → l.getD i 0 ≤ l.getD j 0) :
    Calls Tryz.prog 128 #[.slice a n cap, .int .i64 x] w fun e w' => ∃ k : Nat, e = .returned (.int .i64 k) ∧ k ≤ n ∧ Kp (∀ i, i < k → l.getD i 0 < x) ∧ Kp (k < n → x ≤ l.getD k 0) ∧ Kp (Below w.heap.size w w') := by
  have HF := Kp.mk (fun (W : World) (hb : Below w.heap.size w W) (p q : Nat) (hp : W.cell? ⟨p, 0, none⟩ = some (.slice a n cap)) (hq : W.cell? ⟨q, 0, none⟩ = some (.int .i64 x)) =>
    search_any 158 #[.pointer (some ⟨p, 0, none⟩), .pointer (some ⟨q, 0, none⟩)] (fun k => decide (x ≤ l.getD k 0)) n (enters_of Tryz.func158 (by kernel_rfl) rfl) W (by omega)
      (fun W2 hd k hk => sitest_any l n p q k x a cap W2 ((h.below hb).below (hd.below _)) hl ((hd.cell _).trans hp) ((hd.cell _).trans hq) hk)
      (fun i j hij hj hi => by
        have := hs i j hij hj
        rw [decide_eq_true_eq] at hi ⊢
        omega))
  clear h hl hs
  go_enter Tryz.func128, Tryz.ntmps128
  go_wp2_with fail
  have hb1 := below_alloc (Nat.le_refl w.heap.size) (.cells #[.slice a n cap] 33)
  have hb2 := below_then_alloc hb1 (.cells #[.int .i64 x] 3)
  have hp := ((Box.new w #[.slice a n cap] 33).alloc (.cells #[.int .i64 x] 3)).cell 0 rfl
  have hq := (Box.new (w.alloc (.cells #[.slice a n cap] 33)) #[.int .i64 x] 3).cell 0 rfl
  rw [alloc_size] at hq
  refine (HF.out _ hb2 _ _ hp hq).mono ?_
  rintro e w1 ⟨k, rfl, hk, h1, h2, hd⟩
  have H1 := Kp.mk (show ∀ i, i < k → l.getD i 0 < x from fun i hi => by have := h1 i hi; rw [decide_eq_false_iff_not] at this; omega)
  have H2 := Kp.mk (show k < n → x ≤ l.getD k 0 from fun h => by have := h2 h; rwa [decide_eq_true_eq] at this)
  have HB := Kp.mk (hb2.trans (hd.below _))
  clear hb1 hb2 hp hq h1 h2 hd HF
  go_wp2
  go_ret
  exact ⟨k, rfl, hk, H1, H2, HB⟩

end Go.Proofs.YtedchegejalolaaGreatDoor

