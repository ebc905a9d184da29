import Derived.Test.YtladgklnacihkaaGreatMg3
import Derived.Test.YtladgklnacihkaaGreatMg0
import Derived.Shelf.Abstract
import Derived.Lib.SliceRun
import Derived.Deep.RegionLaw
/- Plain facts on points. -/
namespace Go.Proofs.YtladgklnacihkaaGreat
set_option linter.unusedVariables false
open Go.RowKit

/-- A point. -/
structure Pt where
  x : Int
  y : Int
  w : Int
instance : Inhabited Pt := ⟨⟨0, 0, 0⟩⟩

def ptL (p : Pt) : List Value := [.int .i64 p.x, .int .i64 p.y, .int .i64 p.w]
theorem ptL_len (p : Pt) : (ptL p).length = 3 := rfl
theorem ptL_one (p : Pt) : ∀ u ∈ ptL p, u.oneCell' = true := by simp [ptL, Value.oneCell']
abbrev pt0 : Pt := ⟨0, 0, 0⟩
structure Pt.Wf (p : Pt) : Prop where
  x : (Lit.int .i64 p.x).wf = true
  y : (Lit.int .i64 p.y).wf = true
  w : (Lit.int .i64 p.w).wf = true
/-- All coordinates are near. -/
def Pt.Near (p : Pt) : Prop := (-1048576 ≤ p.x ∧ p.x ≤ 1048576) ∧ (-1048576 ≤ p.y ∧ p.y ≤ 1048576) ∧ (-1048576 ≤ p.w ∧ p.w ≤ 1048576)
/-- The point of a raw spot. -/
def ptOf (bound : Int) (s : Pt) : Pt := ⟨pick s.x bound, pick s.y bound, pick s.w 20⟩
def ptsOf (L : List Pt) (n : Nat) (bound : Int) : List Pt := (L.take n).map (ptOf bound)
theorem ptsOf_length (L : List Pt) (n : Nat) (bound : Int) : (ptsOf L n bound).length = min n L.length := by simp [ptsOf]
theorem ptsOf_succ (L : List Pt) (k : Nat) (bound : Int) (h : k < L.length) : ptsOf L (k + 1) bound = ptsOf L k bound ++ [ptOf bound L[k]] := by
  rw [ptsOf, List.take_succ_eq_append_getElem h, List.map_append]; rfl
theorem ptsOf_bd (L : List Pt) (n : Nat) (bound : Int) (h : 0 < bound) : ∀ p ∈ ptsOf L n bound, (0 ≤ p.x ∧ p.x < bound) ∧ (0 ≤ p.y ∧ p.y < bound) ∧ (0 ≤ p.w ∧ p.w < 20) := by
  intro p hp
  obtain ⟨s, _, rfl⟩ := List.mem_map.1 hp
  exact ⟨pick_bd s.x bound h, pick_bd s.y bound h, pick_bd s.w 20 (by omega)⟩
attribute [irreducible] ptsOf

/-- The spots that came in. -/
theorem spots_in {w : World} {a : Option Addr} {len cap : Nat} {zs : List Int} (h : IsFlat 3 w a len cap zs) : ∃ L : List Pt, SlF ptL 3 w a len cap L ∧ (∀ x ∈ L, x.Wf) ∧ len ≤ maxLen := by
  obtain ⟨h1, h2, h3, h4⟩ := flat_slc (by omega) h
  have key : ∀ (n : Nat) (zs : List Int), zs.length = n * 3 → (∀ n ∈ zs, (Lit.int .i64 n).wf = true) → ∃ L : List Pt, flat ptL L = ints zs ∧ ∀ x ∈ L, x.Wf := by
    intro n
    induction n with
    | zero =>
      intro zs hz _
      obtain rfl : zs = [] := List.length_eq_zero_iff.1 (by omega)
      exact ⟨[], rfl, by simp⟩
    | succ n ih =>
      intro zs hz hw
      match zs, hz, hw with
      | a :: b :: c :: zs, hz, hw =>
        obtain ⟨L, hL, hwL⟩ := ih zs (by simp at hz; omega) (fun n hn => hw n (by simp [hn]))
        refine ⟨⟨a, b, c⟩ :: L, ?_, fun x hx => ?_⟩
        · have : flat ptL (⟨a, b, c⟩ :: L) = ptL ⟨a, b, c⟩ ++ flat ptL L := by simp [flat]
          rw [this, hL]; rfl
        · rcases List.mem_cons.1 hx with rfl | hx
          · exact ⟨hw a (by simp), hw b (by simp), hw c (by simp)⟩
          · exact hwL x hx
      | [], hz, _ => simp at hz
      | [_], hz, _ => simp at hz; omega
      | [_, _], hz, _ => simp at hz; omega
  obtain ⟨L, hL, hw⟩ := key len zs h4 h2
  exact ⟨L, by unfold SlF; rw [hL]; exact h1, hw, h3⟩

end Go.Proofs.YtladgklnacihkaaGreat

/- Points of raw spots; package grid: what points may be. -/
namespace Go.Proofs.YtladgklnacihkaaGreat
set_option linter.unusedVariables false
open Go.RowKit

theorem info_pt : (Tryz.prog.info? 28).map (fun i => (i.zero, i.size, i.bytes)) = some (some (.agg #[.int .i64 0, .int .i64 0, .int .i64 0]), 3, 24) := by kernel_rfl
theorem tPts : ElemTy Tryz.prog 43 28 3 24 (.agg #[.int .i64 0, .int .i64 0, .int .i64 0]) :=
  ⟨Tryz.underlying43, by obtain ⟨i0, hi, h0, h1, h2⟩ := info_parts info_pt; exact ⟨i0, hi, h0, h1, h2⟩, rfl, by decide⟩

theorem near_any (x : Int) (w : World) (h1 : -1048576 ≤ x) (h2 : x ≤ 1048576) :
    Calls Tryz.prog 25 #[.int .i64 x] w fun e w' => e = .returned (.bool true) ∧ w = w' := by
  have h1' : decide (-1048576 ≤ x) = true := decide_eq_true h1
  have h2' : decide (x ≤ 1048576) = true := decide_eq_true h2
  go_enter Tryz.func25, Tryz.ntmps25
  go_wp2
  go_ret
  exact ⟨rfl, rfl⟩

theorem odd_any (p : Pt) (w : World) (h : p.Near) :
    Calls Tryz.prog 24 #[.agg #[.int .i64 p.x, .int .i64 p.y, .int .i64 p.w]] w fun e w' => e = .returned (.bool false) ∧ w.alloc (.cells #[.int .i64 p.x, .int .i64 p.y, .int .i64 p.w] 28) = w' := by
  obtain ⟨x, y, z⟩ := p
  obtain ⟨⟨a1, a2⟩, ⟨b1, b2⟩, ⟨c1, c2⟩⟩ := h
  have C1 := Kp.mk (fun W => near_any x W a1 a2)
  have C2 := Kp.mk (fun W => near_any y W b1 b2)
  have C3 := Kp.mk (fun W => near_any z W c1 c2)
  clear a1 a2 b1 b2 c1 c2
  dsimp only
  go_enter Tryz.func24, Tryz.ntmps24
  go_wp2_with (go_at_call 25; (first | (with_reducible refine (C1.out _).mono ?_) | (with_reducible refine (C2.out _).mono ?_) | (with_reducible refine (C3.out _).mono ?_)); rintro e w' ⟨rfl, rfl⟩)
  go_ret
  exact ⟨rfl, rfl⟩

set_option maxHeartbeats 1000000 in
theorem noOdd_any (a : Option Addr) (cap n : Nat) (L : List Pt) (w : World) (h : SlF ptL 3 w a n cap L) (hn : n ≤ 1000000) (hN : ∀ p ∈ L, p.Near) :
    Calls Tryz.prog 45 #[.slice a n cap, .func (.func 24) #[] #[]] w fun e w' => e = .returned (.int .i64 (-1)) ∧ Kp (Below w.heap.size w w') := by
  have HLn := Kp.mk (h.len ptL_len (by omega))
  have H := Kp.mk h
  have HN := Kp.mk hN
  have eg : ∀ args w, (callFunc 24 args).run Tryz.prog w = .ok (.enter 24 args) w := enters_of Tryz.func24 (by kernel_rfl) rfl
  clear h hN
  go_enter Tryz.func45, Tryz.ntmps45
  go_wp2
  go_loopw [8] (fun i wr => ∃ k : Nat, k ≤ n ∧ i = .int .i64 k ∧ Kp (Below w.heap.size w wr)) (fun i _ => n - (intOf i).toNat)
  case atStart => exact ⟨0, Nat.zero_le _, rfl, ⟨Below.refl _ _⟩⟩
  case round =>
    obtain ⟨k, hk, rfl, HB⟩ := hrel
    by_cases hlt : k < n
    · obtain ⟨b, off, rfl, hbw, co⟩ := (H.out.below HB.out).at ptL_len (by omega) k (by rw [HLn.out]; exact hlt)
      have hm := HN.out _ (List.getElem_mem (show k < L.length by rw [HLn.out]; exact hlt))
      generalize L[k]'(by rw [HLn.out]; exact hlt) = p at *
      have C := Kp.mk (odd_any p wr hm)
      have o0 : wr.cell? ⟨b, off + k * 3, none⟩ = some (.int .i64 p.x) := co 0 (by omega)
      have o1 : wr.cell? ⟨b, off + k * 3 + 1, none⟩ = some (.int .i64 p.y) := co 1 (by omega)
      have o2 : wr.cell? ⟨b, off + k * 3 + 2, none⟩ = some (.int .i64 p.w) := co 2 (by omega)
      clear co hm
      go_wp2_with (go_at_fn 24; refine C.out.mono ?_; rintro e w' ⟨rfl, rfl⟩)
      have HB2 := Kp.mk (HB.out.alloc (by exact HB.out.size) (.cells #[.int .i64 p.x, .int .i64 p.y, .int .i64 p.w] 28))
      go_roundw
      case rel => exact ⟨k + 1, by omega, by go_num, HB2⟩
      case measure => simp [intOf]; omega
    · go_wp2
      go_ret
      exact ⟨rfl, HB⟩

theorem noneOdd_any (a : Option Addr) (cap n : Nat) (L : List Pt) (w : World) (h : SlF ptL 3 w a n cap L) (hn : n ≤ 1000000) (hN : ∀ p ∈ L, p.Near) :
    Calls Tryz.prog 23 #[.slice a n cap, .func (.func 24) #[] #[]] w fun e w' => e = .returned (.bool false) ∧ Kp (Below w.heap.size w w') := by
  have C := Kp.mk (noOdd_any a cap n L w h hn hN)
  clear h hN
  go_enter Tryz.func23, Tryz.ntmps23
  go_wp2_with fail
  refine C.out.mono ?_
  rintro e w1 ⟨rfl, HB⟩
  go_wp2
  go_ret
  exact ⟨rfl, HB⟩

theorem gcheck_any (a : Option Addr) (cap n : Nat) (L : List Pt) (w : World) (h : SlF ptL 3 w a n cap L) (hn : n ≤ 150) (hN : ∀ p ∈ L, p.Near) :
    Calls Tryz.prog 14 #[.slice a n cap] w fun e w' => e = .returned (.int .i64 0) ∧ Kp (Below w.heap.size w w') := by
  have C := Kp.mk (noneOdd_any a cap n L w h (by omega) hN)
  have hn' : ¬ (150 < (n : Int)) := by omega
  clear h hN
  go_enter Tryz.func14, Tryz.ntmps14
  go_wp2_with fail
  refine C.out.mono ?_
  rintro e w1 ⟨rfl, HB⟩
  go_wp2
  go_ret
  exact ⟨rfl, HB⟩

end Go.Proofs.YtladgklnacihkaaGreat

/- slices.Delete: one element is taken out of an own row, at three element types. -/
namespace Go.Proofs.YtladgklnacihkaaGreat
set_option linter.unusedVariables false
open Go.RowKit

theorem info_bt : (Tryz.prog.info? 121).map (fun i => (i.zero, i.size, i.bytes)) = some (some (.pointer none), 1, 8) := by kernel_rfl
theorem tBts : ElemTy Tryz.prog 69 121 1 8 (.pointer none) :=
  ⟨Tryz.underlying69, by obtain ⟨i0, hi, h0, h1, h2⟩ := info_parts info_bt; exact ⟨i0, hi, h0, h1, h2⟩, rfl, by decide⟩

theorem own_setCellsK {B e g n cap size : Nat} : ∀ (vs : List Value) (o : Nat) (w : World) (xs : List Value), w.ownsRow B e size (.slice (some ⟨g, 0, none⟩) n cap) n xs → o + vs.length ≤ n * size →
    (w.setCells g o vs).ownsRow B e size (.slice (some ⟨g, 0, none⟩) n cap) n (xs.take o ++ vs ++ xs.drop (o + vs.length)) ∧ w.grownBy (w.setCells g o vs) (some g)
  | [], o, w, xs, h, hl => by
    refine ⟨?_, grown_refl _ _⟩
    simp only [List.append_nil, List.length_nil, Nat.add_zero, List.take_append_drop]
    exact h
  | v :: vs, o, w, xs, h, hl => by
    have hxl : xs.length = n * size := h.1
    have h1 := (h.stored o v).1
    obtain ⟨h2, h3⟩ := own_setCellsK vs (o + 1) (w.setCell ⟨g, o, none⟩ v) _ h1 (by simp at hl; omega)
    refine ⟨?_, grown_trans (grown_set w g o v) h3⟩
    have e : (xs.set o v).take (o + 1) ++ vs ++ (xs.set o v).drop (o + 1 + vs.length) = xs.take o ++ (v :: vs) ++ xs.drop (o + (v :: vs).length) := by
      have ho : o < xs.length := by simp at hl; omega
      rw [List.drop_set_of_lt (by omega), List.take_set]
      rw [List.take_succ_eq_append_getElem ho, List.set_append_right _ _ (by simp; omega)]
      simp [Nat.min_eq_left (Nat.le_of_lt ho), Nat.add_assoc, Nat.add_comm 1]
    rw [← e]
    exact h2
theorem own_spareK {B e g n cap size : Nat} : ∀ (vs : List Value) (o : Nat) (w : World) (xs : List Value), w.ownsRow B e size (.slice (some ⟨g, 0, none⟩) n cap) n xs → n * size ≤ o →
    (w.setCells g o vs).ownsRow B e size (.slice (some ⟨g, 0, none⟩) n cap) n xs ∧ w.grownBy (w.setCells g o vs) (some g)
  | [], o, w, xs, h, hl => ⟨h, grown_refl _ _⟩
  | v :: vs, o, w, xs, h, hl => by
    have hxl : xs.length = n * size := h.1
    have h1 := (h.stored o v).1
    rw [List.set_eq_of_length_le (by omega)] at h1
    obtain ⟨h2, h3⟩ := own_spareK vs (o + 1) (w.setCell ⟨g, o, none⟩ v) _ h1 (by omega)
    exact ⟨h2, grown_trans (grown_set w g o v) h3⟩
theorem down_frontK {w : World} {B e g n m cap size : Nat} {xs : List Value} (h : w.ownsRow B e size (.slice (some ⟨g, 0, none⟩) n cap) n xs) (hm : m ≤ n) : w.ownsRow B e size (.slice (some ⟨g, 0, none⟩) m cap) m (xs.take (m * size)) := by
  have hxl : xs.length = n * size := h.1
  have hms : m * size ≤ n * size := Nat.mul_le_mul_right _ hm
  refine ⟨by rw [List.length_take, hxl]; omega, ?_⟩
  rcases h.2 with ⟨hv, _⟩ | ⟨g', cap', cur, hv, hB, hg, h1, h2, h3, h4⟩
  · cases hv
  · simp only [Value.slice.injEq, Option.some.injEq, Addr.mk.injEq, and_true, true_and] at hv
    obtain ⟨rfl, rfl⟩ := hv
    refine .inr ⟨g, cap, cur, rfl, hB, hg, by omega, h2, h3, ?_⟩
    rw [← h4, List.take_take, Nat.min_eq_left hms]
/-- The cells without one element. -/
def cutL (size i : Nat) (xs : List Value) : List Value := xs.take (i * size) ++ xs.drop ((i + 1) * size)
theorem own_delK {w : World} {B e size g n cap i : Nat} {xs : List Value} (h : w.ownsRow B e size (.slice (some ⟨g, 0, none⟩) n cap) n xs) (hi : i < n) :
    (w.setCells g (i * size) (xs.drop ((i + 1) * size))).ownsRow B e size (.slice (some ⟨g, 0, none⟩) (i + (n - (i + 1))) cap) (i + (n - (i + 1))) (cutL size i xs) ∧ w.grownBy (w.setCells g (i * size) (xs.drop ((i + 1) * size))) (some g) := by
  have hL : xs.length = n * size := h.1
  have e1 : (i + 1) * size ≤ n * size := Nat.mul_le_mul_right _ hi
  have e2 : (i + 1) * size = i * size + size := Nat.succ_mul ..
  obtain ⟨h1, h2⟩ := own_setCellsK (xs.drop ((i + 1) * size)) (i * size) w _ h (by rw [List.length_drop]; omega)
  refine ⟨?_, h2⟩
  have h3 := down_frontK h1 (m := i + (n - (i + 1))) (by omega)
  have e4 : (i + (n - (i + 1))) * size = i * size + (n * size - (i + 1) * size) := by
    rw [Nat.add_mul, Nat.sub_mul]
  have e : (xs.take (i * size) ++ xs.drop ((i + 1) * size) ++ xs.drop (i * size + (xs.drop ((i + 1) * size)).length)).take ((i + (n - (i + 1))) * size) = cutL size i xs := by
    unfold cutL
    rw [List.take_append_of_le_length (by rw [List.length_append, List.length_take, List.length_drop, hL, e4]; omega)]
    apply List.take_of_length_le
    rw [List.length_append, List.length_take, List.length_drop, hL, e4]; omega
  rwa [e] at h3
theorem run_clear_one {P : Program} (w : World) (t e ty : TypeId) (z : Value) (zs : List Value) (ht : P.underlying t = some (.slice e)) (hv : ∀ w, (zeroValue e).run P w = .ok z w) (hz : z.cells.toList = zs) (hp : 0 < zs.length) (h1 : ∀ u ∈ zs, u.oneCell' = true) (b o c : Nat)
    (hc : ∀ j, j < zs.length → (w.cell? ⟨b, o + j, none⟩).isSome = true) (hf : ∀ j, j < zs.length → w.frozen? ⟨b, o + j, none⟩ = false) :
    (Builtin.clear_ #[t] ty #[.slice (some ⟨b, o, none⟩) 1 c]).run P w = .ok (.tuple #[]) (w.setCells b o zs) := by
  have hzc : (Builtin.zeroCells z.cells 1).toList = zs := by
    subst hz
    simp only [Builtin.zeroCells, Nat.one_mul]
    apply List.ext_getElem
    · simp
    · intro i h1 h2
      have h3 : i < z.cells.size := by simpa using h2
      simp [Nat.mod_eq_of_lt h3, h3]
  have hst := run_storeCells_cells (P := P) b o zs 0 w (by simpa using hc) (by simpa using hf) h1
  simp only [Nat.add_zero] at hst
  simp [Builtin.clear_, run_underlying ht, hv, hzc, hst]
theorem own_atK {w : World} {B e size g n cap : Nat} {xs : List Value} (h : w.ownsRow B e size (.slice (some ⟨g, 0, none⟩) n cap) n xs) (j : Nat) (u : Value) (hj : xs[j]? = some u) : w.cell? ⟨g, j, none⟩ = some u := by
  have hlt := (List.getElem?_eq_some_iff.1 hj).1
  rw [h.cellAt j (by rw [h.1] at hlt; exact hlt), hj]

set_option maxRecDepth 100000 in
set_option maxHeartbeats 8000000 in
theorem delInt_any (B g n cap i : Nat) (xs : List Value) (w : World) (h : w.ownsRow B 3 1 (.slice (some ⟨g, 0, none⟩) n cap) n xs) (hi : i < n) (hn : n ≤ 1000000) (h1 : ∀ u ∈ xs, u.oneCell' = true) :
    Calls Tryz.prog 88 #[.slice (some ⟨g, 0, none⟩) n cap, .int .i64 (i : Int), .int .i64 ((i : Int) + 1)] w fun e w' => e = .returned (.slice (some ⟨g, 0, none⟩) (n - 1) cap) ∧ Kp (w'.ownsRow B 3 1 (.slice (some ⟨g, 0, none⟩) (n - 1) cap) (n - 1) (cutL 1 i xs)) ∧ Kp (w.grownBy w' (some g)) := by
  have hL : xs.length = n * 1 := h.1
  have hle := (own_slc h).le
  have hcm := (own_slc h).capm
  unfold maxLen at hcm
  have hinf : ∃ i0, Tryz.prog.info? 3 = some i0 ∧ i0.size = 1 := by
    obtain ⟨i0, hi0, _, hz1, _⟩ := tInts.info
    exact ⟨i0, hi0, hz1⟩
  obtain ⟨i0, hi0, hz1⟩ := hinf
  obtain ⟨news, hnews⟩ : ∃ news, news = xs.drop ((i + 1) * 1) := ⟨_, rfl⟩
  have hnl : news.length = (n - (i + 1)) * 1 := by rw [hnews, List.length_drop, hL]; omega
  have HD := h.drew
  obtain ⟨A, hA, hsrc⟩ : ∃ A : Addr, (if cap = i + 1 then some (⟨g, 0, none⟩ : Addr) else some ⟨g, (i + 1), none⟩) = some A ∧ Hid (∀ t u, news[t]? = some u → w.drew.cell? (A.add t) = some u) := by
    by_cases hc : cap = i + 1
    · refine ⟨⟨g, 0, none⟩, by simp [hc], fun t u hu => ?_⟩
      have h0 : news.length = 0 := by rw [hnl]; omega
      rw [List.length_eq_zero_iff.1 h0] at hu
      simp at hu
    · refine ⟨⟨g, (i + 1), none⟩, by simp [hc], fun t u hu => ?_⟩
      rw [add_none]
      rw [hnews, List.getElem?_drop] at hu
      exact own_atK HD _ _ (by first | exact hu | (rw [Nat.mul_one] at hu; exact hu))
  have s1 : Hid (news.length = (n - (i + 1)) * 1) := hnl
  have s2 : Hid (∀ u ∈ news, u.oneCell' = true) := by
    intro u hu
    rw [hnews] at hu
    exact h1 u (List.mem_of_mem_drop hu)
  have s3 : Hid (∀ t, t < news.length → (w.drew.cell? ⟨g, 0 + i * 1 + t, none⟩).isSome = true ∧ w.drew.frozen? ⟨g, 0 + i * 1 + t, none⟩ = false) := by
    intro t ht
    rw [hnl] at ht
    rw [Nat.zero_add]
    refine ⟨?_, HD.frozenAt _⟩
    rw [HD.cellAt (i * 1 + t) (by omega), List.getElem?_eq_getElem (by rw [hL]; omega)]
    rfl
  obtain ⟨W1, hW1⟩ : ∃ W1, W1 = w.drew.setCells g (0 + i * 1) news := ⟨_, rfl⟩
  have hd := own_delK HD hi
  rw [← hnews, show w.drew.setCells g (i * 1) news = W1 by rw [hW1, Nat.zero_add], show i + (n - (i + 1)) = n - 1 by omega] at hd
  have HS := own_setCellsK news (i * 1) w.drew _ HD (by rw [hnl]; omega)
  rw [show w.drew.setCells g (i * 1) news = W1 by rw [hW1, Nat.zero_add]] at HS
  have hcl : ∀ ty, (Builtin.clear_ #[37] ty #[.slice (some ⟨g, (n - 1), none⟩) 1 (cap - (n - 1))]).run Tryz.prog W1 = .ok (.tuple #[]) (W1.setCells g (n - 1) ([.int .i64 0] : List Value)) :=
    fun ty => run_clear_one W1 37 3 ty (.int .i64 0) ([.int .i64 0] : List Value) Tryz.underlying37 (fun w => by kernel_rfl) rfl (by decide) (by simp [Value.oneCell']) g (n - 1) (cap - (n - 1)) (fun j hj => by
      have hj' : j < 1 := hj
      rw [HS.1.cellAt ((n - 1) + j) (by omega), List.getElem?_eq_getElem (by rw [HS.1.1]; omega)]; rfl) (fun j hj => HS.1.frozenAt _)
  have hsp := own_spareK ([.int .i64 0] : List Value) (n - 1) W1 _ hd.1 (by omega)
  have R1 := Kp.mk hsp.1
  have R2 := Kp.mk (show w.grownBy (W1.setCells g (n - 1) ([.int .i64 0] : List Value)) (some g) from grown_trans (grown_trans (grown_drew (grown_refl w (some g))) hd.2) hsp.2)
  have hW : Hid (W1 = w.drew.setCells g (0 + i * 1) news) := hW1
  have hic : i ≤ cap := by omega
  have hjc : i + 1 ≤ cap := by omega
  have hjc2 : i + 1 ≤ n := by omega
  have hw1 : IntKind.i64.wrap ((i : Int) + 1) = (i : Int) + 1 := IntWalk.i64_in _ (by omega)
  have hp0 : (0 : Int) ≤ (i : Int) + 1 := by omega
  have hp1 : (i : Int) + 1 ≤ (n : Int) := by omega
  have hp2 : ((i : Int) + 1).toNat = i + 1 := by omega
  have hne : ((i : Int) == (i : Int) + 1) = false := by rw [beq_eq_false_iff_ne]; omega
  have e9 : i + (n - (i + 1)) = n - 1 := by omega
  have e8 : n - (n - 1) = 1 := by omega
  have hp3 : (((n - 1 : Nat) : Int)).toNat = n - 1 := by omega
  have hp4 : ((n - 1 : Nat) : Int) ≤ (n : Int) := by omega
  have hp5 : n - 1 ≤ cap := by omega
  clear h HD hd HS hsp hnews hW1 hnl
  go_enter Tryz.func88, Tryz.ntmps88
  go_wp2_with fail
  go_region_law (refine step_append_room rfl (.tmp 22) (.tmp 25) 37 rfl 3 i0 1 Tryz.underlying37 hi0 hz1 g 0 i cap (by simp [Act.eval, Act.put]) A (n - (i + 1)) (cap - (i + 1)) news (by simp [Act.eval, Act.put]) s1.out hsrc.out s2.out (by omega) s3.out ?_; rw [← hW.out, e9])
  go_wp2
  go_ret
  exact ⟨rfl, R1, R2⟩

set_option maxRecDepth 100000 in
set_option maxHeartbeats 8000000 in
theorem delPt_any (B g n cap i : Nat) (xs : List Value) (w : World) (h : w.ownsRow B 28 3 (.slice (some ⟨g, 0, none⟩) n cap) n xs) (hi : i < n) (hn : n ≤ 1000000) (h1 : ∀ u ∈ xs, u.oneCell' = true) :
    Calls Tryz.prog 89 #[.slice (some ⟨g, 0, none⟩) n cap, .int .i64 (i : Int), .int .i64 ((i : Int) + 1)] w fun e w' => e = .returned (.slice (some ⟨g, 0, none⟩) (n - 1) cap) ∧ Kp (w'.ownsRow B 28 3 (.slice (some ⟨g, 0, none⟩) (n - 1) cap) (n - 1) (cutL 3 i xs)) ∧ Kp (w.grownBy w' (some g)) := by
  have hL : xs.length = n * 3 := h.1
  have hle := (own_slc h).le
  have hcm := (own_slc h).capm
  unfold maxLen at hcm
  have hinf : ∃ i0, Tryz.prog.info? 28 = some i0 ∧ i0.size = 3 := by
    obtain ⟨i0, hi0, _, hz1, _⟩ := tPts.info
    exact ⟨i0, hi0, hz1⟩
  obtain ⟨i0, hi0, hz1⟩ := hinf
  obtain ⟨news, hnews⟩ : ∃ news, news = xs.drop ((i + 1) * 3) := ⟨_, rfl⟩
  have hnl : news.length = (n - (i + 1)) * 3 := by rw [hnews, List.length_drop, hL]; omega
  have HD := h.drew
  obtain ⟨A, hA, hsrc⟩ : ∃ A : Addr, (if cap = i + 1 then some (⟨g, 0, none⟩ : Addr) else some ⟨g, (i + 1) * 3, none⟩) = some A ∧ Hid (∀ t u, news[t]? = some u → w.drew.cell? (A.add t) = some u) := by
    by_cases hc : cap = i + 1
    · refine ⟨⟨g, 0, none⟩, by simp [hc], fun t u hu => ?_⟩
      have h0 : news.length = 0 := by rw [hnl]; omega
      rw [List.length_eq_zero_iff.1 h0] at hu
      simp at hu
    · refine ⟨⟨g, (i + 1) * 3, none⟩, by simp [hc], fun t u hu => ?_⟩
      rw [add_none]
      rw [hnews, List.getElem?_drop] at hu
      exact own_atK HD _ _ (by first | exact hu | (rw [Nat.mul_one] at hu; exact hu))
  have s1 : Hid (news.length = (n - (i + 1)) * 3) := hnl
  have s2 : Hid (∀ u ∈ news, u.oneCell' = true) := by
    intro u hu
    rw [hnews] at hu
    exact h1 u (List.mem_of_mem_drop hu)
  have s3 : Hid (∀ t, t < news.length → (w.drew.cell? ⟨g, 0 + i * 3 + t, none⟩).isSome = true ∧ w.drew.frozen? ⟨g, 0 + i * 3 + t, none⟩ = false) := by
    intro t ht
    rw [hnl] at ht
    rw [Nat.zero_add]
    refine ⟨?_, HD.frozenAt _⟩
    rw [HD.cellAt (i * 3 + t) (by omega), List.getElem?_eq_getElem (by rw [hL]; omega)]
    rfl
  obtain ⟨W1, hW1⟩ : ∃ W1, W1 = w.drew.setCells g (0 + i * 3) news := ⟨_, rfl⟩
  have hd := own_delK HD hi
  rw [← hnews, show w.drew.setCells g (i * 3) news = W1 by rw [hW1, Nat.zero_add], show i + (n - (i + 1)) = n - 1 by omega] at hd
  have HS := own_setCellsK news (i * 3) w.drew _ HD (by rw [hnl]; omega)
  rw [show w.drew.setCells g (i * 3) news = W1 by rw [hW1, Nat.zero_add]] at HS
  have hcl : ∀ ty, (Builtin.clear_ #[43] ty #[.slice (some ⟨g, ((n - 1) * 3), none⟩) 1 (cap - (n - 1))]).run Tryz.prog W1 = .ok (.tuple #[]) (W1.setCells g ((n - 1) * 3) ([.int .i64 0, .int .i64 0, .int .i64 0] : List Value)) :=
    fun ty => run_clear_one W1 43 28 ty (.agg #[.int .i64 0, .int .i64 0, .int .i64 0]) ([.int .i64 0, .int .i64 0, .int .i64 0] : List Value) Tryz.underlying43 (fun w => by kernel_rfl) rfl (by decide) (by simp [Value.oneCell']) g ((n - 1) * 3) (cap - (n - 1)) (fun j hj => by
      have hj' : j < 3 := hj
      rw [HS.1.cellAt (((n - 1) * 3) + j) (by omega), List.getElem?_eq_getElem (by rw [HS.1.1]; omega)]; rfl) (fun j hj => HS.1.frozenAt _)
  have hsp := own_spareK ([.int .i64 0, .int .i64 0, .int .i64 0] : List Value) ((n - 1) * 3) W1 _ hd.1 (by omega)
  have R1 := Kp.mk hsp.1
  have R2 := Kp.mk (show w.grownBy (W1.setCells g ((n - 1) * 3) ([.int .i64 0, .int .i64 0, .int .i64 0] : List Value)) (some g) from grown_trans (grown_trans (grown_drew (grown_refl w (some g))) hd.2) hsp.2)
  have hW : Hid (W1 = w.drew.setCells g (0 + i * 3) news) := hW1
  have hic : i ≤ cap := by omega
  have hjc : i + 1 ≤ cap := by omega
  have hjc2 : i + 1 ≤ n := by omega
  have hw1 : IntKind.i64.wrap ((i : Int) + 1) = (i : Int) + 1 := IntWalk.i64_in _ (by omega)
  have hp0 : (0 : Int) ≤ (i : Int) + 1 := by omega
  have hp1 : (i : Int) + 1 ≤ (n : Int) := by omega
  have hp2 : ((i : Int) + 1).toNat = i + 1 := by omega
  have hne : ((i : Int) == (i : Int) + 1) = false := by rw [beq_eq_false_iff_ne]; omega
  have e9 : i + (n - (i + 1)) = n - 1 := by omega
  have e8 : n - (n - 1) = 1 := by omega
  have hp3 : (((n - 1 : Nat) : Int)).toNat = n - 1 := by omega
  have hp4 : ((n - 1 : Nat) : Int) ≤ (n : Int) := by omega
  have hp5 : n - 1 ≤ cap := by omega
  clear h HD hd HS hsp hnews hW1 hnl
  go_enter Tryz.func89, Tryz.ntmps89
  go_wp2_with fail
  go_region_law (refine step_append_room rfl (.tmp 22) (.tmp 25) 43 rfl 28 i0 3 Tryz.underlying43 hi0 hz1 g 0 i cap (by simp [Act.eval, Act.put]) A (n - (i + 1)) (cap - (i + 1)) news (by simp [Act.eval, Act.put]) s1.out hsrc.out s2.out (by omega) s3.out ?_; rw [← hW.out, e9])
  go_wp2
  go_ret
  exact ⟨rfl, R1, R2⟩

set_option maxRecDepth 100000 in
set_option maxHeartbeats 8000000 in
theorem delBt_any (B g n cap i : Nat) (xs : List Value) (w : World) (h : w.ownsRow B 121 1 (.slice (some ⟨g, 0, none⟩) n cap) n xs) (hi : i < n) (hn : n ≤ 1000000) (h1 : ∀ u ∈ xs, u.oneCell' = true) :
    Calls Tryz.prog 61 #[.slice (some ⟨g, 0, none⟩) n cap, .int .i64 (i : Int), .int .i64 ((i : Int) + 1)] w fun e w' => e = .returned (.slice (some ⟨g, 0, none⟩) (n - 1) cap) ∧ Kp (w'.ownsRow B 121 1 (.slice (some ⟨g, 0, none⟩) (n - 1) cap) (n - 1) (cutL 1 i xs)) ∧ Kp (w.grownBy w' (some g)) := by
  have hL : xs.length = n * 1 := h.1
  have hle := (own_slc h).le
  have hcm := (own_slc h).capm
  unfold maxLen at hcm
  have hinf : ∃ i0, Tryz.prog.info? 121 = some i0 ∧ i0.size = 1 := by
    obtain ⟨i0, hi0, _, hz1, _⟩ := tBts.info
    exact ⟨i0, hi0, hz1⟩
  obtain ⟨i0, hi0, hz1⟩ := hinf
  obtain ⟨news, hnews⟩ : ∃ news, news = xs.drop ((i + 1) * 1) := ⟨_, rfl⟩
  have hnl : news.length = (n - (i + 1)) * 1 := by rw [hnews, List.length_drop, hL]; omega
  have HD := h.drew
  obtain ⟨A, hA, hsrc⟩ : ∃ A : Addr, (if cap = i + 1 then some (⟨g, 0, none⟩ : Addr) else some ⟨g, (i + 1), none⟩) = some A ∧ Hid (∀ t u, news[t]? = some u → w.drew.cell? (A.add t) = some u) := by
    by_cases hc : cap = i + 1
    · refine ⟨⟨g, 0, none⟩, by simp [hc], fun t u hu => ?_⟩
      have h0 : news.length = 0 := by rw [hnl]; omega
      rw [List.length_eq_zero_iff.1 h0] at hu
      simp at hu
    · refine ⟨⟨g, (i + 1), none⟩, by simp [hc], fun t u hu => ?_⟩
      rw [add_none]
      rw [hnews, List.getElem?_drop] at hu
      exact own_atK HD _ _ (by first | exact hu | (rw [Nat.mul_one] at hu; exact hu))
  have s1 : Hid (news.length = (n - (i + 1)) * 1) := hnl
  have s2 : Hid (∀ u ∈ news, u.oneCell' = true) := by
    intro u hu
    rw [hnews] at hu
    exact h1 u (List.mem_of_mem_drop hu)
  have s3 : Hid (∀ t, t < news.length → (w.drew.cell? ⟨g, 0 + i * 1 + t, none⟩).isSome = true ∧ w.drew.frozen? ⟨g, 0 + i * 1 + t, none⟩ = false) := by
    intro t ht
    rw [hnl] at ht
    rw [Nat.zero_add]
    refine ⟨?_, HD.frozenAt _⟩
    rw [HD.cellAt (i * 1 + t) (by omega), List.getElem?_eq_getElem (by rw [hL]; omega)]
    rfl
  obtain ⟨W1, hW1⟩ : ∃ W1, W1 = w.drew.setCells g (0 + i * 1) news := ⟨_, rfl⟩
  have hd := own_delK HD hi
  rw [← hnews, show w.drew.setCells g (i * 1) news = W1 by rw [hW1, Nat.zero_add], show i + (n - (i + 1)) = n - 1 by omega] at hd
  have HS := own_setCellsK news (i * 1) w.drew _ HD (by rw [hnl]; omega)
  rw [show w.drew.setCells g (i * 1) news = W1 by rw [hW1, Nat.zero_add]] at HS
  have hcl : ∀ ty, (Builtin.clear_ #[69] ty #[.slice (some ⟨g, (n - 1), none⟩) 1 (cap - (n - 1))]).run Tryz.prog W1 = .ok (.tuple #[]) (W1.setCells g (n - 1) ([.pointer none] : List Value)) :=
    fun ty => run_clear_one W1 69 121 ty (.pointer none) ([.pointer none] : List Value) Tryz.underlying69 (fun w => by kernel_rfl) rfl (by decide) (by simp [Value.oneCell']) g (n - 1) (cap - (n - 1)) (fun j hj => by
      have hj' : j < 1 := hj
      rw [HS.1.cellAt ((n - 1) + j) (by omega), List.getElem?_eq_getElem (by rw [HS.1.1]; omega)]; rfl) (fun j hj => HS.1.frozenAt _)
  have hsp := own_spareK ([.pointer none] : List Value) (n - 1) W1 _ hd.1 (by omega)
  have R1 := Kp.mk hsp.1
  have R2 := Kp.mk (show w.grownBy (W1.setCells g (n - 1) ([.pointer none] : List Value)) (some g) from grown_trans (grown_trans (grown_drew (grown_refl w (some g))) hd.2) hsp.2)
  have hW : Hid (W1 = w.drew.setCells g (0 + i * 1) news) := hW1
  have hic : i ≤ cap := by omega
  have hjc : i + 1 ≤ cap := by omega
  have hjc2 : i + 1 ≤ n := by omega
  have hw1 : IntKind.i64.wrap ((i : Int) + 1) = (i : Int) + 1 := IntWalk.i64_in _ (by omega)
  have hp0 : (0 : Int) ≤ (i : Int) + 1 := by omega
  have hp1 : (i : Int) + 1 ≤ (n : Int) := by omega
  have hp2 : ((i : Int) + 1).toNat = i + 1 := by omega
  have hne : ((i : Int) == (i : Int) + 1) = false := by rw [beq_eq_false_iff_ne]; omega
  have e9 : i + (n - (i + 1)) = n - 1 := by omega
  have e8 : n - (n - 1) = 1 := by omega
  have hp3 : (((n - 1 : Nat) : Int)).toNat = n - 1 := by omega
  have hp4 : ((n - 1 : Nat) : Int) ≤ (n : Int) := by omega
  have hp5 : n - 1 ≤ cap := by omega
  clear h HD hd HS hsp hnews hW1 hnl
  go_enter Tryz.func61, Tryz.ntmps61
  go_wp2_with fail
  go_region_law (refine step_append_room rfl (.tmp 22) (.tmp 25) 69 rfl 121 i0 1 Tryz.underlying69 hi0 hz1 g 0 i cap (by simp [Act.eval, Act.put]) A (n - (i + 1)) (cap - (i + 1)) news (by simp [Act.eval, Act.put]) s1.out hsrc.out s2.out (by omega) s3.out ?_; rw [← hW.out, e9])
  go_wp2
  go_ret
  exact ⟨rfl, R1, R2⟩

end Go.Proofs.YtladgklnacihkaaGreat

