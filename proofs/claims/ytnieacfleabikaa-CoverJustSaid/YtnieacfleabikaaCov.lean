/- Package morton: the spans of a rectangle. -/
import Derived.Test.YtnieacfleabikaaCovP
import Derived.Test.YtnieacfleabikaaMorS
namespace Go.Proofs.Ytnieacfleabikaa
set_option linter.unusedVariables false
open Go.RowKit

theorem info_span : (Try.prog.info? 33).map (fun i => (i.zero, i.size, i.bytes)) = some (some (.agg #[.int .i64 0, .int .i64 0]), 2, 16) := by kernel_rfl
theorem tSpans : ElemTy Try.prog 25 33 2 16 (.agg #[.int .i64 0, .int .i64 0]) :=
  ⟨Try.underlying25, by obtain ⟨i0, hi, h0, h1, h2⟩ := info_parts info_span; exact ⟨i0, hi, h0, h1, h2⟩, rfl, by decide⟩

def spans : List (Nat × Nat) → List Value
  | [] => []
  | s :: r => .int .i64 s.1 :: .int .i64 s.2 :: spans r
theorem spans_length (l : List (Nat × Nat)) : (spans l).length = l.length * 2 := by
  induction l with
  | nil => rfl
  | cons s r ih => simp only [spans, List.length_cons, ih]; omega
theorem spans_append (l m : List (Nat × Nat)) : spans (l ++ m) = spans l ++ spans m := by
  induction l with
  | nil => rfl
  | cons s r ih => simp only [List.cons_append, spans, ih]
theorem spans_at (l : List (Nat × Nat)) (i : Nat) (hi : i < l.length) : (spans l)[i * 2]? = some (.int .i64 l[i].1) ∧ (spans l)[i * 2 + 1]? = some (.int .i64 l[i].2) := by
  induction l generalizing i with
  | nil => simp at hi
  | cons s r ih =>
    cases i with
    | zero => exact ⟨rfl, rfl⟩
    | succ i =>
      have h := ih i (by simpa using hi)
      rw [show (i + 1) * 2 = i * 2 + 1 + 1 by omega]
      exact h
/-- A slice of spans that reads as l. -/
def SlS (w : World) (a : Option Addr) (cap : Nat) (l : List (Nat × Nat)) : Prop := SlC w a l.length cap 2 (spans l)
def OwnS (B : Nat) (w : World) (a : Option Addr) (cap : Nat) (l : List (Nat × Nat)) : Prop := w.ownsRow B 33 2 (.slice a l.length cap) l.length (spans l)
theorem SlS.at {w : World} {a : Option Addr} {cap : Nat} {l : List (Nat × Nat)} (h : SlS w a cap l) (i : Nat) (hi : i < l.length) :
    ∃ b off, a = some ⟨b, off, none⟩ ∧ w.cell? ⟨b, off + i * 2, none⟩ = some (.int .i64 l[i].1) ∧ w.cell? ⟨b, off + i * 2 + 1, none⟩ = some (.int .i64 l[i].2) := by
  obtain ⟨h1, h2⟩ := spans_at l i hi
  obtain ⟨g1, e1⟩ := List.getElem?_eq_some_iff.1 h1
  obtain ⟨g2, e2⟩ := List.getElem?_eq_some_iff.1 h2
  obtain ⟨b, off, ha, hc⟩ := SlC.cell h (i * 2) g1
  obtain ⟨b', off', ha', hc'⟩ := SlC.cell h (i * 2 + 1) g2
  rw [ha] at ha'
  simp only [Option.some.injEq, Addr.mk.injEq, and_true] at ha'
  obtain ⟨rfl, rfl⟩ := ha'
  exact ⟨b, off, ha, by rw [hc, e1], by rw [Nat.add_assoc, hc', e2]⟩

/-- The parts of a square, one behind the other. -/
def Parts (X0 Y0 X1 Y1 x y m c : Nat) : Nat → List (Nat × Nat) → List (Nat × Nat) → Prop
  | 0, l, l' => l' = l
  | i + 1, l, l' => ∃ k, Parts X0 Y0 X1 Y1 x y m c i l k ∧ Cov X0 Y0 X1 Y1 (x + m * (i % 2)) (y + m * (i / 2)) m (c + i * (m * m)) k l'
theorem Parts.all {X0 Y0 X1 Y1 x y m c : Nat} {l l' : List (Nat × Nat)} (hx : X0 ≤ X1) (hy : Y0 ≤ Y1) (h : Parts X0 Y0 X1 Y1 x y m c 4 l l') : Cov X0 Y0 X1 Y1 x y (m + m) c l l' := by
  obtain ⟨l3, ⟨l2, ⟨l1, ⟨l0, h0, h1⟩, h2⟩, h3⟩, h4⟩ := h
  simp only [Parts] at h0
  subst h0
  simp only [Nat.zero_mod, Nat.zero_div, Nat.mul_zero, Nat.add_zero, Nat.zero_mul, Nat.reduceMod, Nat.reduceDiv, Nat.mul_one, Nat.one_mul] at h1 h2 h3 h4
  refine Cov.four (l3 := l3) hx hy h1 h2 ?_ ?_
  · rwa [show c + m * m + m * m = c + 2 * (m * m) by omega]
  · rwa [show c + m * m + m * m + m * m = c + 3 * (m * m) by omega]
theorem Parts.gap {X0 Y0 X1 Y1 x y m c i : Nat} {l l' : List (Nat × Nat)} (hg : Gap c l) (h : Parts X0 Y0 X1 Y1 x y m c i l l') : Gap (c + i * (m * m)) l' := by
  cases i with
  | zero =>
    simp only [Parts] at h
    subst h
    rwa [Nat.zero_mul]
  | succ i =>
    obtain ⟨k, _, h⟩ := h
    rw [Nat.add_mul, Nat.one_mul, ← Nat.add_assoc]
    exact h.gap


set_option maxHeartbeats 1000000 in
theorem cover_none (X0 Y0 X1 Y1 x y m n cap : Nat) (sa : Option Addr) (w : World) (h1 : X1 < 256) (h2 : Y1 < 256) (h3 : X0 ≤ X1) (h4 : Y0 ≤ Y1) (hx : x + m ≤ 256) (hy : y + m ≤ 256) (ho : X1 < x ∨ Y1 < y ∨ x + m ≤ X0 ∨ y + m ≤ Y0) :
    Calls Try.prog 34 #[.agg #[.int .i64 X0, .int .i64 Y0, .int .i64 X1, .int .i64 Y1], .int .i64 x, .int .i64 y, .int .i64 m, .slice sa n cap] w fun e w' => e = .returned (.slice sa n cap) ∧ w.grownBy w' (blk sa) ∧ w.alloc (.cells #[.int .i64 X0, .int .i64 Y0, .int .i64 X1, .int .i64 Y1] 23) = w' := by
  have e1 : (decide ((x : Int) > X1) || decide ((y : Int) > Y1) || decide ((x : Int) + m ≤ X0) || decide ((y : Int) + m ≤ Y0)) = true := by
    simp only [Bool.or_eq_true, decide_eq_true_eq]; omega
  go_enter Try.func34, Try.ntmps34
  go_wp2
  all_goals (go_ret; exact ⟨rfl, grown_weak (grown_of_below (below_alloc (Nat.le_refl _) _)), rfl⟩)

theorem newOr_alloc {w : World} {o : Obj} {a a' : Option Addr} (h : NewOr (w.alloc o) a a') : NewOr w a a' := by
  rcases h with h | ⟨g, h1, h2⟩
  · exact .inl h
  · exact .inr ⟨g, h1, by rw [alloc_size] at h2; omega⟩
theorem newOr_trans {w w1 : World} {a a1 a2 : Option Addr} (h : NewOr w a a1) (h' : NewOr w1 a1 a2) (hs : w.heap.size ≤ w1.heap.size) : NewOr w a a2 := by
  rcases h' with e | ⟨g, h1, h2⟩
  · rcases h with h | ⟨g, h1, h2⟩
    · exact .inl (e.trans h)
    · exact .inr ⟨g, e.trans h1, h2⟩
  · exact .inr ⟨g, h1, by omega⟩
/-- Two calls, one behind the other, that may turn the block of a row that is appended to. -/
theorem grown_new {w w1 w2 : World} {a a1 : Option Addr} (h : w.grownBy w1 (blk a)) (hn : NewOr w a a1) (h' : w1.grownBy w2 (blk a1)) : w.grownBy w2 (blk a) := by
  refine ⟨h'.os.trans h.os, h'.tape.trans h.tape, h'.output.trans h.output, Nat.le_trans h.size h'.size, fun i hi hr => ?_⟩
  refine (h'.block i (Nat.lt_of_lt_of_le hi h.size) ?_).trans (h.block i hi hr)
  rcases hn with e | ⟨g, h1, h2⟩
  · rw [e]; exact hr
  · rw [h1]; intro e; simp at e; omega

/-- What is known of a square that lies whole in the rectangle: its first code, and how many. -/
structure Whole (x y m c M A D : Nat) : Prop where
  sx : spr 1 32 x = A
  sy : spr 1 32 y = D
  orr : bits BinOp.or IntKind.i64 (A : Int) ((D : Int) * 2) = (c : Int)
  la : A ≤ 65536
  ld : D ≤ 65536
  mul : (m : Int) * m = (M : Int)
  ml : M ≤ 65536
  mp : 0 < M
theorem whole_of (x y m c : Nat) (hm : 0 < m) (hx : x + m ≤ 256) (hy : y + m ≤ 256) (hc : cod x y = c) : ∃ A D, Whole x y m c (m * m) A D := by
  have l1 := Nat.le_trans (spr_sq 1 32 x) (Nat.mul_le_mul (show x ≤ 256 by omega) (show x ≤ 256 by omega))
  have l2 := Nat.le_trans (spr_sq 1 32 y) (Nat.mul_le_mul (show y ≤ 256 by omega) (show y ≤ 256 by omega))
  have ho := i64_or_nat (spr 1 32 x) (spr 1 32 y * 2) (by omega) (by omega)
  have hcod : spr 1 32 x ||| spr 1 32 y * 2 = c := by rw [or_cod, ← cod_eq]; exact hc
  rw [hcod, Int.natCast_mul] at ho
  exact ⟨_, _, rfl, rfl, ho, l1, l2, (Int.natCast_mul m m).symm, Nat.mul_le_mul (show m ≤ 256 by omega) (show m ≤ 256 by omega), Nat.mul_pos hm hm⟩

set_option maxHeartbeats 1000000 in
theorem cover_new0 (X0 Y0 X1 Y1 x y m c M A D B : Nat) (sa : Option Addr) (cap : Nat) (w : World) (h1 : X1 < 256) (h2 : Y1 < 256) (hx : x + m ≤ X1 + 1) (hy : y + m ≤ Y1 + 1) (hm : 0 < m) (hx0 : X0 ≤ x) (hy0 : Y0 ≤ y) (hW : Whole x y m c M A D) (hcm : c ≤ 65536) (hB : B ≤ w.heap.size)
    (h : OwnS B w sa cap []) :
    Calls Try.prog 34 #[.agg #[.int .i64 X0, .int .i64 Y0, .int .i64 X1, .int .i64 Y1], .int .i64 x, .int .i64 y, .int .i64 m, .slice sa 0 cap] w fun e w' =>
      ∃ sa' cap', e = .returned (.slice sa' 1 cap') ∧ OwnS B w' sa' cap' [(c, c + M - 1)] ∧ w.grownBy w' (blk sa) ∧ NewOr w sa sa' := by
  have hor := hW.orr
  have hmm := hW.mul
  have la := hW.la
  have ld := hW.ld
  have ml := hW.ml
  have mp := hW.mp
  have HW := Kp.mk hW
  clear hW
  have HO := Kp.mk (show w.ownsRow B 33 2 (.slice sa 0 cap) 0 (spans []) from h)
  clear h
  go_enter Try.func34, Try.ntmps34
  go_wp2_with fail
  refine (spread_any x _ (by omega)).mono ?_
  rintro e w' ⟨rfl, rfl⟩
  rw [HW.out.sx]
  go_wp2_with fail
  refine (spread_any y _ (by omega)).mono ?_
  rintro e w' ⟨rfl, rfl⟩
  rw [HW.out.sy]
  go_wp2_with (at_builtin; refine wpList_pushS tSpans rfl _ _ rfl B sa 0 cap (spans []) rfl (HO.out.alloc _) 1 _ ?cx rfl ?c1 ?cy (by decide) ?cz ?c2)
  case cx => rw [alloc_size]; rfl
  case cy => omega
  case cz => rw [alloc_size]; omega
  case c1 => simp [Value.oneCell']
  case c2 =>
    intro sa' cap' w' hown hb hno
    have HN := Kp.mk hown
    have HB := Kp.mk (grownBy_of_alloc hb)
    have HQ := Kp.mk (newOr_alloc hno)
    have e : (c : Int) + M - 1 = ((c + M - 1 : Nat) : Int) := by omega
    clear hown hb hno
    go_wp2
    go_ret
    refine ⟨sa', cap', rfl, ?_, HB.out, HQ.out⟩
    have h := HN.out
    rw [e] at h
    exact h

set_option maxHeartbeats 1000000 in
theorem cover_new (X0 Y0 X1 Y1 x y m c M A D B : Nat) (sa : Option Addr) (cap k a b : Nat) (l : List (Nat × Nat)) (w : World) (h1 : X1 < 256) (h2 : Y1 < 256) (hx : x + m ≤ X1 + 1) (hy : y + m ≤ Y1 + 1) (hm : 0 < m) (hx0 : X0 ≤ x) (hy0 : Y0 ≤ y) (hW : Whole x y m c M A D) (hcm : c ≤ 65536) (hB : B ≤ w.heap.size)
    (h : OwnS B w sa cap (l ++ [(a, b)])) (hk : l.length = k) (hk2 : k ≤ 65536) (hbc : b + 1 ≠ c) (hb6 : b ≤ 65536) :
    Calls Try.prog 34 #[.agg #[.int .i64 X0, .int .i64 Y0, .int .i64 X1, .int .i64 Y1], .int .i64 x, .int .i64 y, .int .i64 m, .slice sa (k + 1) cap] w fun e w' =>
      ∃ sa' cap', e = .returned (.slice sa' (k + 2) cap') ∧ OwnS B w' sa' cap' (l ++ [(a, b)] ++ [(c, c + M - 1)]) ∧ w.grownBy w' (blk sa) ∧ NewOr w sa sa' := by
  have hor := hW.orr
  have hmm := hW.mul
  have la := hW.la
  have ld := hW.ld
  have ml := hW.ml
  have mp := hW.mp
  have HW := Kp.mk hW
  clear hW
  have HO := Kp.mk (show w.ownsRow B 33 2 (.slice sa (k + 1) cap) (k + 1) (spans (l ++ [(a, b)])) from by
    have : (l ++ [(a, b)]).length = k + 1 := by rw [List.length_append, hk]; rfl
    unfold OwnS at h
    rwa [this] at h)
  obtain ⟨g, rfl, hg, hg2⟩ := own_some HO.out (by omega)
  have cl : w.cell? ⟨g, k * 2 + 1, none⟩ = some (.int .i64 b) := by
    rw [HO.out.cellAt (k * 2 + 1) (by omega), (spans_at (l ++ [(a, b)]) k (by simp; omega)).2]
    simp [← hk]
  have HK := Kp.mk hk
  clear h hk
  go_enter Try.func34, Try.ntmps34
  go_wp2_with fail
  refine (spread_any x _ (by omega)).mono ?_
  rintro e w' ⟨rfl, rfl⟩
  rw [HW.out.sx]
  go_wp2_with fail
  refine (spread_any y _ (by omega)).mono ?_
  rintro e w' ⟨rfl, rfl⟩
  rw [HW.out.sy]
  go_wp2_with (at_builtin; refine wpList_pushS tSpans rfl _ _ rfl B (some ⟨g, 0, none⟩) (k + 1) cap (spans (l ++ [(a, b)])) rfl (HO.out.alloc _) 1 _ ?cx rfl ?c1 ?cy (by decide) ?cz ?c2)
  case cx => rw [alloc_size]; rfl
  case cy => omega
  case cz => rw [alloc_size]; omega
  case c1 => simp [Value.oneCell']
  case c2 =>
    intro sa' cap' w' hown hb hno
    have HN := Kp.mk hown
    have HB := Kp.mk (grownBy_of_alloc hb)
    have HQ := Kp.mk (newOr_alloc hno)
    have e : (c : Int) + M - 1 = ((c + M - 1 : Nat) : Int) := by omega
    clear hown hb hno
    go_wp2
    go_ret
    refine ⟨sa', cap', rfl, ?_, HB.out, HQ.out⟩
    have h := HN.out
    rw [e] at h
    unfold OwnS
    rw [spans_append, show (l ++ [(a, b)] ++ [(c, c + M - 1)]).length = k + 1 + 1 by simp [HK.out]]
    exact h

set_option maxHeartbeats 1000000 in
theorem cover_join (X0 Y0 X1 Y1 x y m c M A D B : Nat) (sa : Option Addr) (cap k a b : Nat) (l : List (Nat × Nat)) (w : World) (h1 : X1 < 256) (h2 : Y1 < 256) (hx : x + m ≤ X1 + 1) (hy : y + m ≤ Y1 + 1) (hm : 0 < m) (hx0 : X0 ≤ x) (hy0 : Y0 ≤ y) (hW : Whole x y m c M A D) (hcm : c ≤ 65536) (hB : B ≤ w.heap.size)
    (h : OwnS B w sa cap (l ++ [(a, b)])) (hk : l.length = k) (hk2 : k ≤ 65536) (hbc : b + 1 = c) :
    Calls Try.prog 34 #[.agg #[.int .i64 X0, .int .i64 Y0, .int .i64 X1, .int .i64 Y1], .int .i64 x, .int .i64 y, .int .i64 m, .slice sa (k + 1) cap] w fun e w' =>
      e = .returned (.slice sa (k + 1) cap) ∧ OwnS B w' sa cap (l ++ [(a, c + M - 1)]) ∧ w.grownBy w' (blk sa) := by
  have hor := hW.orr
  have hmm := hW.mul
  have la := hW.la
  have ld := hW.ld
  have ml := hW.ml
  have mp := hW.mp
  have HW := Kp.mk hW
  clear hW
  subst hbc
  have HO := Kp.mk (show w.ownsRow B 33 2 (.slice sa (k + 1) cap) (k + 1) (spans (l ++ [(a, b)])) from by
    have : (l ++ [(a, b)]).length = k + 1 := by rw [List.length_append, hk]; rfl
    unfold OwnS at h
    rwa [this] at h)
  obtain ⟨g, rfl, hg, hg2⟩ := own_some HO.out (by omega)
  have cl : w.cell? ⟨g, k * 2 + 1, none⟩ = some (.int .i64 b) := by
    rw [HO.out.cellAt (k * 2 + 1) (by omega), (spans_at (l ++ [(a, b)]) k (by simp; omega)).2]
    simp [← hk]
  have fl : w.frozen? ⟨g, k * 2 + 1, none⟩ = false := HO.out.frozenAt _
  have HK := Kp.mk hk
  clear h hk
  go_enter Try.func34, Try.ntmps34
  go_wp2_with fail
  refine (spread_any x _ (by omega)).mono ?_
  rintro e w' ⟨rfl, rfl⟩
  rw [HW.out.sx]
  go_wp2_with fail
  refine (spread_any y _ (by omega)).mono ?_
  rintro e w' ⟨rfl, rfl⟩
  rw [HW.out.sy]
  go_wp2
  go_ret
  have e : (b : Int) + 1 + M - 1 = ((b + 1 + M - 1 : Nat) : Int) := by omega
  refine ⟨rfl, ?_, grown_trans (grown_set w g (k * 2 + 1) _) (grown_of_below (below_alloc (Nat.le_refl _) _))⟩
  have h := (HO.out.stored (k * 2 + 1) (.int .i64 ((b + 1 + M - 1 : Nat) : Int))).1
  have e2 : (spans (l ++ [(a, b)])).set (k * 2 + 1) (.int .i64 ((b + 1 + M - 1 : Nat) : Int)) = spans (l ++ [(a, b + 1 + M - 1)]) := by
    rw [spans_append, spans_append, List.set_append_right (h := by rw [spans_length, HK.out]; omega), spans_length, HK.out, show k * 2 + 1 - k * 2 = 1 by omega]
    rfl
  rw [e2] at h
  rw [e]
  unfold OwnS
  rw [show (l ++ [(a, b + 1 + M - 1)]).length = k + 1 by simp [HK.out]]
  exact h.alloc _

end Go.Proofs.Ytnieacfleabikaa
