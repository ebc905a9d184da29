import Derived.Test.YtedchegejalolaaGreatDoorMb0
import Derived.Test.YtedchegejalolaaGreatDoorMb1
import Derived.Deep.Slices
import Derived.Deep.Fields
import Derived.WalkKit
import Derived.Shelf.Abstract
import Derived.StillTailTactics
import Derived.Sort.OwnSortedInts
import Derived.Lib.AtoiErrMem
import Derived.Lib.ItoaLen
/- Arguments that are structs of integers, and slices of these. -/
namespace Go.Proofs.YtedchegejalolaaGreatDoor
set_option linter.unusedVariables false
open Go.RowKit Go.ChangeShapes Go.WideShapes Go.Deep

/-- All cells of the type are integers. -/
def Intly (P : Program) (t : TypeId) : Prop := ∀ {H : Type} (enc : TypeId × Value → H) (w : World) (base : Nat) (spare : Nat → Bool) (held : Bool) (fuel : Nat) (cs : List Value) (x : DataW H × List MemPlace),
  DataW.trod enc P w base spare held fuel t cs = some x → cs.length = P.cellsOf t ∧ ∀ j, j < cs.length → ∃ n, cs[j]? = some (.int .i64 n) ∧ (Lit.int .i64 n).wf = true
theorem intly_int {P : Program} {t : TypeId} (h : P.underlying t = some (.int .i64)) (hc : P.cellsOf t = 1) : Intly P t := by
  intro H enc w base spare held fuel cs x hx
  obtain ⟨n, rfl, _, hw⟩ := DataW.trod_int h hx
  refine ⟨hc.symm, fun j hj => ⟨n, ?_, hw⟩⟩
  have : j = 0 := by simp at hj; omega
  subst this; rfl
theorem intly_struct {P : Program} {t : TypeId} {fs : Array Field} (hs : P.underlying t = some (.struct fs)) (hcov : ∀ j, j < P.cellsOf t → ∃ (i : Nat) (f : Field), fs[i]? = some f ∧ f.offset ≤ j ∧ j < f.offset + P.cellsOf f.type ∧ Intly P f.type) : Intly P t := by
  intro H enc w base spare held fuel cs x hx
  obtain ⟨xs, n, _, _, hlen, hxl, hf⟩ := DataW.trod_struct hs hx
  refine ⟨hlen, fun j hj => ?_⟩
  obtain ⟨i, f, hi, h1, h2, h3⟩ := hcov j (by omega)
  have hi' : i < xs.length := by rw [hxl]; exact (Array.getElem?_eq_some_iff.1 hi).1
  have h4 := hf i f hi
  rw [List.getElem?_eq_getElem hi'] at h4
  obtain ⟨h5, h6⟩ := h3 enc w base spare held n _ _ h4
  obtain ⟨z, hz, hw⟩ := h6 (j - f.offset) (by rw [h5]; omega)
  refine ⟨z, ?_, hw⟩
  rw [List.getElem?_take_of_lt (by omega), List.getElem?_drop, show f.offset + (j - f.offset) = j by omega] at hz
  exact hz
theorem intly_flat {P : Program} {t ti : TypeId} {fs : Array Field} (hs : P.underlying t = some (.struct fs)) (hone : oneCellFields P fs = true) (hC : P.cellsOf t = fs.size) (hall : (fs.toList.all fun f => f.type == ti) = true) (hi : P.underlying ti = some (.int .i64)) (hc : P.cellsOf ti = 1) : Intly P t := by
  refine intly_struct hs fun j hj => ?_
  rw [hC] at hj
  obtain ⟨ho, hk⟩ := hone_of hone j fs[j] (by simp [hj])
  have hty : fs[j].type = ti := by
    have := List.all_eq_true.1 hall fs[j] (by simp)
    simpa using this
  exact ⟨j, fs[j], by simp [hj], by omega, by omega, by rw [hty]; exact intly_int hi hc⟩
theorem list_of8 {l : List Int} (h : l.length = 8) : ∃ x0 x1 x2 x3 x4 x5 x6 x7, l = [x0, x1, x2, x3, x4, x5, x6, x7] := by
  match l, h with
  | [x0, x1, x2, x3, x4, x5, x6, x7], _ => exact ⟨x0, x1, x2, x3, x4, x5, x6, x7, rfl⟩
theorem choose_list {N : Nat} {p : Nat → Int → Prop} (h : ∀ i, i < N → ∃ n, p i n) : ∃ zs : List Int, zs.length = N ∧ ∀ i, i < N → p i (zs.getD i 0) := by
  induction N with
  | zero => exact ⟨[], rfl, fun i hi => by omega⟩
  | succ N ih =>
    obtain ⟨zs, hl, hz⟩ := ih (fun i hi => h i (by omega))
    obtain ⟨n, hn⟩ := h N (by omega)
    refine ⟨zs ++ [n], by simp [hl], fun i hi => ?_⟩
    by_cases e : i = N
    · subst e
      rw [getD_at _ _ (by simp [hl]), List.getElem_append_right (by omega)]
      simpa [hl] using hn
    · rw [getD_at _ _ (by simp [hl]; omega), List.getElem_append_left (by omega), ← getD_at zs 0 (by omega)]
      exact hz i (by omega)
section
variable {H : Type} {enc : TypeId × Value → H} {P : Program} {w : World} {base : Nat} {spare : Nat → Bool} {held : Bool}
theorem open_flat {t e : TypeId} {fuel k : Nat} {a : Option Addr} {len cap : Nat} {x : DataW H × List MemPlace} (ht : P.underlying t = some (.slice e)) (hI : Intly P e) (hC : P.cellsOf e = k) (hk : 0 < k)
    (h : DataW.trod enc P w base spare held fuel t [.slice a len cap] = some x) : ∃ zs, IsFlat k w a len cap zs := by
  rcases open_slice ht h with ⟨h0, _⟩ | ⟨ad, len', cap', m, n, D, Pl, hcs, hb, hl, hm, hmm, hx, hi⟩
  · simp only [List.cons.injEq, Value.slice.injEq, and_true] at h0
    obtain ⟨rfl, rfl, rfl⟩ := h0
    exact ⟨[], .inl ⟨rfl, rfl, rfl, rfl⟩⟩
  · simp only [List.cons.injEq, Value.slice.injEq, and_true] at hcs
    obtain ⟨rfl, rfl, rfl⟩ := hcs
    have hle : len ≤ m := by rw [hmm]; split <;> omega
    obtain ⟨zs, hz, hp⟩ := choose_list (N := len * k) (p := fun i n => w.cell? (ad.add i) = some (.int .i64 n) ∧ (Lit.int .i64 n).wf = true) (fun i hil => by
      have hdm := Nat.div_add_mod i k
      have hd : i / k < len := Nat.div_lt_of_lt_mul (by rw [Nat.mul_comm]; exact hil)
      have hmd : i % k < k := Nat.mod_lt _ hk
      obtain ⟨cs', hc, ht'⟩ := hi (i / k) (by omega)
      rw [hC] at hc
      obtain ⟨_, hcl, hat⟩ := World.cells?_some hc
      obtain ⟨h5, h6⟩ := hI enc w base spare held n _ _ ht'
      obtain ⟨z, hz, hw⟩ := h6 (i % k) (by omega)
      refine ⟨z, ?_, hw⟩
      have := hat (i % k) hmd
      rw [add_add, hz, Nat.mul_comm, hdm] at this
      exact this)
    refine ⟨zs, .inr ⟨ad, rfl, hl, hm, hz, fun i hi => (hp i (by omega)).1, fun z hzm => ?_⟩⟩
    obtain ⟨i, hi, rfl⟩ := List.mem_iff_getElem.1 hzm
    have := (hp i (by omega)).2
    rwa [getD_at _ _ hi] at this
end

end Go.Proofs.YtedchegejalolaaGreatDoor

/- Arguments that are chores. -/
namespace Go.Proofs.YtedchegejalolaaGreatDoor
set_option linter.unusedVariables false
open Go.RowKit Go.ChangeShapes Go.WideShapes Go.Deep

theorem intly_spot : Intly Tryz.prog 35 :=
  intly_flat Tryz.underlying35 (by kernel_rfl) (by kernel_rfl) (ti := 3) (by kernel_rfl) Tryz.underlying3 (by kernel_rfl)
theorem intly_nat : Intly Tryz.prog 3 := intly_int Tryz.underlying3 (by kernel_rfl)
/-- A struct of an integer, three of them in a struct, and four more. -/
theorem intly_134 {P : Program} {t ti ts : TypeId} {f0 f1 f2 f3 f4 f5 : Field} (hs : P.underlying t = some (.struct #[f0, f1, f2, f3, f4, f5])) (hC : P.cellsOf t = 8)
    (h0 : f0.type = ti ∧ f0.offset = 0) (h1 : f1.type = ts ∧ f1.offset = 1) (h2 : f2.type = ti ∧ f2.offset = 4) (h3 : f3.type = ti ∧ f3.offset = 5) (h4 : f4.type = ti ∧ f4.offset = 6) (h5 : f5.type = ti ∧ f5.offset = 7)
    (hi : Intly P ti) (ht : Intly P ts) (c1 : P.cellsOf ti = 1) (c3 : P.cellsOf ts = 3) : Intly P t := by
  obtain ⟨a0, b0⟩ := h0
  obtain ⟨a1, b1⟩ := h1
  obtain ⟨a2, b2⟩ := h2
  obtain ⟨a3, b3⟩ := h3
  obtain ⟨a4, b4⟩ := h4
  obtain ⟨a5, b5⟩ := h5
  refine intly_struct hs fun j hj => ?_
  rw [hC] at hj
  have hj' : j = 0 ∨ (1 ≤ j ∧ j < 4) ∨ j = 4 ∨ j = 5 ∨ j = 6 ∨ j = 7 := by omega
  rcases hj' with h | ⟨ha, hb⟩ | h | h | h | h
  · exact ⟨0, f0, rfl, by omega, by rw [a0, c1]; omega, by rw [a0]; exact hi⟩
  · exact ⟨1, f1, rfl, by omega, by rw [a1, c3]; omega, by rw [a1]; exact ht⟩
  · exact ⟨2, f2, rfl, by omega, by rw [a2, c1]; omega, by rw [a2]; exact hi⟩
  · exact ⟨3, f3, rfl, by omega, by rw [a3, c1]; omega, by rw [a3]; exact hi⟩
  · exact ⟨4, f4, rfl, by omega, by rw [a4, c1]; omega, by rw [a4]; exact hi⟩
  · exact ⟨5, f5, rfl, by omega, by rw [a5, c1]; omega, by rw [a5]; exact hi⟩
theorem intly_chore : Intly Tryz.prog 37 :=
  intly_134 Tryz.underlying37 (by kernel_rfl) (ti := 3) (ts := 35) ⟨rfl, rfl⟩ ⟨rfl, rfl⟩ ⟨rfl, rfl⟩ ⟨rfl, rfl⟩ ⟨rfl, rfl⟩ ⟨rfl, rfl⟩ intly_nat intly_spot (by kernel_rfl) (by kernel_rfl)

end Go.Proofs.YtedchegejalolaaGreatDoor

/- Package query: text: the walks. -/
namespace Go.Proofs.YtedchegejalolaaGreatDoor
set_option linter.unusedVariables false
open Go.RowKit Go.Sort

theorem qgrow_below (w : World) (q : Nat) (os : Array Obj) : Below w.heap.size w (Sort.grow (w.drewN q) os) := by
  refine ⟨rfl, rfl, rfl, by simp [Sort.grow], fun i hi => ?_⟩
  rw [heap_grow_old _ _ (by simpa using hi)]
  rfl
theorem itoa_any (n : Int) (h0 : -9223372036854775808 ≤ n) (h1 : n ≤ 9223372036854775807) (w : World) (hT : Tab w) :
    Calls Tryz.prog 55 #[.int .i64 n] w fun e w' => e = .returned (str (Lib.itoa n)) ∧ Below w.heap.size w w' :=
  (Tryz.strconv_Itoa n h0 h1 w hT).mono fun e w' ⟨h, k, os, h2⟩ => ⟨h, by rw [h2]; exact qgrow_below w k os⟩

set_option maxHeartbeats 1000000 in
theorem qrank_any (k : Int) (w : World) : Calls Tryz.prog 122 #[.int .i64 k] w fun e w' => e = .returned (.int .i64 (Ex.rank k)) ∧ w = w' := by
  have hor : (k = 4 ∧ Kp (Ex.rank k = 1)) ∨ (¬ k = 4 ∧ k = 3 ∧ Kp (Ex.rank k = 2)) ∨ (¬ k = 4 ∧ ¬ k = 3 ∧ Kp (Ex.rank k = 3)) := by
    unfold Ex.rank
    by_cases h1 : k = 4
    · exact .inl ⟨h1, ⟨by simp [h1]⟩⟩
    · by_cases h2 : k = 3
      · exact .inr (.inl ⟨h1, h2, ⟨by simp [h2]⟩⟩)
      · exact .inr (.inr ⟨h1, h2, ⟨by simp [h1, h2]⟩⟩)
  rcases hor with ⟨h1, H⟩ | ⟨h1, h2, H⟩ | ⟨h1, h2, H⟩
  all_goals
    rw [H.out]
    clear H
    try subst h1
    try subst h2
    go_enter Tryz.func122, Tryz.ntmps122
    go_wp2
    go_ret
    exact ⟨rfl, rfl⟩

attribute [local irreducible] Ex.rank Ex.wrapT
set_option maxRecDepth 100000 in
set_option maxHeartbeats 4000000 in
/-- A part's text. -/
theorem part_any (bx : Nat) (k : Int) (p : Ex) (v : ExV) (w : World) (hpl : p.txt.length ≤ 1000000) (hv : v.k = p.kind) (hc : w.cell? ⟨bx, 0, none⟩ = some (.int .i64 k))
    (hT : ∀ W, Below w.heap.size w W → Calls Tryz.prog 95 #[.agg (exL v).toArray] W fun e w' => e = .returned (str p.txt) ∧ Below W.heap.size W w') :
    Calls Tryz.prog 121 #[.agg (exL v).toArray, .pointer (some ⟨bx, 0, none⟩)] w fun e w' => e = .returned (str (Ex.wrapT k p p.txt)) ∧ Below w.heap.size w w' := by
  obtain ⟨vk, va, vb, vc, vd, vx, vs, vn, vq⟩ := v
  obtain rfl : vk = p.kind := hv
  have HT := Kp.mk hT
  have hor : ((Ex.rank p.kind ≤ Ex.rank k ∧ Ex.rank p.kind < 3) ∧ Kp (Ex.wrapT k p p.txt = [40] ++ p.txt ++ [41])) ∨ ((Ex.rank p.kind ≤ Ex.rank k ∧ ¬ Ex.rank p.kind < 3) ∧ Kp (Ex.wrapT k p p.txt = p.txt)) ∨ (¬ Ex.rank p.kind ≤ Ex.rank k ∧ Kp (Ex.wrapT k p p.txt = p.txt)) := by
    unfold Ex.wrapT
    by_cases h1 : Ex.rank p.kind ≤ Ex.rank k
    · by_cases h2 : Ex.rank p.kind < 3
      · exact .inl ⟨⟨h1, h2⟩, ⟨by rw [if_pos ⟨h1, h2⟩]⟩⟩
      · exact .inr (.inl ⟨⟨h1, h2⟩, ⟨by rw [if_neg (fun h => h2 h.2)]⟩⟩)
    · exact .inr (.inr ⟨h1, ⟨by rw [if_neg (fun h => h1 h.1)]⟩⟩)
  have C1 := Kp.mk (fun W => qrank_any p.kind W)
  have C2 := Kp.mk (fun W => qrank_any k W)
  generalize p.kind = pk at *
  generalize Ex.rank pk = r1 at *
  generalize Ex.rank k = r2 at *
  generalize p.txt = t at *
  have HTX := Kp.mk (fun W hW => HT.out W hW)
  generalize Ex.wrapT k p t = res at *
  clear hT HT
  show Calls Tryz.prog 121 #[.agg #[.int .i64 pk, .int .i64 va, .int .i64 vb, .int .i64 vc, .int .i64 vd, .int .i64 vx, .slice vs vn vq], .pointer (some ⟨bx, 0, none⟩)] w _
  have HA := Kp.mk (below_alloc (Nat.le_refl w.heap.size) (.cells #[.int .i64 pk, .int .i64 va, .int .i64 vb, .int .i64 vc, .int .i64 vd, .int .i64 vx, .slice vs vn vq] 83))
  have HBX := Kp.mk (Box.new w #[.int .i64 pk, .int .i64 va, .int .i64 vb, .int .i64 vc, .int .i64 vd, .int .i64 vx, .slice vs vn vq] 83)
  have d0 := (HA.out.cell (p := ⟨bx, 0, none⟩) (World.block_lt_of_cell? _ _ hc)).trans hc
  obtain ⟨bz, hbz⟩ : ∃ bz, w.heap.size = bz := ⟨_, rfl⟩
  obtain ⟨w1, hw1⟩ : ∃ w1, w.alloc (.cells #[.int .i64 pk, .int .i64 va, .int .i64 vb, .int .i64 vc, .int .i64 vd, .int .i64 vx, .slice vs vn vq] 83) = w1 := ⟨_, rfl⟩
  have s0 : (⟨#[40]⟩ : ByteArray).size ≤ 1 := by decide
  have s1 : (⟨t.toArray⟩ : ByteArray).size ≤ 1000000 := str_size hpl
  have s2 : ((⟨#[40]⟩ : ByteArray) ++ ⟨t.toArray⟩).size ≤ 1000001 := by rw [show (⟨#[40]⟩ : ByteArray) = ⟨[40].toArray⟩ from rfl, str_add]; exact str_size (by simp; omega)
  have s3 : (⟨#[41]⟩ : ByteArray).size ≤ 1 := by decide
  go_enter Tryz.func121, Tryz.ntmps121
  go_upto_region 1 with (fail)
  rw [hw1] at HA HBX d0
  try rw [hw1]
  rw [hbz] at HBX
  have HBZ := Kp.mk hbz
  try simp only [hbz]
  have x0 : w1.cell? ⟨bz, 0, none⟩ = some (.int .i64 pk) := HBX.out.cell 0 rfl
  clear hc hw1 hbz
  have hr3 : r1 ≤ r2 ∨ ¬ r1 ≤ r2 := by omega
  rcases hor with ⟨⟨h1, h2⟩, H⟩ | ⟨⟨h1, h2⟩, H⟩ | ⟨h1, H⟩
  all_goals
    clear hr3
    go_quiet ((go_at_call 122; first | (with_reducible exact q_same (C1.out _)) | (with_reducible exact q_same (C2.out _)) | fail))
  all_goals
    have HBQ := Kp.mk (show RowKit.Below w.heap.size w (w1.drewN nq) from HA.out.trans (drewN_below (w := w1) nq))
    have hbx := HBX.out.drewN nq
    have z0 : (w1.drewN nq).cell? ⟨bz, 0, none⟩ = some (.int .i64 pk) := hbx.cell 0 rfl
    have z1 : (w1.drewN nq).cell? ⟨bz, 1, none⟩ = some (.int .i64 va) := hbx.cell 1 rfl
    have z2 : (w1.drewN nq).cell? ⟨bz, 2, none⟩ = some (.int .i64 vb) := hbx.cell 2 rfl
    have z3 : (w1.drewN nq).cell? ⟨bz, 3, none⟩ = some (.int .i64 vc) := hbx.cell 3 rfl
    have z4 : (w1.drewN nq).cell? ⟨bz, 4, none⟩ = some (.int .i64 vd) := hbx.cell 4 rfl
    have z5 : (w1.drewN nq).cell? ⟨bz, 5, none⟩ = some (.int .i64 vx) := hbx.cell 5 rfl
    have z6 : (w1.drewN nq).cell? ⟨bz, 6, none⟩ = some (.slice vs vn vq) := hbx.cell 6 rfl
    have CT := Kp.mk (HTX.out _ HBQ.out)
    clear hbx x0 d0 C1 C2 HTX
    generalize w1.drewN nq = w2 at *
    go_wp2_with fail
    refine CT.out.mono ?_
    rintro e w3 ⟨rfl, hb3⟩
    have HB3 := Kp.mk (below_step HBQ.out hb3)
    clear z0 z1 z2 z3 z4 z5 z6 CT hb3
    go_wp2
    go_ret
    refine ⟨?_, HB3.out⟩
    rw [H.out]
    first
      | rfl
      | fail

/-- The texts of the parts. -/
def Ex.partT (x : Ex) : List (List UInt8) := x.parts.map fun p => Ex.wrapT x.kind p p.txt
theorem Ex.txt_eq (x : Ex) : (x.kind = 1 → x.txt = [105, 110] ++ Ex.num x.rx0 ++ Ex.num x.ry0 ++ Ex.num x.rx1 ++ Ex.num x.ry1) ∧ (x.kind = 2 → x.txt = [119, 32] ++ Lib.itoa x.wt) ∧ (x.kind = 3 → x.txt = Lib.join x.partT [32, 38, 32]) ∧ (x.kind = 4 → x.txt = Lib.join x.partT [32, 124, 32]) ∧ (x.kind = 5 → x.txt = [33] ++ x.partT.getD 0 []) := by
  cases x with
  | inn a b c d => exact ⟨fun _ => rfl, fun h => absurd h (by simp [Ex.kind]), fun h => absurd h (by simp [Ex.kind]), fun h => absurd h (by simp [Ex.kind]), fun h => absurd h (by simp [Ex.kind])⟩
  | hv y => exact ⟨fun h => absurd h (by simp [Ex.kind]), fun _ => rfl, fun h => absurd h (by simp [Ex.kind]), fun h => absurd h (by simp [Ex.kind]), fun h => absurd h (by simp [Ex.kind])⟩
  | not p => exact ⟨fun h => absurd h (by simp [Ex.kind]), fun h => absurd h (by simp [Ex.kind]), fun h => absurd h (by simp [Ex.kind]), fun h => absurd h (by simp [Ex.kind]), fun _ => rfl⟩
  | two o p q =>
    cases o
    · exact ⟨fun h => absurd h (by simp [Ex.kind, Ex.ok]), fun h => absurd h (by simp [Ex.kind, Ex.ok]), fun _ => by simp [Ex.txt, Lib.join, Ex.partT, Ex.parts, List.intercalate, Ex.sepT, Ex.kind, Ex.ok], fun h => absurd h (by simp [Ex.kind, Ex.ok]), fun h => absurd h (by simp [Ex.kind, Ex.ok])⟩
    · exact ⟨fun h => absurd h (by simp [Ex.kind, Ex.ok]), fun h => absurd h (by simp [Ex.kind, Ex.ok]), fun h => absurd h (by simp [Ex.kind, Ex.ok]), fun _ => by simp [Ex.txt, Lib.join, Ex.partT, Ex.parts, List.intercalate, Ex.sepT, Ex.kind, Ex.ok], fun h => absurd h (by simp [Ex.kind, Ex.ok])⟩
  | three o p q r =>
    cases o
    · exact ⟨fun h => absurd h (by simp [Ex.kind, Ex.ok]), fun h => absurd h (by simp [Ex.kind, Ex.ok]), fun _ => by simp [Ex.txt, Lib.join, Ex.partT, Ex.parts, List.intercalate, Ex.sepT, Ex.kind, Ex.ok], fun h => absurd h (by simp [Ex.kind, Ex.ok]), fun h => absurd h (by simp [Ex.kind, Ex.ok])⟩
    · exact ⟨fun h => absurd h (by simp [Ex.kind, Ex.ok]), fun h => absurd h (by simp [Ex.kind, Ex.ok]), fun h => absurd h (by simp [Ex.kind, Ex.ok]), fun _ => by simp [Ex.txt, Lib.join, Ex.partT, Ex.parts, List.intercalate, Ex.sepT, Ex.kind, Ex.ok], fun h => absurd h (by simp [Ex.kind, Ex.ok])⟩

theorem join_any (g c n : Nat) (PT : List (List UInt8)) (sep : List UInt8) (w : World) (hn : PT.length = n) {B : Nat} (h : w.ownsRow B 9 1 (.slice (some ⟨g, 0, none⟩) n c) n (strs PT)) (hl : (Lib.join PT sep).length ≤ 10000) (hc : n ≤ c) (h0 : 0 < n) (hn2 : n ≤ 1000) :
    Calls Tryz.prog 123 #[.slice (some ⟨g, 0, none⟩) n c, str sep] w fun e w' => e = .returned (str (Lib.join PT sep)) ∧ RowKit.Below w.heap.size w w' := by
  have hg := (own_lt h g rfl).2
  have e1 : (PT.map fun l => (⟨l.toArray⟩ : ByteArray)).map (·.data.toList) = PT := by
    rw [List.map_map]
    conv => rhs; rw [← List.map_id PT]
    apply List.map_congr_left
    intro a _
    simp
  have e2 : (⟨sep.toArray⟩ : ByteArray).data.toList = sep := by simp
  have hj := Tryz.strings_Join g 0 c (PT.map fun l => (⟨l.toArray⟩ : ByteArray)) ⟨sep.toArray⟩ w (fun j x hx => by
    have hj : j < n := by have := List.getElem?_eq_some_iff.1 hx; obtain ⟨h1, _⟩ := this; rw [List.length_map, hn] at h1; exact h1
    have h1 := h.cellAt j (by omega)
    rw [Nat.zero_add, h1]
    unfold strs
    rw [List.getElem?_map] at hx ⊢
    cases hp : PT[j]? with
    | none => rw [hp] at hx; cases hx
    | some y => rw [hp] at hx; simp only [Option.map_some, Option.some.injEq] at hx ⊢; rw [← hx]) hg (by rw [List.length_map, hn]; omega) (by rw [List.length_map, hn]; exact hc) (by rw [e1, e2]; omega)
  rw [e1, e2, List.length_map, hn] at hj
  exact hj
theorem Ex.part_le (x : Ex) : ∀ i (hi : i < x.parts.length), x.parts[i].txt.length ≤ x.txt.length := by
  have hw : ∀ (k : Int) (p : Ex), p.txt.length ≤ (Ex.wrapT k p p.txt).length := fun k p => by
    unfold Ex.wrapT; split <;> simp <;> omega
  cases x with
  | inn a b c d => intro i hi; simp [Ex.parts] at hi
  | hv y => intro i hi; simp [Ex.parts] at hi
  | not p =>
    intro i hi
    obtain rfl : i = 0 := by simp [Ex.parts] at hi; omega
    have := hw 5 p
    simp only [Ex.parts, Ex.txt, List.getElem_cons_zero, List.length_append]; omega
  | two o p q =>
    intro i hi
    have h1 := hw (Ex.ok o) p
    have h2 := hw (Ex.ok o) q
    rcases (show i = 0 ∨ i = 1 by simp [Ex.parts] at hi; omega) with rfl | rfl <;> simp only [Ex.parts, Ex.txt, List.getElem_cons_zero, List.getElem_cons_succ, List.length_append] <;> omega
  | three o p q r =>
    intro i hi
    have h1 := hw (Ex.ok o) p
    have h2 := hw (Ex.ok o) q
    have h3 := hw (Ex.ok o) r
    rcases (show i = 0 ∨ i = 1 ∨ i = 2 by simp [Ex.parts] at hi; omega) with rfl | rfl | rfl <;> simp only [Ex.parts, Ex.txt, List.getElem_cons_zero, List.getElem_cons_succ, List.length_append] <;> omega

set_option maxRecDepth 100000 in
set_option maxHeartbeats 16000000 in
theorem text_any : ∀ (x : Ex) (v : ExV) (w : World), IsEx w x v → x.small → x.txt.length ≤ 10000 → Tab w →
    Calls Tryz.prog 95 #[.agg (exL v).toArray] w fun e w' => e = .returned (str x.txt) ∧ RowKit.Below w.heap.size w w' := by
  refine Ex.ind ?_
  intro x ih v w h hs hl hT
  obtain ⟨vs, hv, hsl, hvl, hvs⟩ := h.view
  have HIH := Kp.mk (fun (i : Nat) (hi : i < x.parts.length) (W : World) (hW : RowKit.Below w.heap.size w W) => ih _ (List.getElem_mem hi) (vs.getD i ev0) W ((hvs i hi).below hW) (Ex.small_part hs (List.getElem_mem hi)) (Nat.le_trans (x.part_le i hi) hl) (hT.below hW))
  have HKI := Kp.mk (fun (i : Nat) (hi : i < x.parts.length) => show (vs.getD i ev0).k = x.parts[i].kind from by
    obtain ⟨_, e, _⟩ := (hvs i hi).view
    rw [e])
  have HPL := Kp.mk (fun (i : Nat) (hi : i < x.parts.length) => show x.parts[i].txt.length ≤ 1000000 from by have := x.part_le i hi; omega)
  have HPT := Kp.mk (fun (i : Nat) (hi : i < x.parts.length) => show x.partT.getD i [] = Ex.wrapT x.kind x.parts[i] x.parts[i].txt from by
    rw [getD_at _ _ (by unfold Ex.partT; rw [List.length_map]; exact hi)]
    unfold Ex.partT
    rw [List.getElem_map])
  have HPN := Kp.mk (show x.partT.length = x.parts.length by unfold Ex.partT; rw [List.length_map])
  have HTE := Kp.mk x.txt_eq
  have hsh := x.shape
  have hsr := Ex.small_rect hs
  have HTAB := Kp.mk hT
  rw [hv]
  have HPA := Kp.mk (fun (bx i : Nat) (hi : i < x.parts.length) (W : World) (hW : RowKit.Below w.heap.size w W) (hc : W.cell? ⟨bx, 0, none⟩ = some (.int .i64 x.kind)) => show Calls Tryz.prog 121 #[.agg (exL (vs.getD i ev0)).toArray, .pointer (some ⟨bx, 0, none⟩)] W (fun e w' => e = .returned (str (x.partT.getD i [])) ∧ RowKit.Below W.heap.size W w') from by
    rw [HPT.out i hi]
    exact part_any bx x.kind x.parts[i] (vs.getD i ev0) W (HPL.out i hi) (HKI.out i hi) hc (fun W' hW' => HIH.out i hi W' (below_step hW hW')))
  clear hv h hs ih hvs HIH HKI HPL HPT hT
  generalize x.partT = PT at *
  generalize v.sa = sa at *
  generalize v.cap = cap at *
  generalize x.kind = k at *
  generalize x.rx0 = a at *
  generalize x.ry0 = b at *
  generalize x.rx1 = c at *
  generalize x.ry1 = d at *
  generalize x.wt = y at *
  generalize x.txt = t at *
  generalize x.parts.length = n at *
  show Calls Tryz.prog 95 #[.agg #[.int .i64 k, .int .i64 a, .int .i64 b, .int .i64 c, .int .i64 d, .int .i64 y, .slice sa n cap]] w _
  have hn3 : n ≤ 3 := by omega
  have HSH := Kp.mk hsh
  have HSR := Kp.mk hsr
  have HVL := Kp.mk hvl
  clear hsh hsr hvl
  have HA := Kp.mk (below_alloc (Nat.le_refl w.heap.size) (.cells #[.int .i64 k, .int .i64 a, .int .i64 b, .int .i64 c, .int .i64 d, .int .i64 y, .slice sa n cap] 83))
  have HBX := Kp.mk (Box.new w #[.int .i64 k, .int .i64 a, .int .i64 b, .int .i64 c, .int .i64 d, .int .i64 y, .slice sa n cap] 83)
  have HS1 := Kp.mk (SlF.below hsl HA.out)
  obtain ⟨bz, hbz⟩ : ∃ bz, w.heap.size = bz := ⟨_, rfl⟩
  obtain ⟨w1, hw1⟩ : ∃ w1, w.alloc (.cells #[.int .i64 k, .int .i64 a, .int .i64 b, .int .i64 c, .int .i64 d, .int .i64 y, .slice sa n cap] 83) = w1 := ⟨_, rfl⟩
  rw [hw1] at HA HBX HS1
  rw [hbz] at HBX
  have HBZ := Kp.mk hbz
  have x6 : w1.cell? ⟨bz, 6, none⟩ = some (.slice sa n cap) := HBX.out.cell 6 rfl
  have eg : ∀ args w, (callFunc 121 args).run Tryz.prog w = .ok (.enter 121 args) w := enters_of Tryz.func121 (by kernel_rfl) rfl
  go_enter Tryz.func95, Tryz.ntmps95
  go_upto_region 1 with (fail)
  try rw [hw1]
  try simp only [hbz]
  clear hw1 hbz hsl
  obtain ⟨wo, rfl⟩ : ∃ wo : World, wo = w1 := ⟨_, rfl⟩
  go_wp2
  go_loopw [4, 14] (fun v4 v14 wr => ∃ (i : Nat) (ra : Option Addr) (rc : Nat), i ≤ n ∧ v14 = .int .i64 i ∧ v4 = .slice ra i rc ∧ Kp (wr.ownsRow wo.heap.size 9 1 (.slice ra i rc) i (strs (PT.take i))) ∧ Kp (RowKit.Below wo.heap.size wo wr)) (fun _ v14 _ => n - (intOf v14).toNat)
  case atStart => exact ⟨0, none, 0, Nat.zero_le _, rfl, rfl, ⟨World.ownsRow_nil _ _ _ _⟩, ⟨Below.refl _ _⟩⟩
  case round =>
    obtain ⟨i, ra, rc, hi, rfl, rfl, HO, HB⟩ := hrel
    by_cases hin : i < n
    · have hiz : (i : Int) < n := by omega
      have HPI := Kp.mk (fun bx W hW hc => HPA.out bx i hin W hW hc)
      have HPS := Kp.mk (show strs (PT.take (i + 1)) = strs (PT.take i) ++ [str (PT.getD i [])] from by
        rw [List.take_succ_eq_append_getElem (by rw [HPN.out]; exact hin), strs_append, getD_at _ _ (by rw [HPN.out]; exact hin)]; rfl)
      obtain ⟨sb, so, rfl, hsb, cs⟩ := (HS1.out.below HB.out).at exL_len (by omega) i (by rw [HVL.out]; exact hin)
      rw [← getD_at vs ev0 (by rw [HVL.out]; exact hin)] at cs
      generalize PT.getD i [] = pt at *
      generalize vs.getD i ev0 = U at *
      obtain ⟨uk, ua, ub, uc, ud, ux, us, un, uq⟩ := U
      have c0 : wr.cell? ⟨sb, so + i * 7, none⟩ = some (.int .i64 uk) := cs 0 (by omega)
      have c1 : wr.cell? ⟨sb, so + i * 7 + 1, none⟩ = some (.int .i64 ua) := cs 1 (by omega)
      have c2 : wr.cell? ⟨sb, so + i * 7 + 2, none⟩ = some (.int .i64 ub) := cs 2 (by omega)
      have c3 : wr.cell? ⟨sb, so + i * 7 + 3, none⟩ = some (.int .i64 uc) := cs 3 (by omega)
      have c4 : wr.cell? ⟨sb, so + i * 7 + 4, none⟩ = some (.int .i64 ud) := cs 4 (by omega)
      have c5 : wr.cell? ⟨sb, so + i * 7 + 5, none⟩ = some (.int .i64 ux) := cs 5 (by omega)
      have c6 : wr.cell? ⟨sb, so + i * 7 + 6, none⟩ = some (.slice us un uq) := cs 6 (by omega)
      clear cs hsb
      have hB4 := below_then_alloc HB.out (.cells #[.int .i64 uk, .int .i64 ua, .int .i64 ub, .int .i64 uc, .int .i64 ud, .int .i64 ux, .slice us un uq] 83)
      have hal := below_alloc (Nat.le_refl wr.heap.size) (.cells #[.int .i64 uk, .int .i64 ua, .int .i64 ub, .int .i64 uc, .int .i64 ud, .int .i64 ux, .slice us un uq] 83)
      have b4 := Box.new wr #[.int .i64 uk, .int .i64 ua, .int .i64 ub, .int .i64 uc, .int .i64 ud, .int .i64 ux, .slice us un uq] 83
      have HO4 := Kp.mk (own_below HO.out hal)
      go_upto_region 6 with (fail)
      obtain ⟨w4, hw4⟩ : ∃ w4, wr.alloc (.cells #[.int .i64 uk, .int .i64 ua, .int .i64 ub, .int .i64 uc, .int .i64 ud, .int .i64 ux, .slice us un uq] 83) = w4 := ⟨_, rfl⟩
      obtain ⟨bq, hbq⟩ : ∃ bq, wr.heap.size = bq := ⟨_, rfl⟩
      rw [hw4] at hB4 b4 HO4
      try rw [hw4]
      rw [hbq] at b4
      try simp only [hbq]
      have HB4 := Kp.mk hB4
      have CF := Kp.mk (HPI.out bz w4 (below_step HA.out hB4) ((HBX.out.below hB4).cell 0 rfl))
      have z0 : w4.cell? ⟨bq, 0, none⟩ = some (.int .i64 uk) := b4.cell 0 rfl
      have z1 : w4.cell? ⟨bq, 1, none⟩ = some (.int .i64 ua) := b4.cell 1 rfl
      have z2 : w4.cell? ⟨bq, 2, none⟩ = some (.int .i64 ub) := b4.cell 2 rfl
      have z3 : w4.cell? ⟨bq, 3, none⟩ = some (.int .i64 uc) := b4.cell 3 rfl
      have z4 : w4.cell? ⟨bq, 4, none⟩ = some (.int .i64 ud) := b4.cell 4 rfl
      have z5 : w4.cell? ⟨bq, 5, none⟩ = some (.int .i64 ux) := b4.cell 5 rfl
      have z6 : w4.cell? ⟨bq, 6, none⟩ = some (.slice us un uq) := b4.cell 6 rfl
      clear b4 hB4 hal hw4 hbq HPI c0 c1 c2 c3 c4 c5 c6 HS1 HO HB
      have hsz4 : wo.heap.size ≤ w4.heap.size := HB4.out.size
      go_wp2_with (first
        | (go_at_fn 121; refine CF.out.mono ?_; rintro e w5 ⟨rfl, hb5⟩; have HO5 := Kp.mk (own_below HO4.out hb5); have HB5 := Kp.mk (HB4.out.trans (hb5.mono HB4.out.size)); have hsz5 : wo.heap.size ≤ w5.heap.size := Nat.le_trans hsz4 hb5.size)
        | (at_builtin; refine wpList_push tStrs (by rfl) _ _ (by rfl) wo.heap.size ra i rc _ (by rfl) HO5.out 1 1 _ (by rfl) (by rfl) ?d1 (by decide) ?d2 (by decide) hsz5 ?d4)
        | fail)
      case d1 => simp [Value.oneCell']
      case d2 => omega
      case d4 =>
        intro sa2 sc2 w6 ho6 hb6
        have HO6 := Kp.mk (show w6.ownsRow wo.heap.size 9 1 (.slice sa2 (i + 1) sc2) (i + 1) (strs (PT.take (i + 1))) from by rw [HPS.out]; exact ho6)
        have HB6 := Kp.mk (HB5.out.trans hb6)
        clear ho6 hb6 CF z0 z1 z2 z3 z4 z5 z6
        go_wp2
        go_roundw
        case rel => exact ⟨i + 1, sa2, sc2, by omega, by go_num, rfl, HO6, HB6⟩
        case measure => simp [intOf]; omega
    · obtain rfl : n = i := by omega
      have HTK := Kp.mk (show PT.take n = PT from List.take_of_length_le (by rw [HPN.out]; exact Nat.le_refl _))
      rw [HTK.out] at HO
      have HBW := Kp.mk (below_step HA.out HB.out)
      have HTr := Kp.mk (HTAB.out.below HBW.out)
      have hbx := HBX.out.below HB.out
      have x0 : wr.cell? ⟨bz, 0, none⟩ = some (.int .i64 k) := hbx.cell 0 rfl
      have x1 : wr.cell? ⟨bz, 1, none⟩ = some (.int .i64 a) := hbx.cell 1 rfl
      have x2 : wr.cell? ⟨bz, 2, none⟩ = some (.int .i64 b) := hbx.cell 2 rfl
      have x3 : wr.cell? ⟨bz, 3, none⟩ = some (.int .i64 c) := hbx.cell 3 rfl
      have x4 : wr.cell? ⟨bz, 4, none⟩ = some (.int .i64 d) := hbx.cell 4 rfl
      have x5 : wr.cell? ⟨bz, 5, none⟩ = some (.int .i64 y) := hbx.cell 5 rfl
      clear hbx hin hi x6 HPA HS1
      obtain ⟨h1, h2, h3, h4, h5⟩ := HTE.out
      rcases HSH.out with ⟨rfl, rfl, rfl⟩ | ⟨rfl, rfl, rfl, rfl, rfl, rfl⟩ | ⟨rfl | rfl, hnn, rfl, rfl, rfl, rfl, rfl⟩ | ⟨rfl, rfl, rfl, rfl, rfl, rfl, rfl⟩
      · have HT1 := Kp.mk (h1 rfl)
        clear h1 h2 h3 h4 h5 HTE HPN
        obtain ⟨⟨a1, a2⟩, ⟨b1, b2⟩, ⟨c1, c2⟩, ⟨d1, d2⟩, _, _⟩ := HSR.out
        have hal := below_alloc (Nat.le_refl wr.heap.size) (.cells #[.int .i64 a, .int .i64 b, .int .i64 c, .int .i64 d] 3)
        have hbn := Box.new wr #[.int .i64 a, .int .i64 b, .int .i64 c, .int .i64 d] 3
        obtain ⟨wq, hwq⟩ : ∃ wq, wr.alloc (.cells #[.int .i64 a, .int .i64 b, .int .i64 c, .int .i64 d] 3) = wq := ⟨_, rfl⟩
        obtain ⟨bq, hbq⟩ : ∃ bq, wr.heap.size = bq := ⟨_, rfl⟩
        rw [hwq] at hal hbn
        have HBWq := Kp.mk (below_step HBW.out hal)
        rw [hbq] at hbn
        have HBN := Kp.mk hbn
        have HTq := Kp.mk (HTr.out.below hal)
        clear hal hbn
        have HNL := Kp.mk (show ∀ j, j < 4 → 0 ≤ [a, b, c, d].getD j 0 ∧ [a, b, c, d].getD j 0 ≤ 20 from fun j hj => by
          rcases (show j = 0 ∨ j = 1 ∨ j = 2 ∨ j = 3 by omega) with rfl | rfl | rfl | rfl
          · exact ⟨a1, a2⟩
          · exact ⟨b1, b2⟩
          · exact ⟨c1, c2⟩
          · exact ⟨d1, d2⟩)
        have HNC := Kp.mk (fun (W : World) (hW : RowKit.Below wq.heap.size wq W) (j : Nat) (hj : j < 4) => show W.cell? ⟨bq, j, none⟩ = some (.int .i64 ([a, b, c, d].getD j 0)) from by
          rcases (show j = 0 ∨ j = 1 ∨ j = 2 ∨ j = 3 by omega) with rfl | rfl | rfl | rfl
          · exact (HBN.out.below hW).cell 0 rfl
          · exact (HBN.out.below hW).cell 1 rfl
          · exact (HBN.out.below hW).cell 2 rfl
          · exact (HBN.out.below hW).cell 3 rfl)
        obtain ⟨P, hP⟩ : ∃ P : Nat → List UInt8, P = fun j => [105, 110] ++ (([a, b, c, d].take j).map Ex.num).flatten := ⟨_, rfl⟩
        have HP0 := Kp.mk (show P 0 = [105, 110] by rw [hP]; rfl)
        have HP4 := Kp.mk (show P 4 = t by rw [hP, HT1.out]; simp)
        have HPS := Kp.mk (show ∀ j, j < 4 → P (j + 1) = P j ++ (32 :: Lib.itoa ([a, b, c, d].getD j 0)) from fun j hj => by
          rw [hP]
          rcases (show j = 0 ∨ j = 1 ∨ j = 2 ∨ j = 3 by omega) with rfl | rfl | rfl | rfl <;> simp [Ex.num])
        have HPL := Kp.mk (show ∀ j, j < 4 → (P j).length ≤ 100 from fun j hj => by
          have l1 := (Ex.itoa_two (x := a) (by omega) (by omega))
          have l2 := (Ex.itoa_two (x := b) (by omega) (by omega))
          have l3 := (Ex.itoa_two (x := c) (by omega) (by omega))
          rw [hP]
          rcases (show j = 0 ∨ j = 1 ∨ j = 2 ∨ j = 3 by omega) with rfl | rfl | rfl | rfl <;> simp [Ex.num] <;> omega)
        generalize [a, b, c, d] = NS at HNL HNC HPS
        clear hP HT1 HBN a1 a2 b1 b2 c1 c2 d1 d2
        go_upto_region 12 with (fail)
        clear x0 x1 x2 x3 x4 x5
        obtain ⟨wn, rfl⟩ : ∃ wn : World, wn = wq := ⟨_, rfl⟩
        go_wp2
        go_loopw [7, 43] (fun v7 v43 wr => ∃ j : Nat, j ≤ 4 ∧ v43 = .int .i64 j ∧ v7 = str (P j) ∧ Kp (RowKit.Below wn.heap.size wn wr)) (fun _ v43 _ => 4 - (intOf v43).toNat)
        case atStart => exact ⟨0, by omega, rfl, by rw [HP0.out], ⟨Below.refl _ _⟩⟩
        case round =>
          obtain ⟨j, hj, rfl, rfl, HBJ⟩ := hrel
          by_cases hj4 : j < 4
          · have hjz : (j : Int) < 4 := by omega
            have q0 := HNC.out wr HBJ.out j hj4
            obtain ⟨n1, n2⟩ := HNL.out j hj4
            have HST := Kp.mk (HPS.out j hj4)
            have hpl := HPL.out j hj4
            have hp1 := Kp.mk (show P (j + 1) = P j ++ ([32] ++ Lib.itoa (NS.getD j 0)) from HST.out)
            clear HST
            generalize NS.getD j 0 = z at *
            have hlz := Ex.itoa_two (x := z) (by omega) (by omega)
            have s0 : (⟨#[32]⟩ : ByteArray).size ≤ 1 := by decide
            have s1 : (⟨(Lib.itoa z).toArray⟩ : ByteArray).size ≤ 2 := str_size hlz
            have s2 : (⟨(P j).toArray⟩ : ByteArray).size ≤ 100 := str_size hpl
            have s3 : ((⟨#[32]⟩ : ByteArray) ++ ⟨(Lib.itoa z).toArray⟩).size ≤ 3 := by rw [show (⟨#[32]⟩ : ByteArray) = ⟨[32].toArray⟩ from rfl, str_add]; exact str_size (by simp; omega)
            have CI := Kp.mk (itoa_any z (by omega) (by omega) wr (HTq.out.below HBJ.out))
            go_wp2_with (first
              | (go_at_call 55; refine CI.out.mono ?_; rintro e w5 ⟨rfl, hb5⟩)
              | fail)
            have HB5 := Kp.mk (HBJ.out.trans (hb5.mono HBJ.out.size))
            go_roundw
            case rel => exact ⟨j + 1, by omega, by go_num, by rw [hp1.out]; rfl, HB5⟩
            case measure => simp [intOf]; omega
          · obtain rfl : j = 4 := by omega
            rw [HP4.out]
            go_wp2
            go_ret
            exact ⟨rfl, below_step HBWq.out HBJ.out⟩
      · have HT2 := Kp.mk (h2 rfl)
        clear h1 h2 h3 h4 h5 HTE HPN
        obtain ⟨_, _, _, _, y1, y2⟩ := HSR.out
        have hly := Ex.itoa_two (x := y) (by omega) (by omega)
        have s0 : (⟨#[119, 32]⟩ : ByteArray).size ≤ 2 := by decide
        have s1 : (⟨(Lib.itoa y).toArray⟩ : ByteArray).size ≤ 2 := str_size hly
        have CI := Kp.mk (fun W hW => itoa_any y (by omega) (by omega) W hW)
        go_wp2_with (first
          | (go_at_call 55; refine (CI.out _ HTr.out).mono ?_; rintro e w5 ⟨rfl, hb5⟩)
          | fail)
        go_ret
        refine ⟨?_, below_step HBW.out hb5⟩
        rw [HT2.out]
        rfl
      · have HT3 := Kp.mk (h3 rfl)
        clear h1 h2 h3 h4 h5 HTE
        obtain ⟨g, rfl, _, hgl⟩ := own_some HO.out (by omega)
        have hoc := (own_slc HO.out).le
        have CJ := Kp.mk (join_any g rc n PT [32, 38, 32] wr HPN.out HO.out (by rw [← HT3.out]; exact hl) hoc (by omega) (by omega))
        go_wp2_with (first
          | (go_at_call 123; refine CJ.out.mono ?_; rintro e w5 ⟨rfl, hb5⟩)
          | fail)
        go_ret
        refine ⟨?_, below_step HBW.out hb5⟩
        rw [HT3.out]
        rfl
      · have HT3 := Kp.mk (h4 rfl)
        clear h1 h2 h3 h4 h5 HTE
        obtain ⟨g, rfl, _, hgl⟩ := own_some HO.out (by omega)
        have hoc := (own_slc HO.out).le
        have CJ := Kp.mk (join_any g rc n PT [32, 124, 32] wr HPN.out HO.out (by rw [← HT3.out]; exact hl) hoc (by omega) (by omega))
        go_wp2_with (first
          | (go_at_call 123; refine CJ.out.mono ?_; rintro e w5 ⟨rfl, hb5⟩)
          | fail)
        go_ret
        refine ⟨?_, below_step HBW.out hb5⟩
        rw [HT3.out]
        rfl
      · have HT5 := Kp.mk (h5 rfl)
        clear h1 h2 h3 h4 h5 HTE
        obtain ⟨g, rfl, _, hgl⟩ := own_some HO.out (by omega)
        have hoc := (own_slc HO.out).le
        have hz : wr.cell? ⟨g, 0, none⟩ = some (str (PT.getD 0 [])) := by
          have h1 := HO.out.cellAt 0 (by omega)
          rw [h1]
          unfold strs
          rw [List.getElem?_map, List.getElem?_eq_getElem (by rw [HPN.out]; omega), getD_at _ _ (by rw [HPN.out]; omega)]; rfl
        have hpl : (PT.getD 0 []).length ≤ 10000 := by
          have h1 := HT5.out; have h2 := hl; rw [h1] at h2; simp only [List.length_append, List.length_cons, List.length_nil] at h2; omega
        generalize PT.getD 0 [] = p0 at *
        have s0 : (⟨#[33]⟩ : ByteArray).size ≤ 1 := by decide
        have s1 : (⟨p0.toArray⟩ : ByteArray).size ≤ 10000 := str_size hpl
        go_wp2
        go_ret
        refine ⟨?_, HBW.out⟩
        rw [HT5.out]
        rfl

end Go.Proofs.YtedchegejalolaaGreatDoor

/- desk: numbers of words, and what is told. -/
namespace Go.Proofs.YtedchegejalolaaGreatDoor.Dk
set_option linter.unusedVariables false
open Go.RowKit

abbrev Wd := List UInt8
def toldT (word : Wd) (l : List Int) : Wd := word ++ (l.map Ex.num).flatten
theorem toldT_snoc (word : Wd) (l : List Int) (k : Nat) (h : k < l.length) : toldT word (l.take (k + 1)) = toldT word (l.take k) ++ Ex.num l[k] := by
  unfold toldT
  rw [List.take_succ_eq_append_getElem h, List.map_append, List.flatten_append, List.append_assoc]
  simp

set_option maxRecDepth 100000 in
set_option maxHeartbeats 4000000 in
theorem told_any (word : Wd) (hw : word.length ≤ 100) (la : Option Addr) (lc m : Nat) (l : List Int) (w : World) (h : SlI w la lc l) (hl : l.length = m) (hm : m ≤ 1000) (hb : ∀ x ∈ l, -9223372036854775808 ≤ x ∧ x ≤ 9223372036854775807) (hT : Tab w) :
    Calls Tryz.prog 36 #[str word, .slice la m lc] w fun e w' => e = .returned (str (toldT word l)) ∧ Kp (Below w.heap.size w w') := by
  have H := Kp.mk h
  have HL := Kp.mk hl
  have HBD := Kp.mk hb
  have HT := Kp.mk hT
  clear h hl hb hT
  go_enter Tryz.func36, Tryz.ntmps36
  go_wp2
  go_loopw [0, 9] (fun sv iv wr => ∃ (k : Nat) (P : Wd), k ≤ m ∧ P.length ≤ 100 + 22 * k ∧ iv = .int .i64 k ∧ sv = str P ∧ Kp (P = toldT word (l.take k)) ∧ Kp (Below w.heap.size w wr)) (fun _ iv _ => m - (intOf iv).toNat)
  case atStart => exact ⟨0, word, Nat.zero_le _, by omega, rfl, rfl, ⟨by simp [toldT]⟩, ⟨Below.refl _ _⟩⟩
  case round =>
    obtain ⟨k, P, hk, hPl, rfl, rfl, HP, HB⟩ := hrel
    by_cases hlt : k < m
    · have hkl : k < l.length := by rw [HL.out]; exact hlt
      obtain ⟨b, o, rfl, c1⟩ := (H.out.below HB.out).at k hkl
      obtain ⟨x1, x2⟩ := HBD.out _ (List.getElem_mem hkl)
      have HS := Kp.mk (toldT_snoc word l k hkl)
      generalize l[k] = x at *
      have hil := Lib.itoa_length_le x x1 x2
      have CI := Kp.mk (fun W (hW : Tab W) => itoa_any x x1 x2 W hW)
      have hadd : (⟨#[32]⟩ : ByteArray) ++ ⟨(Lib.itoa x).toArray⟩ = ⟨(Ex.num x).toArray⟩ := str_add [32] (Lib.itoa x)
      obtain ⟨N, hN⟩ : ∃ N, Ex.num x = N := ⟨_, rfl⟩
      have hNl : N.length ≤ 22 := by rw [← hN]; unfold Ex.num; simp only [List.length_cons]; omega
      rw [hN] at hadd HS
      generalize Lib.itoa x = I at *
      have hadd2 : (⟨P.toArray⟩ : ByteArray) ++ ⟨N.toArray⟩ = ⟨(P ++ N).toArray⟩ := str_add P N
      obtain ⟨P2, hP2⟩ : ∃ P2, P ++ N = P2 := ⟨_, rfl⟩
      rw [hP2] at hadd2
      have hPl2 : P2.length ≤ 100 + 22 * (k + 1) := by rw [← hP2, List.length_append]; omega
      have HP2 := Kp.mk (show P2 = toldT word (l.take (k + 1)) from by rw [HS.out, ← HP.out, hP2])
      have s0 : (⟨#[32]⟩ : ByteArray).size ≤ 1 := by decide
      have s1 : (⟨I.toArray⟩ : ByteArray).size ≤ 21 := str_size hil
      have s2 : (⟨N.toArray⟩ : ByteArray).size ≤ 22 := str_size hNl
      have s3 : (⟨P.toArray⟩ : ByteArray).size ≤ 30000 := str_size (by omega)
      have s4 : (⟨P2.toArray⟩ : ByteArray).size ≤ 30000 := str_size (by omega)
      clear hN hP2 HS HP hkl
      go_wp2_with (first
        | (go_at_call 55; refine (CI.out _ (HT.out.below HB.out)).mono ?_; rintro e w2 ⟨rfl, hb2⟩; have HB2 := Kp.mk (below_step HB.out hb2); clear hb2)
        | fail)
      go_roundw
      case rel => exact ⟨k + 1, P2, by omega, hPl2, by go_num, rfl, HP2, HB2⟩
      case measure => simp [intOf]; omega
    · obtain rfl : k = m := by omega
      have HE := Kp.mk (show P = toldT word l from by have := HP.out; rwa [← HL.out, List.take_length] at this)
      go_wp2
      go_ret
      exact ⟨congrArg (fun z => Ending.returned (str z)) HE.out, HB⟩

theorem bytes_below' {W w' : World} (h : ∃ t, w' = Lib.bytesWorld W 5 t) : Below W.heap.size W w' := by
  obtain ⟨t, rfl⟩ := h
  exact Lib.bytesWorld_below W _ t
/-- A word that is a numeral. -/
structure IsNum (t : Wd) (n : Int) : Prop where
  txt : Lib.itoa n = t
  back : Lib.atoi t = some n
  near : -1048576 ≤ n ∧ n ≤ 1048576
  len : t.length ≤ 18
set_option maxRecDepth 100000 in
set_option maxHeartbeats 4000000 in
theorem dnum_any (t : Wd) (n : Int) (h : IsNum t n) (w : World) (hT : Tab w) :
    Calls Tryz.prog 62 #[str t] w fun e w' => e = .returned (.tuple #[.int .i64 n, .bool true]) ∧ Kp (Below w.heap.size w w') := by
  have hsz : (⟨t.toArray⟩ : ByteArray).size ≤ 18 := str_size h.len
  have CA := Kp.mk (fun W => Tryz.strconv_Atoi ⟨t.toArray⟩ n hsz (by simpa using h.back) W)
  obtain ⟨n1, n2⟩ := h.near
  have CI := Kp.mk (fun W (hW : Tab W) => itoa_any n (by omega) (by omega) W hW)
  rw [h.txt] at CI
  have HT := Kp.mk hT
  have hn1 : (-1048576 : Int) ≤ n := n1
  have hn2 : n ≤ (1048576 : Int) := n2
  clear h hT
  go_enter Tryz.func62, Tryz.ntmps62
  go_wp2_with (first
    | (go_at_call 91; refine (CA.out _).mono ?_; rintro e w6 ⟨rfl, hb6⟩; have HB6 := Kp.mk (bytes_below' hb6); clear hb6)
    | (go_at_call 55; refine (CI.out _ (HT.out.below HB6.out)).mono ?_; rintro e w7 ⟨rfl, hb7⟩; have HB7 := Kp.mk (below_step HB6.out hb7); clear hb7)
    | fail)
  refine bodyPost_ret (v := .tuple #[.int .i64 n, .bool true]) (by simp [results, Tryz.results62, go_sem]) rfl ?_
  exact ⟨rfl, HB7⟩
set_option maxRecDepth 100000 in
set_option maxHeartbeats 4000000 in
/-- A word that reads as a number that is written otherwise. -/
theorem dnum_odd (t : Wd) (n : Int) (hb : Lib.atoi t = some n) (hne : Lib.itoa n ≠ t) (hn : -1048576 ≤ n ∧ n ≤ 1048576) (hl : t.length ≤ 18) (w : World) (hT : Tab w) :
    Calls Tryz.prog 62 #[str t] w fun e w' => e = .returned (.tuple #[.int .i64 n, .bool false]) ∧ Kp (Below w.heap.size w w') := by
  have hsz : (⟨t.toArray⟩ : ByteArray).size ≤ 18 := str_size hl
  have CA := Kp.mk (fun W => Tryz.strconv_Atoi ⟨t.toArray⟩ n hsz (by simpa using hb) W)
  obtain ⟨n1, n2⟩ := hn
  have CI := Kp.mk (fun W (hW : Tab W) => itoa_any n (by omega) (by omega) W hW)
  obtain ⟨I, hI⟩ : ∃ I, Lib.itoa n = I := ⟨_, rfl⟩
  rw [hI] at CI hne
  have e1 : (I == t) = false := by rw [beq_eq_false_iff_ne]; exact hne
  have HT := Kp.mk hT
  clear hb hne hT hI
  go_enter Tryz.func62, Tryz.ntmps62
  go_wp2_with (first
    | (go_at_call 91; refine (CA.out _).mono ?_; rintro e w6 ⟨rfl, hb6⟩; have HB6 := Kp.mk (bytes_below' hb6); clear hb6)
    | (go_at_call 55; refine (CI.out _ (HT.out.below HB6.out)).mono ?_; rintro e w7 ⟨rfl, hb7⟩; have HB7 := Kp.mk (below_step HB6.out hb7); clear hb7)
    | fail)
  refine bodyPost_ret (v := .tuple #[.int .i64 n, .bool false]) (by simp [results, Tryz.results62, go_sem]) rfl ?_
  exact ⟨rfl, HB7⟩

end Go.Proofs.YtedchegejalolaaGreatDoor.Dk

