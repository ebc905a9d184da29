import Derived.Test.YteeeikninigeoaaGreatDoorMg0
import Derived.Deep.Slices
import Derived.Deep.Fields
import Derived.Lib.ItoaNum
import Derived.Lib.ItoaMem
/- Arguments that are structs of integers, and slices of these. -/
namespace Go.Proofs.YteeeikninigeoaaGreatDoor
set_option linter.unusedVariables false
open Go.RowKit Go.ChangeShapes Go.WideShapes Go.Deep

/-- All cells of the type are integers. -/
def Intly (P : Program) (t : TypeId) : Prop := ∀ {H : Type} (enc : TypeId × Value → H) (w : World) (base : Nat) (spare : Nat → Bool) (held : Bool) (fuel : Nat) (cs : List Value) (x : DataW H × List MemPlace),
  DataW.trod enc P w base spare held fuel t cs = some x → cs.length = P.cellsOf t ∧ ∀ j, j < cs.length → ∃ n, cs[j]? = some (.int .i64 n) ∧ (Lit.int .i64 n).wf = true
theorem intly_int {P : Program} {t : TypeId} (h : P.underlying t = some (.int .i64)) (hc : P.cellsOf t = 1) : Intly P t := by
  intro H enc w base spare held fuel cs x hx
  obtain ⟨n, rfl, _, hw⟩ := DataW.trod_int h hx
  refine ⟨hc.symm, fun j hj => ⟨n, ?_, hw⟩⟩
  have : j = 0 := by simp at hj; omega
  subst this; rfl
theorem intly_struct {P : Program} {t : TypeId} {fs : Array Field} (hs : P.underlying t = some (.struct fs)) (hcov : ∀ j, j < P.cellsOf t → ∃ (i : Nat) (f : Field), fs[i]? = some f ∧ f.offset ≤ j ∧ j < f.offset + P.cellsOf f.type ∧ Intly P f.type) : Intly P t := by
  intro H enc w base spare held fuel cs x hx
  obtain ⟨xs, n, _, _, hlen, hxl, hf⟩ := DataW.trod_struct hs hx
  refine ⟨hlen, fun j hj => ?_⟩
  obtain ⟨i, f, hi, h1, h2, h3⟩ := hcov j (by omega)
  have hi' : i < xs.length := by rw [hxl]; exact (Array.getElem?_eq_some_iff.1 hi).1
  have h4 := hf i f hi
  rw [List.getElem?_eq_getElem hi'] at h4
  obtain ⟨h5, h6⟩ := h3 enc w base spare held n _ _ h4
  obtain ⟨z, hz, hw⟩ := h6 (j - f.offset) (by rw [h5]; omega)
  refine ⟨z, ?_, hw⟩
  rw [List.getElem?_take_of_lt (by omega), List.getElem?_drop, show f.offset + (j - f.offset) = j by omega] at hz
  exact hz
theorem intly_flat {P : Program} {t ti : TypeId} {fs : Array Field} (hs : P.underlying t = some (.struct fs)) (hone : oneCellFields P fs = true) (hC : P.cellsOf t = fs.size) (hall : (fs.toList.all fun f => f.type == ti) = true) (hi : P.underlying ti = some (.int .i64)) (hc : P.cellsOf ti = 1) : Intly P t := by
  refine intly_struct hs fun j hj => ?_
  rw [hC] at hj
  obtain ⟨ho, hk⟩ := hone_of hone j fs[j] (by simp [hj])
  have hty : fs[j].type = ti := by
    have := List.all_eq_true.1 hall fs[j] (by simp)
    simpa using this
  exact ⟨j, fs[j], by simp [hj], by omega, by omega, by rw [hty]; exact intly_int hi hc⟩
theorem list_of3 {l : List Int} (h : l.length = 3) : ∃ x0 x1 x2, l = [x0, x1, x2] := by
  match l, h with
  | [x0, x1, x2], _ => exact ⟨x0, x1, x2, rfl⟩
theorem list_of4 {l : List Int} (h : l.length = 4) : ∃ x0 x1 x2 x3, l = [x0, x1, x2, x3] := by
  match l, h with
  | [x0, x1, x2, x3], _ => exact ⟨x0, x1, x2, x3, rfl⟩
theorem list_of8 {l : List Int} (h : l.length = 8) : ∃ x0 x1 x2 x3 x4 x5 x6 x7, l = [x0, x1, x2, x3, x4, x5, x6, x7] := by
  match l, h with
  | [x0, x1, x2, x3, x4, x5, x6, x7], _ => exact ⟨x0, x1, x2, x3, x4, x5, x6, x7, rfl⟩
theorem choose_list {N : Nat} {p : Nat → Int → Prop} (h : ∀ i, i < N → ∃ n, p i n) : ∃ zs : List Int, zs.length = N ∧ ∀ i, i < N → p i (zs.getD i 0) := by
  induction N with
  | zero => exact ⟨[], rfl, fun i hi => by omega⟩
  | succ N ih =>
    obtain ⟨zs, hl, hz⟩ := ih (fun i hi => h i (by omega))
    obtain ⟨n, hn⟩ := h N (by omega)
    refine ⟨zs ++ [n], by simp [hl], fun i hi => ?_⟩
    by_cases e : i = N
    · subst e
      rw [getD_at _ _ (by simp [hl]), List.getElem_append_right (by omega)]
      simpa [hl] using hn
    · rw [getD_at _ _ (by simp [hl]; omega), List.getElem_append_left (by omega), ← getD_at zs 0 (by omega)]
      exact hz i (by omega)
section
variable {H : Type} {enc : TypeId × Value → H} {P : Program} {w : World} {base : Nat} {spare : Nat → Bool} {held : Bool}
theorem open_flat {t e : TypeId} {fuel k : Nat} {a : Option Addr} {len cap : Nat} {x : DataW H × List MemPlace} (ht : P.underlying t = some (.slice e)) (hI : Intly P e) (hC : P.cellsOf e = k) (hk : 0 < k)
    (h : DataW.trod enc P w base spare held fuel t [.slice a len cap] = some x) : ∃ zs, IsFlat k w a len cap zs := by
  rcases open_slice ht h with ⟨h0, _⟩ | ⟨ad, len', cap', m, n, D, Pl, hcs, hb, hl, hm, hmm, hx, hi⟩
  · simp only [List.cons.injEq, Value.slice.injEq, and_true] at h0
    obtain ⟨rfl, rfl, rfl⟩ := h0
    exact ⟨[], .inl ⟨rfl, rfl, rfl, rfl⟩⟩
  · simp only [List.cons.injEq, Value.slice.injEq, and_true] at hcs
    obtain ⟨rfl, rfl, rfl⟩ := hcs
    have hle : len ≤ m := by rw [hmm]; split <;> omega
    obtain ⟨zs, hz, hp⟩ := choose_list (N := len * k) (p := fun i n => w.cell? (ad.add i) = some (.int .i64 n) ∧ (Lit.int .i64 n).wf = true) (fun i hil => by
      have hdm := Nat.div_add_mod i k
      have hd : i / k < len := Nat.div_lt_of_lt_mul (by rw [Nat.mul_comm]; exact hil)
      have hmd : i % k < k := Nat.mod_lt _ hk
      obtain ⟨cs', hc, ht'⟩ := hi (i / k) (by omega)
      rw [hC] at hc
      obtain ⟨_, hcl, hat⟩ := World.cells?_some hc
      obtain ⟨h5, h6⟩ := hI enc w base spare held n _ _ ht'
      obtain ⟨z, hz, hw⟩ := h6 (i % k) (by omega)
      refine ⟨z, ?_, hw⟩
      have := hat (i % k) hmd
      rw [add_add, hz, Nat.mul_comm, hdm] at this
      exact this)
    refine ⟨zs, .inr ⟨ad, rfl, hl, hm, hz, fun i hi => (hp i (by omega)).1, fun z hzm => ?_⟩⟩
    obtain ⟨i, hi, rfl⟩ := List.mem_iff_getElem.1 hzm
    have := (hp i (by omega)).2
    rwa [getD_at _ _ hi] at this
/-- A struct of integers by value. -/
theorem open_agg {r : Reach} {b0 k : Nat} {t : TypeId} {fs : Array Field} {v : Value} {d : DataW H} {p : List MemPlace} (hs : P.underlying t = some (.struct fs)) (hI : Intly P t) (hC : P.cellsOf t = k)
    (hv : Value.okWide P w r b0 t v) (h : DataW.Trod enc P w base spare held t v d p) : ∃ zs : List Int, v = .agg (ints zs).toArray ∧ zs.length = k ∧ ∀ n ∈ zs, (Lit.int .i64 n).wf = true := by
  obtain ⟨cs, rfl, hsz⟩ := okWide_struct hs hv
  obtain ⟨fuel, hf⟩ := h
  have hf' : DataW.trod enc P w base spare held fuel t cs.toList = some (d, p) := hf
  obtain ⟨h1, h2⟩ := hI enc w base spare held fuel _ _ hf'
  obtain ⟨zs, hz, hp⟩ := choose_list (N := k) (p := fun i n => cs.toList[i]? = some (.int .i64 n) ∧ (Lit.int .i64 n).wf = true) (fun i hi => h2 i (by rw [h1, hC]; exact hi))
  refine ⟨zs, ?_, hz, fun z hzm => ?_⟩
  · congr 1
    apply Array.ext'
    rw [List.toList_toArray]
    apply List.ext_getElem?
    intro i
    by_cases hi : i < k
    · rw [(hp i hi).1, List.getElem?_eq_getElem (by rw [ints_length]; omega), ints_get, getD_at _ _ (by omega)]
    · rw [List.getElem?_eq_none (by rw [h1, hC]; omega), List.getElem?_eq_none (by rw [ints_length]; omega)]
  · obtain ⟨i, hi, rfl⟩ := List.mem_iff_getElem.1 hzm
    have := (hp i (by omega)).2
    rwa [getD_at _ _ hi] at this
end

end Go.Proofs.YteeeikninigeoaaGreatDoor

/- Expressions: the plain facts, and how they lie in memory. -/
namespace Go.Proofs.YteeeikninigeoaaGreatDoor
set_option linter.unusedVariables false
open Go.RowKit

/-- An expression with at most three parts. -/
inductive Ex where
  | inn (a b c d : Int)
  | hv (x : Int)
  | not (p : Ex)
  | two (o : Bool) (p q : Ex)
  | three (o : Bool) (p q r : Ex)
namespace Ex
def parts : Ex → List Ex
  | .inn .. => []
  | .hv _ => []
  | .not p => [p]
  | .two _ p q => [p, q]
  | .three _ p q r => [p, q, r]
def ok (o : Bool) : Int := if o = true then 4 else 3
def kind : Ex → Int
  | .inn .. => 1
  | .hv _ => 2
  | .not _ => 5
  | .two o _ _ => ok o
  | .three o _ _ _ => ok o
def rx0 : Ex → Int
  | .inn a _ _ _ => a
  | _ => 0
def ry0 : Ex → Int
  | .inn _ b _ _ => b
  | _ => 0
def rx1 : Ex → Int
  | .inn _ _ c _ => c
  | _ => 0
def ry1 : Ex → Int
  | .inn _ _ _ d => d
  | _ => 0
def wt : Ex → Int
  | .hv x => x
  | _ => 0
theorem ind {P : Ex → Prop} (h : ∀ x, (∀ p ∈ x.parts, P p) → P x) : ∀ x, P x
  | .inn .. => h _ (fun p hp => absurd hp (by simp [parts]))
  | .hv _ => h _ (fun p hp => absurd hp (by simp [parts]))
  | .not p => h _ (fun s hs => by
      simp only [parts, List.mem_cons, List.not_mem_nil, or_false] at hs
      rw [hs]; exact ind h p)
  | .two _ p q => h _ (fun s hs => by
      simp only [parts, List.mem_cons, List.not_mem_nil, or_false] at hs
      rcases hs with e | e
      · rw [e]; exact ind h p
      · rw [e]; exact ind h q)
  | .three _ p q r => h _ (fun s hs => by
      simp only [parts, List.mem_cons, List.not_mem_nil, or_false] at hs
      rcases hs with e | e | e
      · rw [e]; exact ind h p
      · rw [e]; exact ind h q
      · rw [e]; exact ind h r)
/-- How deep. -/
def dep : Ex → Nat
  | .inn .. => 1
  | .hv _ => 1
  | .not p => p.dep + 1
  | .two _ p q => max p.dep q.dep + 1
  | .three _ p q r => max p.dep (max q.dep r.dep) + 1
theorem dep_part {x p : Ex} (h : p ∈ x.parts) : p.dep + 1 ≤ x.dep := by
  cases x <;> simp only [parts, List.mem_cons, List.not_mem_nil, or_false] at h
  · rw [h]; simp only [dep]; omega
  · rcases h with rfl | rfl <;> simp only [dep] <;> omega
  · rcases h with rfl | rfl | rfl <;> simp only [dep] <;> omega
theorem dep_pos (x : Ex) : 1 ≤ x.dep := by cases x <;> simp only [dep] <;> omega
/-- Small numbers. -/
def small : Ex → Prop
  | .inn a b c d => (0 ≤ a ∧ a < 20) ∧ (0 ≤ b ∧ b < 20) ∧ (0 ≤ c ∧ c < 20) ∧ (0 ≤ d ∧ d < 20)
  | .hv x => -3 ≤ x ∧ x < 17
  | .not p => p.small
  | .two _ p q => p.small ∧ q.small
  | .three _ p q r => p.small ∧ q.small ∧ r.small
theorem small_part {x p : Ex} (hx : x.small) (h : p ∈ x.parts) : p.small := by
  cases x <;> simp only [parts, List.mem_cons, List.not_mem_nil, or_false] at h <;> simp only [small] at hx
  · rw [h]; exact hx
  · rcases h with rfl | rfl
    · exact hx.1
    · exact hx.2
  · rcases h with rfl | rfl | rfl
    · exact hx.1
    · exact hx.2.1
    · exact hx.2.2
theorem small_rect {x : Ex} (hx : x.small) : (0 ≤ x.rx0 ∧ x.rx0 < 20) ∧ (0 ≤ x.ry0 ∧ x.ry0 < 20) ∧ (0 ≤ x.rx1 ∧ x.rx1 < 20) ∧ (0 ≤ x.ry1 ∧ x.ry1 < 20) ∧ (-3 ≤ x.wt ∧ x.wt < 17) := by
  cases x <;> simp only [small] at hx <;> simp only [rx0, ry0, rx1, ry1, wt] <;> omega
/-- What an expression of a kind looks like. -/
theorem shape (x : Ex) : (x.kind = 1 ∧ x.parts.length = 0 ∧ x.wt = 0) ∨ (x.kind = 2 ∧ x.parts.length = 0 ∧ x.rx0 = 0 ∧ x.ry0 = 0 ∧ x.rx1 = 0 ∧ x.ry1 = 0) ∨ ((x.kind = 3 ∨ x.kind = 4) ∧ (x.parts.length = 2 ∨ x.parts.length = 3) ∧ x.rx0 = 0 ∧ x.ry0 = 0 ∧ x.rx1 = 0 ∧ x.ry1 = 0 ∧ x.wt = 0) ∨ (x.kind = 5 ∧ x.parts.length = 1 ∧ x.rx0 = 0 ∧ x.ry0 = 0 ∧ x.rx1 = 0 ∧ x.ry1 = 0 ∧ x.wt = 0) := by
  cases x with
  | inn a b c d => exact .inl ⟨rfl, rfl, rfl⟩
  | hv y => exact .inr (.inl ⟨rfl, rfl, rfl, rfl, rfl, rfl⟩)
  | not p => exact .inr (.inr (.inr ⟨rfl, rfl, rfl, rfl, rfl, rfl, rfl⟩))
  | two o p q => exact .inr (.inr (.inl ⟨by cases o <;> simp [kind, ok], .inl rfl, rfl, rfl, rfl, rfl, rfl⟩))
  | three o p q r => exact .inr (.inr (.inl ⟨by cases o <;> simp [kind, ok], .inr rfl, rfl, rfl, rfl, rfl, rfl⟩))
/-- How closely a kind is bound. -/
def rank (k : Int) : Int := if k = 4 then 1 else if k = 3 then 2 else 3
/-- The texts. -/
def num (n : Int) : List UInt8 := 32 :: Lib.itoa n
def wrapT (k : Int) (p : Ex) (t : List UInt8) : List UInt8 := if rank p.kind ≤ rank k ∧ rank p.kind < 3 then [40] ++ t ++ [41] else t
def sepT (o : Bool) : List UInt8 := if o = true then [32, 124, 32] else [32, 38, 32]
def txt : Ex → List UInt8
  | .inn a b c d => [105, 110] ++ num a ++ num b ++ num c ++ num d
  | .hv x => [119, 32] ++ Lib.itoa x
  | .not p => [33] ++ wrapT 5 p p.txt
  | .two o p q => wrapT (ok o) p p.txt ++ sepT o ++ wrapT (ok o) q q.txt
  | .three o p q r => wrapT (ok o) p p.txt ++ sepT o ++ wrapT (ok o) q q.txt ++ sepT o ++ wrapT (ok o) r r.txt
theorem itoa_two {x : Int} (h1 : -10 < x) (h2 : x < 100) : (Lib.itoa x).length ≤ 2 := by
  rcases Int.lt_or_le x 0 with h | h
  · obtain ⟨u, rfl⟩ : ∃ u : Nat, x = -(u : Int) := ⟨x.natAbs, by omega⟩
    rw [Lib.itoa_neg u (by omega), Lib.decDigits_one (by omega)]; simp
  · obtain ⟨u, rfl⟩ : ∃ u : Nat, x = (u : Int) := ⟨x.toNat, by omega⟩
    rw [Lib.itoa_nonneg]
    by_cases h3 : u < 10
    · rw [Lib.decDigits_one h3]; simp
    · rw [Lib.decDigits_two h3 (by omega)]; simp
theorem wrap_len (k : Int) (p : Ex) (t : List UInt8) : (wrapT k p t).length ≤ t.length + 2 := by
  unfold wrapT; split <;> simp <;> omega
/-- The longest a text of so many levels can be. -/
def bnd : Nat → Nat
  | 0 => 0
  | n + 1 => if n = 0 then 14 else 3 * (bnd n + 2) + 6
theorem bnd_ge : ∀ n, 14 ≤ bnd (n + 1) := by
  intro n
  induction n with
  | zero => decide
  | succ n ih => simp only [bnd] at *; rw [if_neg (by omega)]; omega
theorem txt_len : ∀ (x : Ex) (n : Nat), x.small → x.dep ≤ n → x.txt.length ≤ bnd n := by
  intro x
  induction x with
  | inn a b c d =>
    intro n hs hd
    simp only [small] at hs
    have h1 := itoa_two (x := a) (by omega) (by omega)
    have h2 := itoa_two (x := b) (by omega) (by omega)
    have h3 := itoa_two (x := c) (by omega) (by omega)
    have h4 := itoa_two (x := d) (by omega) (by omega)
    have hl : (Ex.inn a b c d).txt.length ≤ 14 := by
      simp only [txt, num, List.length_append, List.length_cons, List.length_nil]; omega
    cases n with
    | zero => simp only [dep] at hd; omega
    | succ n => exact Nat.le_trans hl (bnd_ge n)
  | hv y =>
    intro n hs hd
    simp only [small] at hs
    have h1 := itoa_two (x := y) (by omega) (by omega)
    have hl : (Ex.hv y).txt.length ≤ 14 := by
      simp only [txt, List.length_append, List.length_cons, List.length_nil]; omega
    cases n with
    | zero => simp only [dep] at hd; omega
    | succ n => exact Nat.le_trans hl (bnd_ge n)
  | not p ih =>
    intro n hs hd
    simp only [small] at hs
    simp only [dep] at hd
    have h1 := ih (n - 1) hs (by omega)
    have h2 := wrap_len 5 p p.txt
    have hp := dep_pos p
    obtain ⟨m, rfl⟩ : ∃ m, n = m + 1 := ⟨n - 1, by omega⟩
    simp only [Nat.add_sub_cancel] at h1
    simp only [bnd, txt, List.length_append, List.length_cons, List.length_nil]
    rw [if_neg (by omega)]; omega
  | two o p q ih1 ih2 =>
    intro n hs hd
    simp only [small] at hs
    simp only [dep] at hd
    have h1 := ih1 (n - 1) hs.1 (by omega)
    have h2 := wrap_len (ok o) p p.txt
    have h3 := ih2 (n - 1) hs.2 (by omega)
    have h4 := wrap_len (ok o) q q.txt
    have h5 : (sepT o).length = 3 := by cases o <;> rfl
    have hp := dep_pos p
    obtain ⟨m, rfl⟩ : ∃ m, n = m + 1 := ⟨n - 1, by omega⟩
    simp only [Nat.add_sub_cancel] at h1 h3
    simp only [bnd, txt, List.length_append]
    rw [if_neg (by omega)]; omega
  | three o p q r ih1 ih2 ih3 =>
    intro n hs hd
    simp only [small] at hs
    simp only [dep] at hd
    have h1 := ih1 (n - 1) hs.1 (by omega)
    have h2 := wrap_len (ok o) p p.txt
    have h3 := ih2 (n - 1) hs.2.1 (by omega)
    have h4 := wrap_len (ok o) q q.txt
    have h6 := ih3 (n - 1) hs.2.2 (by omega)
    have h7 := wrap_len (ok o) r r.txt
    have h5 : (sepT o).length = 3 := by cases o <;> rfl
    have hp := dep_pos p
    obtain ⟨m, rfl⟩ : ∃ m, n = m + 1 := ⟨n - 1, by omega⟩
    simp only [Nat.add_sub_cancel] at h1 h3 h6
    simp only [bnd, txt, List.length_append]
    rw [if_neg (by omega)]; omega
theorem txt_400 {x : Ex} (hs : x.small) (hd : x.dep ≤ 4) : x.txt.length ≤ 600 := by
  have h := txt_len x 4 hs hd
  have : bnd 4 = 534 := by decide
  omega
theorem txt_3 {x : Ex} (hs : x.small) (hd : x.dep ≤ 3) : x.txt.length ≤ 400 := by
  have h := txt_len x 3 hs hd
  have : bnd 3 = 174 := by decide
  omega
end Ex

/-- An expression's cells. -/
structure ExV where
  k : Int
  a : Int
  b : Int
  c : Int
  d : Int
  x : Int
  sa : Option Addr
  n : Nat
  cap : Nat
def exL (v : ExV) : List Value := [.int .i64 v.k, .int .i64 v.a, .int .i64 v.b, .int .i64 v.c, .int .i64 v.d, .int .i64 v.x, .slice v.sa v.n v.cap]
theorem exL_len (v : ExV) : (exL v).length = 7 := rfl
def ev0 : ExV := ⟨0, 0, 0, 0, 0, 0, none, 0, 0⟩
theorem exL_one : ∀ v, ∀ u ∈ exL v, u.oneCell' = true := fun v u hu => by
  simp only [exL, List.mem_cons, List.not_mem_nil, or_false] at hu
  rcases hu with rfl | rfl | rfl | rfl | rfl | rfl | rfl <;> rfl
/-- An expression in memory. -/
def IsEx (w : World) : Ex → ExV → Prop
  | .inn a b c d, v => v = ⟨1, a, b, c, d, 0, none, 0, 0⟩
  | .hv x, v => v = ⟨2, 0, 0, 0, 0, x, none, 0, 0⟩
  | .not p, v => ∃ sa cap vp, v = ⟨5, 0, 0, 0, 0, 0, sa, 1, cap⟩ ∧ SlF exL 7 w sa 1 cap [vp] ∧ IsEx w p vp
  | .two o p q, v => ∃ sa cap vp vq, v = ⟨Ex.ok o, 0, 0, 0, 0, 0, sa, 2, cap⟩ ∧ SlF exL 7 w sa 2 cap [vp, vq] ∧ IsEx w p vp ∧ IsEx w q vq
  | .three o p q r, v => ∃ sa cap vp vq vr, v = ⟨Ex.ok o, 0, 0, 0, 0, 0, sa, 3, cap⟩ ∧ SlF exL 7 w sa 3 cap [vp, vq, vr] ∧ IsEx w p vp ∧ IsEx w q vq ∧ IsEx w r vr
theorem IsEx.below {w w' : World} (hb : Below w.heap.size w w') : ∀ {x : Ex} {v : ExV}, IsEx w x v → IsEx w' x v
  | .inn .., v, h => h
  | .hv _, v, h => h
  | .not p, v, h => by
    obtain ⟨sa, cap, vp, h1, h2, h3⟩ := h
    exact ⟨sa, cap, vp, h1, h2.below hb, IsEx.below hb h3⟩
  | .two o p q, v, h => by
    obtain ⟨sa, cap, vp, vq, h1, h2, h3, h4⟩ := h
    exact ⟨sa, cap, vp, vq, h1, h2.below hb, IsEx.below hb h3, IsEx.below hb h4⟩
  | .three o p q r, v, h => by
    obtain ⟨sa, cap, vp, vq, vr, h1, h2, h3, h4, h5⟩ := h
    exact ⟨sa, cap, vp, vq, vr, h1, h2.below hb, IsEx.below hb h3, IsEx.below hb h4, IsEx.below hb h5⟩
theorem slF_nil (w : World) : SlF exL 7 w none 0 0 [] := ⟨rfl, Nat.le_refl _, Nat.zero_le _, fun _ => rfl, fun i hi => absurd hi (by simp [flat])⟩
theorem IsEx.view {w : World} {x : Ex} {v : ExV} (h : IsEx w x v) : ∃ vs : List ExV, v = ⟨x.kind, x.rx0, x.ry0, x.rx1, x.ry1, x.wt, v.sa, x.parts.length, v.cap⟩ ∧ SlF exL 7 w v.sa x.parts.length v.cap vs ∧ vs.length = x.parts.length ∧ ∀ i (hi : i < x.parts.length), IsEx w x.parts[i] (vs.getD i ev0) := by
  cases x with
  | inn a b c d => obtain rfl := h; exact ⟨[], rfl, slF_nil w, rfl, fun i hi => absurd hi (by simp [Ex.parts])⟩
  | hv y => obtain rfl := h; exact ⟨[], rfl, slF_nil w, rfl, fun i hi => absurd hi (by simp [Ex.parts])⟩
  | not p =>
    obtain ⟨sa, cap, vp, rfl, h2, h3⟩ := h
    refine ⟨[vp], rfl, h2, rfl, fun i hi => ?_⟩
    obtain rfl : i = 0 := by simp [Ex.parts] at hi; omega
    exact h3
  | two o p q =>
    obtain ⟨sa, cap, vp, vq, rfl, h2, h3, h4⟩ := h
    refine ⟨[vp, vq], rfl, h2, rfl, fun i hi => ?_⟩
    rcases (show i = 0 ∨ i = 1 by simp [Ex.parts] at hi; omega) with rfl | rfl
    · exact h3
    · exact h4
  | three o p q r =>
    obtain ⟨sa, cap, vp, vq, vr, rfl, h2, h3, h4, h5⟩ := h
    refine ⟨[vp, vq, vr], rfl, h2, rfl, fun i hi => ?_⟩
    rcases (show i = 0 ∨ i = 1 ∨ i = 2 by simp [Ex.parts] at hi; omega) with rfl | rfl | rfl
    · exact h3
    · exact h4
    · exact h5

end Go.Proofs.YteeeikninigeoaaGreatDoor

/- Plain facts on the law's own Numbers, and on Picked. -/
namespace Go.Proofs.YteeeikninigeoaaGreatDoor
set_option linter.unusedVariables false
open Go.RowKit

def nums (l : List Int) (n : Nat) (bound : Int) : List Int := (l.take n).map fun x => pick x bound
theorem nums_length (l : List Int) (n : Nat) (bound : Int) : (nums l n bound).length = min n l.length := by simp [nums]
theorem nums_bd (l : List Int) (n : Nat) (bound : Int) (h : 0 < bound) : ∀ x ∈ nums l n bound, 0 ≤ x ∧ x < bound := by
  intro x hx
  obtain ⟨y, _, rfl⟩ := List.mem_map.1 hx
  exact pick_bd y bound h
theorem nums_succ (l : List Int) (k : Nat) (bound : Int) (h : k < l.length) : nums l (k + 1) bound = nums l k bound ++ [pick l[k] bound] := by
  rw [nums, List.take_succ_eq_append_getElem h, List.map_append]; rfl

theorem nat_list (l : List Int) (h : ∀ x ∈ l, 0 ≤ x) : l = (l.map Int.toNat).map Int.ofNat := by
  rw [List.map_map]
  conv => lhs; rw [← List.map_id l]
  apply List.map_congr_left
  intro x hx
  have := h x hx
  show x = ((x.toNat : Nat) : Int)
  omega

/-- What Numbers gives, as naturals. -/
theorem nums_nat (l : List Int) (n : Nat) (bound : Int) (h : 0 < bound) : ∃ L : List Nat, nums l n bound = L.map Int.ofNat ∧ L.length = (nums l n bound).length ∧ ∀ i, i < L.length → ((L.getD i 0 : Nat) : Int) < bound := by
  refine ⟨(nums l n bound).map Int.toNat, nat_list _ (fun x hx => (nums_bd l n bound h x hx).1), List.length_map _, fun i hi => ?_⟩
  rw [List.length_map] at hi
  have h1 := nums_bd l n bound h _ (List.getElem_mem hi)
  simp only [List.getD, List.getElem?_map, List.getElem?_eq_getElem hi, Option.map_some, Option.getD_some]
  omega

theorem pick_nat (a : Int) (n : Int) (h : 0 < n) : ∃ q : Nat, pick a n = q ∧ (q : Int) < n := by
  have := pick_bd a n h
  exact ⟨(pick a n).toNat, (Int.toNat_of_nonneg this.1).symm, by omega⟩

end Go.Proofs.YteeeikninigeoaaGreatDoor

