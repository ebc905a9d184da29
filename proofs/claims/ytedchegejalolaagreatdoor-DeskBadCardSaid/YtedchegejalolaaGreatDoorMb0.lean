import Derived.Test.YtedchegejalolaaGreatDoorRows
import Derived.WalkKit
import Derived.ProofKit
import Derived.WalkSpells
import Derived.WalkLawsBesides
import Derived.Deep.QuietTactic
import Derived.BigQuiet
import Derived.Outline
import Derived.Lib.Hide
import Derived.Laws.AppendOwnNone
import Derived.Deep.RegionHeld3
import Derived.Deep.AppendLies
import Derived.Deep.RegionLaw
import Derived.Deep.LoopGhost
import Derived.Deep.DeepCutAuto
import Derived.Deep.DeepMust
import Derived.Lib.ItoaNum
import Derived.Lib.ItoaMem
/- Lemmas on memory for the walks of this seat: slices that are read, rows that a call owns, worlds that are kept below a block number. -/
namespace Go.Proofs.YtedchegejalolaaGreatDoor
set_option linter.unusedVariables false
open Go.RowKit

/-- A fact that is put away: neither the walk's rules nor 'contradiction' look inside. -/
structure Kp (p : Prop) : Prop where
  out : p

theorem getD_at {α : Type _} (l : List α) (d : α) {i : Nat} (h : i < l.length) : l.getD i d = l[i] := by simp [List.getD, h]

/-- A call that draws nothing, inside a region that draws. -/
theorem q_same {P : Program} {f : FuncId} {args : Array Value} {w : World} {n : Nat} {v : Value}
    (h : Calls P f args (w.drewN n) fun e w' => e = .returned v ∧ w.drewN n = w') : Calls P f args (w.drewN n) fun e w'' => e = .returned v ∧ ∃ m, w'' = w.drewN m :=
  h.mono fun _ _ ⟨he, hm⟩ => ⟨he, n, hm.symm⟩
/-- The world has drawn, no more. -/
def Drew (w w' : World) : Prop := ∃ n, w' = w.drewN n
theorem Drew.refl (w : World) : Drew w w := ⟨0, rfl⟩
theorem Drew.more {w w' : World} (h : Drew w w') (n : Nat) : Drew w (w'.drewN n) := by obtain ⟨m, rfl⟩ := h; exact ⟨m + n, World.drewN_drewN ..⟩
theorem Drew.trans {w w' w'' : World} (h : Drew w w') (h' : Drew w' w'') : Drew w w'' := by obtain ⟨m, rfl⟩ := h'; exact h.more m
theorem Drew.cell {w w' : World} (h : Drew w w') (a : Addr) : w'.cell? a = w.cell? a := by obtain ⟨n, rfl⟩ := h; rfl
theorem Drew.below {w w' : World} (h : Drew w w') (B : Nat) : Below B w w' := by obtain ⟨n, rfl⟩ := h; exact ⟨rfl, rfl, rfl, Nat.le_refl _, fun _ _ => rfl⟩
theorem add_none (b off i : Nat) : (⟨b, off, none⟩ : Addr).add i = ⟨b, off + i, none⟩ := by unfold Addr.add; split <;> simp_all

theorem size_setCell (w : World) (a : Addr) (v : Value) : (w.setCell a v).heap.size = w.heap.size := by simp [World.setCell]

/-- What is known of an element type: the slice type t, the element type e, its cells and bytes, its zero. -/
structure ElemTy (P : Program) (t e : TypeId) (size bytes : Nat) (z : Value) : Prop where
  und : P.underlying t = some (.slice e)
  info : ∃ i, P.info? e = some i ∧ i.zero = some z ∧ i.size = size ∧ i.bytes = bytes
  zs : z.cells.size = size
  pos : 0 < size

/-- A slice that reads as the cells cs (len elements of 'size' cells each). -/
structure SlC (w : World) (a : Option Addr) (len cap size : Nat) (cs : List Value) : Prop where
  hlen : cs.length = len * size
  le : len ≤ cap
  capm : cap ≤ maxLen
  nil : a = none → cap = 0
  cell : ∀ i (h : i < cs.length), ∃ b off, a = some ⟨b, off, none⟩ ∧ w.cell? ⟨b, off + i, none⟩ = some cs[i]

theorem SlC.below {w w' : World} {a : Option Addr} {len cap size : Nat} {cs : List Value} (h : SlC w a len cap size cs) (hb : Below w.heap.size w w') : SlC w' a len cap size cs :=
  ⟨h.hlen, h.le, h.capm, h.nil, fun i hi => by
    obtain ⟨b, off, ha, hc⟩ := h.cell i hi
    refine ⟨b, off, ha, ?_⟩
    rw [hb.cell (p := ⟨b, off + i, none⟩) (World.block_lt_of_cell? w _ hc)]
    exact hc⟩

theorem own_below {w w' : World} {B e size n : Nat} {v : Value} {xs : List Value} (h : w.ownsRow B e size v n xs) (hb : Below w.heap.size w w') : w'.ownsRow B e size v n xs := by
  refine ⟨h.1, ?_⟩
  rcases h.2 with h | ⟨g, cap, cur, hv, hB, hg, h1, h2, h3, h4⟩
  · exact .inl h
  · exact .inr ⟨g, cap, cur, hv, hB, by rw [hb.block g (Array.getElem?_eq_some_iff.1 hg).1]; exact hg, h1, h2, h3, h4⟩

/-- A row that is owned from B' on is owned from every smaller number on. -/
theorem own_base {w : World} {B B' e size n : Nat} {v : Value} {xs : List Value} (h : w.ownsRow B' e size v n xs) (hB : B ≤ B') : w.ownsRow B e size v n xs := by
  refine ⟨h.1, ?_⟩
  rcases h.2 with h | ⟨g, cap, cur, hv, hb, hg, h1, h2, h3, h4⟩
  · exact .inl h
  · exact .inr ⟨g, cap, cur, hv, Nat.le_trans hB hb, hg, h1, h2, h3, h4⟩

theorem own_slc {w : World} {B e size n c : Nat} {a : Option Addr} {xs : List Value} (h : w.ownsRow B e size (.slice a n c) n xs) : SlC w a n c size xs := by
  rcases h.2 with ⟨hv, hn⟩ | ⟨g, cap, cur, hv, hB, hg, h1, h2, h3, h4⟩
  · simp only [Value.slice.injEq] at hv
    obtain ⟨rfl, rfl, rfl⟩ := hv
    exact ⟨h.1, Nat.le_refl _, Nat.zero_le _, fun _ => rfl, fun i hi => by rw [h.1] at hi; omega⟩
  · simp only [Value.slice.injEq, true_and] at hv
    obtain ⟨rfl, rfl⟩ := hv
    refine ⟨h.1, h1, h2, (fun h => by cases h), fun i hi => ⟨g, 0, rfl, ?_⟩⟩
    rw [Nat.zero_add, h.cellAt i (by rw [← h.1]; exact hi)]
    simp

/-- An owned row that is not empty lies in a block of its own. -/
theorem own_some {w : World} {B e size n c : Nat} {a : Option Addr} {xs : List Value} (h : w.ownsRow B e size (.slice a n c) n xs) (hn : 0 < n) : ∃ g, a = some ⟨g, 0, none⟩ ∧ B ≤ g ∧ g < w.heap.size := by
  rcases h.2 with ⟨_, h⟩ | ⟨g, cap, cur, hv, hB, hg, _⟩
  · omega
  · simp only [Value.slice.injEq, true_and] at hv
    exact ⟨g, hv.1, hB, (Array.getElem?_eq_some_iff.1 hg).1⟩

theorem grown_below {B : Nat} {w w' : World} {row : Option Nat} (hg : w.grownBy w' row) (hB : B ≤ w.heap.size) (hr : ∀ k, row = some k → B ≤ k) : Below B w w' :=
  (Below.refl B w).grown hg hB hr

theorem below_alloc {B : Nat} {w : World} (hB : B ≤ w.heap.size) (o : Obj) : Below B w (w.alloc o) := (Below.refl B w).alloc hB o

theorem cells_new (w : World) (cs : Array Value) (e : TypeId) : ∀ j u, cs.toList[j]? = some u → (w.alloc (.cells cs e)).cell? ((⟨w.heap.size, 0, none⟩ : Addr).add j) = some u := by
  intro j u hu
  have hadd : (⟨w.heap.size, 0, none⟩ : Addr).add j = ⟨w.heap.size, j, none⟩ := by unfold Addr.add; split <;> simp_all
  rw [hadd, cell_of_row (w.alloc (.cells cs e)) w.heap.size j cs e (0, 0) (heap_alloc_new w _)]
  simpa using hu

/-- 'append(s, x..)', the new elements in a block that was just made. -/
theorem wpList_push {P : Program} {t e : TypeId} {size bytes : Nat} {z : Value} (T : ElemTy P t e size bytes z)
    {ops : Array Oper} {rest : List Oper} {o : Oper} {a : Act} {Q : Exit → Act → World → Prop} {w : World} (hgd : o.guard = none) (s x : Operand)
    (ho : o.op = .call { callee := .builtin .append, args := #[s, x], argTypes := #[t, t] })
    (B : Nat) (sa : Option Addr) (n cap : Nat) (xs : List Value) (hs : a.eval s = .slice sa n cap) (hown : w.ownsRow B e size (.slice sa n cap) n xs)
    (m c : Nat) (cs : Array Value) (hx : a.eval x = .slice (some ⟨w.heap.size, 0, none⟩) m c) (hl : cs.size = m * size) (h1 : ∀ u ∈ cs.toList, u.oneCell' = true)
    (hm : 0 < m) (hbytes : (n + m) * bytes ≤ 140737488355328) (hbp : 0 < bytes) (hB : B ≤ w.heap.size)
    (h : ∀ sa' cap' w', w'.ownsRow B e size (.slice sa' (n + m) cap') (n + m) (xs ++ cs.toList) → Below B w w' → wpList P ops Q rest (a.put o.dst (.slice sa' (n + m) cap')) w') :
    wpList P ops Q (o :: rest) a (w.alloc (.cells cs e)) := by
  obtain ⟨i, hi, hz, hsz, hby⟩ := T.info
  have hnm : n + m ≤ maxLen := by
    have : n + m ≤ (n + m) * bytes := Nat.le_mul_of_pos_right _ hbp
    simp only [maxLen]; omega
  refine wpList_append_own hgd (w := w.alloc (.cells cs e)) s x t ho B e i z size bytes T.und hi hz hsz hby T.zs T.pos _ n xs hs (hown.alloc _) ⟨w.heap.size, 0, none⟩ m c cs.toList hx (by simpa using hl) (cells_new w cs e) h1 hnm hbytes (by simp; omega) ?_
  intro v' w' hown' hgrow hnil
  have hv : ∃ sa' cap', v' = .slice sa' (n + m) cap' := by
    rcases hown'.2 with ⟨h, h0⟩ | ⟨g, cap, cur, hv, _⟩
    · omega
    · exact ⟨_, _, hv⟩
  obtain ⟨sa', cap', rfl⟩ := hv
  refine h sa' cap' w' hown' ((below_alloc hB _).trans (grown_below hgrow (by simp; omega) ?_))
  intro k hk
  exact ((hown.alloc (.cells cs e)).lt k hk).1

/-- 'make([]T, n)', n elements; the two operands hold the length. -/
theorem wpList_mk {P : Program} {t e : TypeId} {size bytes : Nat} {z : Value} (T : ElemTy P t e size bytes z)
    {ops : Array Oper} {rest : List Oper} {o : Oper} {a : Act} {Q : Exit → Act → World → Prop} {w : World} (hgd : o.guard = none) (l c : Operand) (ho : o.op = Op.makeSlice t l c)
    (B : Nat) (n : Nat) (hl : a.eval l = .int .i64 n) (hc : a.eval c = .int .i64 n) (hbytes : bytes * n ≤ 281474976710656) (hbp : 0 < bytes) (hB : B ≤ w.heap.size)
    (h : ∀ sa cap w', w'.ownsRow B e size (.slice sa n cap) n (madeCells z.cells (n * size)).toList → Below B w w' → wpList P ops Q rest (a.put o.dst (.slice sa n cap)) w') :
    wpList P ops Q (o :: rest) a w := by
  obtain ⟨i, hi, hz, hsz, hby⟩ := T.info
  have hnm : n ≤ maxLen := by
    have : n ≤ bytes * n := Nat.le_mul_of_pos_left _ hbp
    simp only [maxLen]; omega
  refine wpList_make_full w hgd l c t ho B e i z size T.und hi hz hsz .i64 .i64 n n n hl hc rfl rfl (by rw [hby]; exact hbytes) hnm hB ?_
  intro w' hown hg
  exact h _ _ _ hown (grown_below hg hB (fun k hk => by cases hk))

theorem SlC.news {w : World} {ad : Addr} {len cap size : Nat} {cs : List Value} (h : SlC w (some ad) len cap size cs) : ∀ j u, cs[j]? = some u → w.cell? (ad.add j) = some u := by
  intro j u hu
  obtain ⟨hj, rfl⟩ := List.getElem?_eq_some_iff.1 hu
  obtain ⟨b, off, ha, hc⟩ := h.cell j hj
  simp only [Option.some.injEq] at ha
  subst ha
  have hadd : (⟨b, off, none⟩ : Addr).add j = ⟨b, off + j, none⟩ := by unfold Addr.add; split <;> simp_all
  rw [hadd, hc]

/-- 'append(s, x...)': s is nil or the call's own; x reads as cs. -/
theorem wpList_cat {P : Program} {t e : TypeId} {size bytes : Nat} {z : Value} (T : ElemTy P t e size bytes z)
    {ops : Array Oper} {rest : List Oper} {o : Oper} {a : Act} {Q : Exit → Act → World → Prop} {w : World} (hgd : o.guard = none) (s x : Operand)
    (ho : o.op = .call { callee := .builtin .append, args := #[s, x], argTypes := #[t, t] })
    (B : Nat) (sa : Option Addr) (n cap : Nat) (xs : List Value) (hs : a.eval s = .slice sa n cap) (hown : w.ownsRow B e size (.slice sa n cap) n xs)
    (xa : Option Addr) (m c : Nat) (cs : List Value) (hx : a.eval x = .slice xa m c) (hsl : SlC w xa m c size cs) (h1 : ∀ u ∈ cs, u.oneCell' = true)
    (hbytes : (n + m) * bytes ≤ 140737488355328) (hbp : 0 < bytes) (hB : B ≤ w.heap.size)
    (h : ∀ sa' cap' w', w'.ownsRow B e size (.slice sa' (n + m) cap') (n + m) (xs ++ cs) → Below B w w' → wpList P ops Q rest (a.put o.dst (.slice sa' (n + m) cap')) w') :
    wpList P ops Q (o :: rest) a w := by
  obtain ⟨i, hi, hz, hsz, hby⟩ := T.info
  have hnm : n + m ≤ maxLen := by
    have : n + m ≤ (n + m) * bytes := Nat.le_mul_of_pos_right _ hbp
    simp only [maxLen]; omega
  cases xa with
  | none =>
    have hc0 := hsl.nil rfl
    have hm0 : m = 0 := by have := hsl.le; omega
    subst hc0; subst hm0
    have hcs : cs = [] := List.length_eq_zero_iff.1 (by rw [hsl.hlen]; omega)
    subst hcs
    refine wpList_append_own_none hgd (w := w) s x t ho B e i size T.und hi _ n xs hs hown hx ?_
    have := h sa cap w (by simpa using hown) (Below.refl _ _)
    simpa using this
  | some ad =>
    refine wpList_append_own hgd (w := w) s x t ho B e i z size bytes T.und hi hz hsz hby T.zs T.pos _ n xs hs hown ad m c cs hx hsl.hlen hsl.news h1 hnm hbytes hB ?_
    intro v' w' hown' hgrow hnil
    have hv : ∃ sa' cap', v' = .slice sa' (n + m) cap' := by
      rcases hown'.2 with ⟨h, h0⟩ | ⟨g, cap, cur, hv, _⟩
      · exact ⟨none, 0, by rw [h, h0]⟩
      · exact ⟨_, _, hv⟩
    obtain ⟨sa', cap', rfl⟩ := hv
    exact h sa' cap' w' hown' (grown_below hgrow hB (fun k hk => (hown.lt k hk).1))

/-- The same where an element is one cell. -/
theorem wpList_mk1 {P : Program} {t e : TypeId} {bytes : Nat} {z z1 : Value} (T : ElemTy P t e 1 bytes z) (hz1 : z.cells = #[z1])
    {ops : Array Oper} {rest : List Oper} {o : Oper} {a : Act} {Q : Exit → Act → World → Prop} {w : World} (hgd : o.guard = none) (l c : Operand) (ho : o.op = Op.makeSlice t l c)
    (B : Nat) (n : Nat) (hl : a.eval l = .int .i64 n) (hc : a.eval c = .int .i64 n) (hbytes : bytes * n ≤ 281474976710656) (hbp : 0 < bytes) (hB : B ≤ w.heap.size)
    (h : ∀ sa cap w', w'.ownsRow B e 1 (.slice sa n cap) n (List.replicate n z1) → Below B w w' → wpList P ops Q rest (a.put o.dst (.slice sa n cap)) w') :
    wpList P ops Q (o :: rest) a w := by
  refine wpList_mk T hgd l c ho B n hl hc hbytes hbp hB ?_
  intro sa cap w' hown hbel
  rw [hz1, toList_madeCells_one, Nat.mul_one] at hown
  exact h sa cap w' hown hbel

/-- The block of a slice. -/
def blk (a : Option Addr) : Option Nat := a.map (·.block)
theorem ownBlock_blk (a : Option Addr) (n c : Nat) : (Value.slice a n c).ownBlock = blk a := by cases a <;> rfl

theorem grown_trans {a b c : World} {r : Option Nat} (h : a.grownBy b r) (k : b.grownBy c r) : a.grownBy c r :=
  ⟨k.os.trans h.os, k.tape.trans h.tape, k.output.trans h.output, Nat.le_trans h.size k.size, fun i hi hr => (k.block i (Nat.lt_of_lt_of_le hi h.size) hr).trans (h.block i hi hr)⟩
theorem grown_weak {a b : World} {r : Option Nat} (h : a.grownBy b none) : a.grownBy b r := ⟨h.os, h.tape, h.output, h.size, fun i hi _ => h.block i hi (by simp)⟩
theorem grown_refl (a : World) (r : Option Nat) : a.grownBy a r := ⟨rfl, rfl, rfl, Nat.le_refl _, fun _ _ _ => rfl⟩
theorem grown_set (w : World) (g o : Nat) (u : Value) : w.grownBy (w.setCell ⟨g, o, none⟩ u) (some g) :=
  ⟨rfl, rfl, rfl, by simp, fun k _ hk => heap_setCell_other w ⟨g, o, none⟩ k u (fun e => hk (by simp [e]))⟩
theorem grown_of_below {a b : World} {r : Option Nat} (h : Below a.heap.size a b) : a.grownBy b r := ⟨h.os, h.tape, h.output, h.size, fun i hi _ => h.block i hi⟩
theorem grown_drew {a b : World} {r : Option Nat} (h : a.grownBy b r) : a.grownBy b.drew r := ⟨h.os, h.tape, h.output, h.size, h.block⟩

theorem SlC.lt {w : World} {a : Option Addr} {len cap size : Nat} {cs : List Value} (h : SlC w a len cap size cs) (hp : 0 < cs.length) : ∃ k, blk a = some k ∧ k < w.heap.size := by
  obtain ⟨b, off, ha, hc⟩ := h.cell 0 hp
  exact ⟨b, by simp [ha, blk], World.block_lt_of_cell? w _ hc⟩
theorem SlC.keep {w w' : World} {a : Option Addr} {len cap size : Nat} {cs : List Value} {b : Option Nat} (h : SlC w a len cap size cs) (hg : w.grownBy w' b) (hne : ∀ k, b = some k → blk a ≠ some k) : SlC w' a len cap size cs :=
  ⟨h.hlen, h.le, h.capm, h.nil, fun i hi => by
    obtain ⟨b', off, ha, hc⟩ := h.cell i hi
    refine ⟨b', off, ha, hg.cell hc ?_⟩
    intro e
    exact hne b' e.symm (by simp [ha, blk])⟩
theorem own_keep {w w' : World} {B e size n m c : Nat} {a : Option Addr} {xs : List Value} {b : Option Nat} (h : w.ownsRow B e size (.slice a m c) n xs) (hg : w.grownBy w' b) (hne : ∀ k, b = some k → blk a ≠ some k) : w'.ownsRow B e size (.slice a m c) n xs := by
  refine h.kept hg ?_
  rw [ownBlock_blk]
  cases hb : blk a with
  | none => exact .inl rfl
  | some k => exact .inr (fun e => hne k e.symm hb)

/-- Where a row lies behind an append: where it lay, or in a new block. -/
def NewOr (w : World) (a a' : Option Addr) : Prop := blk a' = blk a ∨ ∃ g, blk a' = some g ∧ w.heap.size ≤ g

/-- 'append(s, x...)', x reads as cs (not nil): with all that is kept. -/
theorem wpList_catS {P : Program} {t e : TypeId} {size bytes : Nat} {z : Value} (T : ElemTy P t e size bytes z)
    {ops : Array Oper} {rest : List Oper} {o : Oper} {a : Act} {Q : Exit → Act → World → Prop} {w : World} (hgd : o.guard = none) (s x : Operand)
    (ho : o.op = .call { callee := .builtin .append, args := #[s, x], argTypes := #[t, t] })
    (B : Nat) (sa : Option Addr) (n cap : Nat) (xs : List Value) (hs : a.eval s = .slice sa n cap) (hown : w.ownsRow B e size (.slice sa n cap) n xs)
    (xa : Option Addr) (m c : Nat) (cs : List Value) (hx : a.eval x = .slice xa m c) (hsl : SlC w xa m c size cs) (h1 : ∀ u ∈ cs, u.oneCell' = true)
    (hbytes : (n + m) * bytes ≤ 140737488355328) (hbp : 0 < bytes) (hB : B ≤ w.heap.size)
    (h : ∀ sa' cap' w', w'.ownsRow B e size (.slice sa' (n + m) cap') (n + m) (xs ++ cs) → w.grownBy w' (blk sa) → NewOr w sa sa' → wpList P ops Q rest (a.put o.dst (.slice sa' (n + m) cap')) w') :
    wpList P ops Q (o :: rest) a w := by
  obtain ⟨i, hi, hz, hsz, hby⟩ := T.info
  have hnm : n + m ≤ maxLen := by
    have : n + m ≤ (n + m) * bytes := Nat.le_mul_of_pos_right _ hbp
    simp only [maxLen]; omega
  cases xa with
  | none =>
    have hc0 := hsl.nil rfl
    have hm0 : m = 0 := by have := hsl.le; omega
    subst hc0; subst hm0
    have hcs : cs = [] := List.length_eq_zero_iff.1 (by rw [hsl.hlen]; omega)
    subst hcs
    refine wpList_append_own_none hgd (w := w) s x t ho B e i size T.und hi _ n xs hs hown hx ?_
    have := h sa cap w (by simpa using hown) (grown_refl _ _) (.inl rfl)
    simpa using this
  | some ad =>
    by_cases hroom : cap < n + m
    · have hsl2 := own_slc hown
      refine wpList_append_grows w hgd s x t ho e i z size bytes T.und hi hz hsz hby T.zs T.pos sa n cap xs hs (fun h => by have := hsl2.nil h; have := hsl2.le; omega) hown.1 ?_ ad m c cs hx hsl.hlen hsl.news h1 hroom hnm hbytes ?_
      · intro b hb
        subst hb
        exact hsl2.news
      · intro v' w' hown' hg
        have hv : ∃ sa' cap', v' = .slice sa' (n + m) cap' ∧ NewOr w sa sa' := by
          rcases hown'.2 with ⟨h, h0⟩ | ⟨g, cap, cur, hv, hgs, _⟩
          · omega
          · exact ⟨_, _, hv, .inr ⟨g, rfl, hgs⟩⟩
        obtain ⟨sa', cap', rfl, hno⟩ := hv
        exact h sa' cap' w' (own_base hown' hB) (grown_weak hg) hno
    · rcases hown.2 with ⟨hv, hn⟩ | ⟨g, cap2, cur, hv, _⟩
      · simp only [Value.slice.injEq] at hv
        obtain ⟨rfl, rfl, rfl⟩ := hv
        have hm0 : m = 0 := by omega
        subst hm0
        have hcs : cs = [] := List.length_eq_zero_iff.1 (by rw [hsl.hlen]; omega)
        subst hcs
        refine wpList_append_own hgd (w := w) s x t ho B e i z size bytes T.und hi hz hsz hby T.zs T.pos _ _ xs hs hown ad 0 c [] hx (by simp) (by simp) (by simp) hnm hbytes hB ?_
        intro v' w' hown' hgrow hnil
        have hv := hnil.2 ⟨rfl, rfl⟩
        subst hv
        exact h none 0 w' (by simpa using hown') hgrow (.inl rfl)
      · simp only [Value.slice.injEq, true_and] at hv
        obtain ⟨rfl, rfl⟩ := hv
        refine wpList_append_fits w hgd s x t ho B e i size T.und hi hsz g n cap xs hs hown ad m c cs hx hsl.hlen hsl.news h1 (by omega) ?_
        intro w' hown' hg
        exact h _ _ w' hown' hg (.inl rfl)

theorem grownBy_of_alloc {w w' : World} {o : Obj} {b : Option Nat} (h : (w.alloc o).grownBy w' b) : w.grownBy w' b :=
  grown_trans (World.grownBy_alloc w o b) h

/-- 'append(s, x..)', the new elements in a block that was just made: with all that is kept. -/
theorem wpList_pushS {P : Program} {t e : TypeId} {size bytes : Nat} {z : Value} (T : ElemTy P t e size bytes z)
    {ops : Array Oper} {rest : List Oper} {o : Oper} {a : Act} {Q : Exit → Act → World → Prop} {w : World} (hgd : o.guard = none) (s x : Operand)
    (ho : o.op = .call { callee := .builtin .append, args := #[s, x], argTypes := #[t, t] })
    (B : Nat) (sa : Option Addr) (n cap : Nat) (xs : List Value) (hs : a.eval s = .slice sa n cap) (hown : w.ownsRow B e size (.slice sa n cap) n xs)
    (m : Nat) (cs : Array Value) (hx : a.eval x = .slice (some ⟨w.heap.size, 0, none⟩) m m) (hl : cs.size = m * size) (h1 : ∀ u ∈ cs.toList, u.oneCell' = true)
    (hbytes : (n + m) * bytes ≤ 140737488355328) (hbp : 0 < bytes) (hB : B ≤ w.heap.size)
    (h : ∀ sa' cap' w', w'.ownsRow B e size (.slice sa' (n + m) cap') (n + m) (xs ++ cs.toList) → w.grownBy w' (blk sa) → NewOr w sa sa' → wpList P ops Q rest (a.put o.dst (.slice sa' (n + m) cap')) w') :
    wpList P ops Q (o :: rest) a (w.alloc (.cells cs e)) := by
  have hm : m ≤ maxLen := by
    have : n + m ≤ (n + m) * bytes := Nat.le_mul_of_pos_right _ hbp
    simp only [maxLen]; omega
  refine wpList_catS T hgd s x ho B sa n cap xs hs (hown.alloc _) _ m m cs.toList hx (own_slc (World.ownsRow_lit (base := 0) w cs m (Nat.zero_le _) hm hl)) h1 hbytes hbp (by simp; omega) ?_
  intro sa' cap' w' hown' hg hno
  refine h sa' cap' w' hown' (grownBy_of_alloc hg) ?_
  rcases hno with hno | ⟨g, h1, h2⟩
  · exact .inl hno
  · exact .inr ⟨g, h1, by simp at h2; omega⟩

theorem own_lt {w : World} {B e size n m c : Nat} {a : Option Addr} {xs : List Value} (h : w.ownsRow B e size (.slice a m c) n xs) : ∀ k, blk a = some k → B ≤ k ∧ k < w.heap.size := by
  intro k hk
  exact h.lt k (by rw [ownBlock_blk]; exact hk)
theorem below_of_grown {B : Nat} {w w' : World} {b : Option Nat} (hg : w.grownBy w' b) (hB : B ≤ w.heap.size) (hb : ∀ k, b = some k → B ≤ k) : Below B w w' := grown_below hg hB hb

/-- 'append(s, x..)' inside a region that draws: the new elements lie in a block that is known whole. -/
theorem step_push {P : Program} {t e : TypeId} {size bytes : Nat} {z : Value} (T : ElemTy P t e size bytes z)
    {ops : Array Oper} {o : Oper} {a : Act} {K : Act → World → Prop} {Q : Exit → Act → World → Prop} {E : Prop} {W : World} (hgd : o.guard = none) (s x : Operand)
    (ho : o.op = .call { callee := .builtin .append, args := #[s, x], argTypes := #[t, t] })
    (B : Nat) (sa : Option Addr) (n cap : Nat) (xs : List Value) (hs : a.eval s = .slice sa n cap) (hown : W.ownsRow B e size (.slice sa n cap) n xs)
    (m H : Nat) (cs : Array Value) (hH : W.heap[H]? = some (.cells cs e (0, 0))) (hx : a.eval x = .slice (some ⟨H, 0, none⟩) m m) (hl : cs.size = m * size) (h1 : ∀ u ∈ cs.toList, u.oneCell' = true)
    (hm : 0 < m) (hbytes : (n + m) * bytes ≤ 140737488355328) (hbp : 0 < bytes) (hB : B ≤ W.heap.size)
    (h : ∀ sa' cap' w', w'.ownsRow B e size (.slice sa' (n + m) cap') (n + m) (xs ++ cs.toList) → W.grownBy w' (blk sa) → NewOr W sa sa' → K (a.put o.dst (.slice sa' (n + m) cap')) w') :
    if Region.wanted o (yielded ops a.tmps) = true then Oper.wp P o a W K Q else E := by
  obtain ⟨i, hi, hz, hsz, hby⟩ := T.info
  have hnm : n + m ≤ maxLen := by
    have : n + m ≤ (n + m) * bytes := Nat.le_mul_of_pos_right _ hbp
    simp only [maxLen]; omega
  have hnews : ∀ j u, cs.toList[j]? = some u → W.cell? ((⟨H, 0, none⟩ : Addr).add j) = some u := by
    intro j u hu
    rw [add_none, Nat.zero_add, cell_of_row W H j cs e (0, 0) hH]
    simpa using hu
  refine step_append_lies W hgd s x t ho B e i z size bytes T.und hi hz hsz hby T.zs T.pos _ n xs hs hown ⟨H, 0, none⟩ m m cs.toList hx (by simpa using hl) hnews h1 hm hnm hbytes hB W.heap.size rfl ?_
  intro g cap' w' hown' hgrow hat hlt
  rw [ownBlock_blk] at hgrow hat
  refine h (some ⟨g, 0, none⟩) cap' w' hown' hgrow ?_
  rcases hat with e | e
  · exact .inl (by rw [e]; rfl)
  · exact .inr ⟨g, rfl, by omega⟩

/-- A call that leaves the world as it was, in the class of that world alone. -/
theorem q_eq {P : Program} {f : FuncId} {args : Array Value} {w : World} {v : Value} (h : Calls P f args w fun e w' => e = .returned v ∧ w = w') : Calls P f args w fun e w'' => e = .returned v ∧ w'' = w :=
  h.mono fun _ _ ⟨he, hm⟩ => ⟨he, hm.symm⟩
/-- A world that comes later: what was there at w0 is kept. -/
structure Later (w0 : World) where
  val : World
  le : Below w0.heap.size w0 val
instance (w0 : World) : Nonempty (Later w0) := ⟨⟨w0, Below.refl _ _⟩⟩
/-- A call that makes memory and hands back a plain value, inside a region that draws. -/
theorem q_later {P : Program} {f : FuncId} {args : Array Value} {w0 : World} {x : Later w0} {v : Value}
    (h : Calls P f args x.val fun e w' => e = .returned v ∧ Below x.val.heap.size x.val w') : Calls P f args x.val fun e w'' => e = .returned v ∧ ∃ x' : Later w0, w'' = x'.val :=
  h.mono fun _ w' ⟨he, hb⟩ => ⟨he, ⟨w', x.le.trans (hb.mono x.le.size)⟩, rfl⟩
/-- A region that draws, its operations quiet in every later world. -/
theorem region_later {P : Program} {id : Nat} {Q : Exit → Act → World → Prop} {a : Act} {w : World} {l : List Oper} (hm : P.follows .mixedOrders = true) (hB : Region.lexB .any l.toArray = true)
    (h : wpQuiet P l.toArray (fun w' => ∃ x : Later w, w' = x.val) (fun a' => ∀ w', (∃ x : Later w, w' = x.val) → Q .normal a' w') l a) : (Code.region id l.toArray true).wp P Q a w :=
  wp_region_quiet (C := fun w' => ∃ x : Later w, w' = x.val) hm hB ⟨⟨w.drew, (Below.refl _ _).drew⟩, rfl⟩ (by simpa using h)

theorem later_cell {w : World} {b o : Nat} {v : Value} (h : w.cell? ⟨b, o, none⟩ = some v) : ∀ x : Later w, x.val.cell? ⟨b, o, none⟩ = some v := fun x => by
  rw [x.le.cell (p := ⟨b, o, none⟩) (World.block_lt_of_cell? w _ h)]; exact h

/-- A block known whole. -/
def Box (w : World) (b : Nat) (cs : Array Value) (t : TypeId) : Prop := w.heap[b]? = some (.cells cs t)
theorem alloc_size (w : World) (o : Obj) : (w.alloc o).heap.size = w.heap.size + 1 := Array.size_push _
theorem Box.lt {w : World} {b : Nat} {cs : Array Value} {t : TypeId} (h : Box w b cs t) : b < w.heap.size := (Array.getElem?_eq_some_iff.1 h).1
theorem Box.below {w w' : World} {b : Nat} {cs : Array Value} {t : TypeId} (h : Box w b cs t) (hb : Below w.heap.size w w') : Box w' b cs t := (hb.block b h.lt).trans h
theorem Box.new (w : World) (cs : Array Value) (t : TypeId) : Box (w.alloc (.cells cs t)) w.heap.size cs t := heap_alloc_new w _
theorem Box.alloc {w : World} {b : Nat} {cs : Array Value} {t : TypeId} (h : Box w b cs t) (o : Obj) : Box (w.alloc o) b cs t := h.below (below_alloc (Nat.le_refl _) o)
theorem Box.drewN {w : World} {b : Nat} {cs : Array Value} {t : TypeId} (h : Box w b cs t) (n : Nat) : Box (w.drewN n) b cs t := h
theorem Box.cell {w : World} {b : Nat} {cs : Array Value} {t : TypeId} (h : Box w b cs t) (i : Nat) {v : Value} (hi : cs[i]? = some v) : w.cell? ⟨b, i, none⟩ = some v := by
  have h' : w.heap[b]? = some (.cells cs t (0, 0)) := h
  rw [cell_of_row w b i cs t (0, 0) h']
  exact hi
theorem Box.free {w : World} {b : Nat} {cs : Array Value} {t : TypeId} (h : Box w b cs t) (i : Nat) : w.frozen? ⟨b, i, none⟩ = false := by
  have h' : w.heap[b]? = some (.cells cs t (0, 0)) := h
  simp [World.frozen?, h']
theorem below_step {w w1 w2 : World} (h : Below w.heap.size w w1) (hb : Below w1.heap.size w1 w2) : Below w.heap.size w w2 := h.trans (hb.mono h.size)
theorem below_then_alloc {w w1 : World} (h : Below w.heap.size w w1) (o : Obj) : Below w.heap.size w (w1.alloc o) := below_step h (below_alloc (Nat.le_refl _) o)

end Go.Proofs.YtedchegejalolaaGreatDoor

/- The small functions that many laws call: Picked. -/
namespace Go.Proofs.YtedchegejalolaaGreatDoor
set_option linter.unusedVariables false
open Go.RowKit

theorem info_int : (Tryz.prog.info? 3).map (fun i => (i.zero, i.size, i.bytes)) = some (some (.int .i64 0), 1, 8) := by kernel_rfl
theorem tInts : ElemTy Tryz.prog 33 3 1 8 (.int .i64 0) :=
  ⟨Tryz.underlying33, by obtain ⟨i0, hi, h0, h1, h2⟩ := info_parts info_int; exact ⟨i0, hi, h0, h1, h2⟩, rfl, by decide⟩

/-- A list of integers as cells. -/
def ints (l : List Int) : List Value := l.map (.int .i64)
theorem ints_length (l : List Int) : (ints l).length = l.length := by simp [ints]
theorem ints_append (l m : List Int) : ints (l ++ m) = ints l ++ ints m := by simp [ints]
theorem ints_get (l : List Int) (i : Nat) (h : i < (ints l).length) : (ints l)[i] = .int .i64 (l[i]'(by simpa [ints] using h)) := by simp [ints]
theorem ints_one (l : List Int) : ∀ u ∈ ints l, u.oneCell' = true := by simp [ints, Value.oneCell']
theorem ints_set (l : List Int) (i : Nat) (x : Int) : (ints l).set i (.int .i64 x) = ints (l.set i x) := by simp [ints, List.map_set]

/-- A slice of int that reads as l. -/
def SlI (w : World) (a : Option Addr) (cap : Nat) (l : List Int) : Prop := SlC w a l.length cap 1 (ints l)
/-- A slice of int of the call's own. -/
def OwnI (B : Nat) (w : World) (a : Option Addr) (cap : Nat) (l : List Int) : Prop := w.ownsRow B 3 1 (.slice a l.length cap) l.length (ints l)

theorem SlI.at {w : World} {a : Option Addr} {cap : Nat} {l : List Int} (h : SlI w a cap l) (i : Nat) (hi : i < l.length) : ∃ b off, a = some ⟨b, off, none⟩ ∧ w.cell? ⟨b, off + i, none⟩ = some (.int .i64 l[i]) := by
  obtain ⟨b, off, ha, hc⟩ := SlC.cell h i (by rw [ints_length]; exact hi)
  exact ⟨b, off, ha, by rw [hc, ints_get]⟩
theorem SlI.below {w w' : World} {a : Option Addr} {cap : Nat} {l : List Int} (h : SlI w a cap l) (hb : Below w.heap.size w w') : SlI w' a cap l := SlC.below h hb
theorem OwnI.below {B : Nat} {w w' : World} {a : Option Addr} {cap : Nat} {l : List Int} (h : OwnI B w a cap l) (hb : Below w.heap.size w w') : OwnI B w' a cap l := own_below h hb
theorem OwnI.sl {B : Nat} {w : World} {a : Option Addr} {cap : Nat} {l : List Int} (h : OwnI B w a cap l) : SlI w a cap l := own_slc h
theorem OwnI.base {B B' : Nat} {w : World} {a : Option Addr} {cap : Nat} {l : List Int} (h : OwnI B' w a cap l) (hB : B ≤ B') : OwnI B w a cap l := own_base h hB
theorem OwnI.nil (B : Nat) (w : World) : OwnI B w none 0 [] := World.ownsRow_nil w B _ 1

theorem own_sl_len {w : World} {B n c : Nat} {a : Option Addr} {l : List Int} (h : w.ownsRow B 3 1 (.slice a n c) n (ints l)) (hn : l.length = n) : SlI w a c l := by subst hn; exact own_slc h

/-- Several slices of int that read as lists. -/
def Facts (w : World) (L : List (Option Addr × Nat × List Int)) : Prop := ∀ x ∈ L, SlI w x.1 x.2.1 x.2.2
theorem Facts.below {w w' : World} {L : List (Option Addr × Nat × List Int)} (h : Facts w L) (hb : Below w.heap.size w w') : Facts w' L := fun x hx => (h x hx).below hb
theorem Facts.cons {w : World} {L : List (Option Addr × Nat × List Int)} {a : Option Addr} {c : Nat} {l : List Int} (h : SlI w a c l) (hL : Facts w L) : Facts w ((a, c, l) :: L) := by
  intro x hx
  rcases List.mem_cons.1 hx with rfl | hx
  · exact h
  · exact hL x hx
theorem Facts.nil (w : World) : Facts w [] := fun _ h => by cases h
def pick (a n : Int) : Int := if a.tmod n < 0 then a.tmod n + n else a.tmod n
theorem tmod_bd (a n : Int) (h : 0 < n) : -n < a.tmod n ∧ a.tmod n < n :=
  ⟨by have := Int.lt_tmod_of_pos a h; omega, Int.tmod_lt_of_pos a h⟩
theorem pick_bd (a n : Int) (h : 0 < n) : 0 ≤ pick a n ∧ pick a n < n := by
  have := tmod_bd a n h
  unfold pick; split <;> omega

theorem wf_bd {x : Int} (h : (Lit.int .i64 x).wf = true) : -9223372036854775808 ≤ x ∧ x ≤ 9223372036854775807 := by
  simpa [Lit.wf, IntKind.min, IntKind.max, IntKind.signed, IntKind.bits] using h
theorem ret_int {k : IntKind} {a b : Int} (h : a = b) : Ending.returned (.int k a) = .returned (.int k b) := by rw [h]
set_option maxHeartbeats 400000 in
theorem picked_any (a n : Int) (w : World) (h0 : 0 < n) (h1 : n ≤ 9223372036854775807) (_ : -9223372036854775808 ≤ a) (_ : a ≤ 9223372036854775807) :
    Calls Tryz.prog 9 #[.int .i64 a, .int .i64 n] w fun e w' => e = .returned (.int .i64 (pick a n)) ∧ w = w' := by
  have hb := tmod_bd a n h0
  obtain ⟨hb1, hb2⟩ := hb
  by_cases h : a.tmod n < 0
  · have hp := Lib.hid (show pick a n = a.tmod n + n by rw [pick, if_pos h])
    go_enter Tryz.func9, Tryz.ntmps9
    go_wp2
    go_ret
    exact ⟨ret_int hp.out.symm, rfl⟩
  · have hp := Lib.hid (show pick a n = a.tmod n by rw [pick, if_neg h])
    go_enter Tryz.func9, Tryz.ntmps9
    go_wp2
    go_ret
    exact ⟨ret_int hp.out.symm, rfl⟩

theorem drewN_below {B : Nat} {w : World} (n : Nat) : Below B w (w.drewN n) := below_drewN (Below.refl B w) n

end Go.Proofs.YtedchegejalolaaGreatDoor

/- Slices of structs: lists whose elements lie cell behind cell. -/
namespace Go.Proofs.YtedchegejalolaaGreatDoor
set_option linter.unusedVariables false
open Go.RowKit

/-- The cells of a list, k for each element. -/
def flat {α : Type} (f : α → List Value) (L : List α) : List Value := L.flatMap f
section
variable {α : Type} {f : α → List Value} {k : Nat}
theorem flat_length (hk : ∀ x, (f x).length = k) (L : List α) : (flat f L).length = L.length * k := by
  induction L with
  | nil => simp [flat]
  | cons x L ih =>
    simp only [flat, List.flatMap_cons, List.length_append, List.length_cons] at *
    rw [ih, hk, Nat.succ_mul]; omega
theorem flat_append (L M : List α) : flat f (L ++ M) = flat f L ++ flat f M := by simp [flat, List.flatMap_append]
theorem flat_get (hk : ∀ x, (f x).length = k) (L : List α) (i j : Nat) (hi : i < L.length) (hj : j < k) : (flat f L)[i * k + j]? = (f L[i])[j]? := by
  induction L generalizing i with
  | nil => simp at hi
  | cons x L ih =>
    have e : flat f (x :: L) = f x ++ flat f L := by simp [flat]
    rw [e]
    cases i with
    | zero => rw [Nat.zero_mul, Nat.zero_add, List.getElem?_append_left (by rw [hk]; exact hj)]; rfl
    | succ i =>
      rw [Nat.succ_mul, List.getElem?_append_right (by rw [hk]; omega), hk, show i * k + k + j - k = i * k + j by omega, ih i (by simpa using hi)]
      rfl
theorem flat_take (hk : ∀ x, (f x).length = k) (L : List α) (n : Nat) : (flat f L).take (n * k) = flat f (L.take n) := by
  induction L generalizing n with
  | nil => simp [flat]
  | cons x L ih =>
    have e : flat f (x :: L) = f x ++ flat f L := by simp [flat]
    cases n with
    | zero => simp [flat]
    | succ n =>
      have h2 : flat f ((x :: L).take (n + 1)) = f x ++ flat f (L.take n) := by simp [flat]
      rw [e, h2, List.take_append, hk, List.take_of_length_le (by rw [hk, Nat.succ_mul]; omega), Nat.succ_mul, Nat.add_sub_cancel, ih]

/-- A slice of structs, n long, that reads as L. -/
def SlF (f : α → List Value) (k : Nat) (w : World) (a : Option Addr) (n cap : Nat) (L : List α) : Prop := SlC w a n cap k (flat f L)
theorem SlF.below {w w' : World} {a : Option Addr} {n cap : Nat} {L : List α} (h : SlF f k w a n cap L) (hb : Below w.heap.size w w') : SlF f k w' a n cap L := SlC.below h hb
theorem SlF.len (hk : ∀ x, (f x).length = k) (hp : 0 < k) {w : World} {a : Option Addr} {n cap : Nat} {L : List α} (h : SlF f k w a n cap L) : L.length = n := by
  have h1 := h.hlen
  rw [flat_length hk] at h1
  exact Nat.eq_of_mul_eq_mul_right hp h1
/-- One element: each of its cells. -/
theorem SlF.at (hk : ∀ x, (f x).length = k) (hp : 0 < k) {w : World} {a : Option Addr} {n cap : Nat} {L : List α} (h : SlF f k w a n cap L) (i : Nat) (hi : i < L.length) :
    ∃ b off, a = some ⟨b, off, none⟩ ∧ b < w.heap.size ∧ ∀ j (hj : j < k), w.cell? ⟨b, off + i * k + j, none⟩ = (f L[i])[j]? := by
  have hlt : i * k + 0 < (flat f L).length := by
    rw [flat_length hk]
    have := Nat.mul_le_mul_right k (show i + 1 ≤ L.length by omega)
    rw [Nat.succ_mul] at this; omega
  obtain ⟨b, off, ha, hc⟩ := SlC.cell h (i * k + 0) hlt
  refine ⟨b, off, ha, World.block_lt_of_cell? w _ hc, fun j hj => ?_⟩
  have hlt2 : i * k + j < (flat f L).length := by
    rw [flat_length hk]
    have := Nat.mul_le_mul_right k (show i + 1 ≤ L.length by omega)
    rw [Nat.succ_mul] at this; omega
  obtain ⟨b', off', ha', hc'⟩ := SlC.cell h (i * k + j) hlt2
  rw [ha] at ha'
  simp only [Option.some.injEq, Addr.mk.injEq, and_true] at ha'
  obtain ⟨rfl, rfl⟩ := ha'
  rw [Nat.add_assoc, hc', ← flat_get hk L i j hi hj, List.getElem?_eq_getElem hlt2]
/-- Of a row of the call's own. -/
theorem own_at (hk : ∀ x, (f x).length = k) {w : World} {B e n cap g : Nat} {L : List α} (h : w.ownsRow B e k (.slice (some ⟨g, 0, none⟩) n cap) n (flat f L)) (hl : L.length = n) (i : Nat) (hi : i < L.length) (j : Nat) (hj : j < k) :
    w.cell? ⟨g, i * k + j, none⟩ = (f L[i])[j]? := by
  have hlt : i * k + j < n * k := by
    have := Nat.mul_le_mul_right k (show i + 1 ≤ n by omega)
    rw [Nat.succ_mul] at this; omega
  rw [h.cellAt (i * k + j) hlt, flat_get hk L i j hi hj]
end

/-- What a law is told of a slice of structs of k integers that came in. -/
def IsFlat (k : Nat) (w : World) (a : Option Addr) (len cap : Nat) (zs : List Int) : Prop :=
  (a = none ∧ len = 0 ∧ cap = 0 ∧ zs = []) ∨
  ∃ x, a = some x ∧ len ≤ cap ∧ cap ≤ maxLen ∧ zs.length = len * k ∧ (∀ i, i < zs.length → w.cell? (x.add i) = some (.int .i64 (zs.getD i 0))) ∧ ∀ n ∈ zs, (Lit.int .i64 n).wf = true
theorem flat_slc {k : Nat} (hk : 0 < k) {w : World} {a : Option Addr} {len cap : Nat} {zs : List Int} (h : IsFlat k w a len cap zs) : SlC w a len cap k (ints zs) ∧ (∀ n ∈ zs, (Lit.int .i64 n).wf = true) ∧ len ≤ maxLen ∧ zs.length = len * k := by
  rcases h with ⟨rfl, rfl, rfl, rfl⟩ | ⟨x, rfl, hl, hm, hz, hc, hw⟩
  · exact ⟨⟨by simp [ints], Nat.le_refl _, Nat.zero_le _, fun _ => rfl, fun i hi => by simp [ints] at hi⟩, by simp, Nat.zero_le _, by simp⟩
  · refine ⟨⟨by rw [ints_length, hz], hl, hm, (fun h => by cases h), fun i hi => ?_⟩, hw, by omega, hz⟩
    rw [ints_length] at hi
    obtain ⟨b, off, spot⟩ := x
    have hspot : spot = none := by
      have := World.cell?_spot (hc 0 (by omega))
      simpa [Addr.add] using this
    subst hspot
    have h1 := hc i hi
    rw [add_none] at h1
    exact ⟨b, off, rfl, by rw [h1, ints_get, getD_at _ _ hi]⟩

end Go.Proofs.YtedchegejalolaaGreatDoor

/- Expressions: the plain facts, and how they lie in memory. -/
namespace Go.Proofs.YtedchegejalolaaGreatDoor
set_option linter.unusedVariables false
open Go.RowKit

/-- An expression with at most three parts. -/
inductive Ex where
  | inn (a b c d : Int)
  | hv (x : Int)
  | not (p : Ex)
  | two (o : Bool) (p q : Ex)
  | three (o : Bool) (p q r : Ex)
namespace Ex
def parts : Ex → List Ex
  | .inn .. => []
  | .hv _ => []
  | .not p => [p]
  | .two _ p q => [p, q]
  | .three _ p q r => [p, q, r]
def ok (o : Bool) : Int := if o = true then 4 else 3
def kind : Ex → Int
  | .inn .. => 1
  | .hv _ => 2
  | .not _ => 5
  | .two o _ _ => ok o
  | .three o _ _ _ => ok o
def rx0 : Ex → Int
  | .inn a _ _ _ => a
  | _ => 0
def ry0 : Ex → Int
  | .inn _ b _ _ => b
  | _ => 0
def rx1 : Ex → Int
  | .inn _ _ c _ => c
  | _ => 0
def ry1 : Ex → Int
  | .inn _ _ _ d => d
  | _ => 0
def wt : Ex → Int
  | .hv x => x
  | _ => 0
theorem ind {P : Ex → Prop} (h : ∀ x, (∀ p ∈ x.parts, P p) → P x) : ∀ x, P x
  | .inn .. => h _ (fun p hp => absurd hp (by simp [parts]))
  | .hv _ => h _ (fun p hp => absurd hp (by simp [parts]))
  | .not p => h _ (fun s hs => by
      simp only [parts, List.mem_cons, List.not_mem_nil, or_false] at hs
      rw [hs]; exact ind h p)
  | .two _ p q => h _ (fun s hs => by
      simp only [parts, List.mem_cons, List.not_mem_nil, or_false] at hs
      rcases hs with e | e
      · rw [e]; exact ind h p
      · rw [e]; exact ind h q)
  | .three _ p q r => h _ (fun s hs => by
      simp only [parts, List.mem_cons, List.not_mem_nil, or_false] at hs
      rcases hs with e | e | e
      · rw [e]; exact ind h p
      · rw [e]; exact ind h q
      · rw [e]; exact ind h r)
/-- How deep. -/
def dep : Ex → Nat
  | .inn .. => 1
  | .hv _ => 1
  | .not p => p.dep + 1
  | .two _ p q => max p.dep q.dep + 1
  | .three _ p q r => max p.dep (max q.dep r.dep) + 1
theorem dep_part {x p : Ex} (h : p ∈ x.parts) : p.dep + 1 ≤ x.dep := by
  cases x <;> simp only [parts, List.mem_cons, List.not_mem_nil, or_false] at h
  · rw [h]; simp only [dep]; omega
  · rcases h with rfl | rfl <;> simp only [dep] <;> omega
  · rcases h with rfl | rfl | rfl <;> simp only [dep] <;> omega
theorem dep_pos (x : Ex) : 1 ≤ x.dep := by cases x <;> simp only [dep] <;> omega
/-- Small numbers. -/
def small : Ex → Prop
  | .inn a b c d => (0 ≤ a ∧ a ≤ 20) ∧ (0 ≤ b ∧ b ≤ 20) ∧ (0 ≤ c ∧ c ≤ 20) ∧ (0 ≤ d ∧ d ≤ 20)
  | .hv x => -3 ≤ x ∧ x ≤ 20
  | .not p => p.small
  | .two _ p q => p.small ∧ q.small
  | .three _ p q r => p.small ∧ q.small ∧ r.small
theorem small_part {x p : Ex} (hx : x.small) (h : p ∈ x.parts) : p.small := by
  cases x <;> simp only [parts, List.mem_cons, List.not_mem_nil, or_false] at h <;> simp only [small] at hx
  · rw [h]; exact hx
  · rcases h with rfl | rfl
    · exact hx.1
    · exact hx.2
  · rcases h with rfl | rfl | rfl
    · exact hx.1
    · exact hx.2.1
    · exact hx.2.2
theorem small_rect {x : Ex} (hx : x.small) : (0 ≤ x.rx0 ∧ x.rx0 ≤ 20) ∧ (0 ≤ x.ry0 ∧ x.ry0 ≤ 20) ∧ (0 ≤ x.rx1 ∧ x.rx1 ≤ 20) ∧ (0 ≤ x.ry1 ∧ x.ry1 ≤ 20) ∧ (-3 ≤ x.wt ∧ x.wt ≤ 20) := by
  cases x <;> simp only [small] at hx <;> simp only [rx0, ry0, rx1, ry1, wt] <;> omega
/-- What an expression of a kind looks like. -/
theorem shape (x : Ex) : (x.kind = 1 ∧ x.parts.length = 0 ∧ x.wt = 0) ∨ (x.kind = 2 ∧ x.parts.length = 0 ∧ x.rx0 = 0 ∧ x.ry0 = 0 ∧ x.rx1 = 0 ∧ x.ry1 = 0) ∨ ((x.kind = 3 ∨ x.kind = 4) ∧ (x.parts.length = 2 ∨ x.parts.length = 3) ∧ x.rx0 = 0 ∧ x.ry0 = 0 ∧ x.rx1 = 0 ∧ x.ry1 = 0 ∧ x.wt = 0) ∨ (x.kind = 5 ∧ x.parts.length = 1 ∧ x.rx0 = 0 ∧ x.ry0 = 0 ∧ x.rx1 = 0 ∧ x.ry1 = 0 ∧ x.wt = 0) := by
  cases x with
  | inn a b c d => exact .inl ⟨rfl, rfl, rfl⟩
  | hv y => exact .inr (.inl ⟨rfl, rfl, rfl, rfl, rfl, rfl⟩)
  | not p => exact .inr (.inr (.inr ⟨rfl, rfl, rfl, rfl, rfl, rfl, rfl⟩))
  | two o p q => exact .inr (.inr (.inl ⟨by cases o <;> simp [kind, ok], .inl rfl, rfl, rfl, rfl, rfl, rfl⟩))
  | three o p q r => exact .inr (.inr (.inl ⟨by cases o <;> simp [kind, ok], .inr rfl, rfl, rfl, rfl, rfl, rfl⟩))
/-- How closely a kind is bound. -/
def rank (k : Int) : Int := if k = 4 then 1 else if k = 3 then 2 else 3
/-- The texts. -/
def num (n : Int) : List UInt8 := 32 :: Lib.itoa n
def wrapT (k : Int) (p : Ex) (t : List UInt8) : List UInt8 := if rank p.kind ≤ rank k ∧ rank p.kind < 3 then [40] ++ t ++ [41] else t
def sepT (o : Bool) : List UInt8 := if o = true then [32, 124, 32] else [32, 38, 32]
def txt : Ex → List UInt8
  | .inn a b c d => [105, 110] ++ num a ++ num b ++ num c ++ num d
  | .hv x => [119, 32] ++ Lib.itoa x
  | .not p => [33] ++ wrapT 5 p p.txt
  | .two o p q => wrapT (ok o) p p.txt ++ sepT o ++ wrapT (ok o) q q.txt
  | .three o p q r => wrapT (ok o) p p.txt ++ sepT o ++ wrapT (ok o) q q.txt ++ sepT o ++ wrapT (ok o) r r.txt
theorem itoa_two {x : Int} (h1 : -10 < x) (h2 : x < 100) : (Lib.itoa x).length ≤ 2 := by
  rcases Int.lt_or_le x 0 with h | h
  · obtain ⟨u, rfl⟩ : ∃ u : Nat, x = -(u : Int) := ⟨x.natAbs, by omega⟩
    rw [Lib.itoa_neg u (by omega), Lib.decDigits_one (by omega)]; simp
  · obtain ⟨u, rfl⟩ : ∃ u : Nat, x = (u : Int) := ⟨x.toNat, by omega⟩
    rw [Lib.itoa_nonneg]
    by_cases h3 : u < 10
    · rw [Lib.decDigits_one h3]; simp
    · rw [Lib.decDigits_two h3 (by omega)]; simp
theorem wrap_len (k : Int) (p : Ex) (t : List UInt8) : (wrapT k p t).length ≤ t.length + 2 := by
  unfold wrapT; split <;> simp <;> omega
/-- The longest a text of so many levels can be. -/
def bnd : Nat → Nat
  | 0 => 0
  | n + 1 => if n = 0 then 14 else 3 * (bnd n + 2) + 6
theorem bnd_ge : ∀ n, 14 ≤ bnd (n + 1) := by
  intro n
  induction n with
  | zero => decide
  | succ n ih => simp only [bnd] at *; rw [if_neg (by omega)]; omega
theorem txt_len : ∀ (x : Ex) (n : Nat), x.small → x.dep ≤ n → x.txt.length ≤ bnd n := by
  intro x
  induction x with
  | inn a b c d =>
    intro n hs hd
    simp only [small] at hs
    have h1 := itoa_two (x := a) (by omega) (by omega)
    have h2 := itoa_two (x := b) (by omega) (by omega)
    have h3 := itoa_two (x := c) (by omega) (by omega)
    have h4 := itoa_two (x := d) (by omega) (by omega)
    have hl : (Ex.inn a b c d).txt.length ≤ 14 := by
      simp only [txt, num, List.length_append, List.length_cons, List.length_nil]; omega
    cases n with
    | zero => simp only [dep] at hd; omega
    | succ n => exact Nat.le_trans hl (bnd_ge n)
  | hv y =>
    intro n hs hd
    simp only [small] at hs
    have h1 := itoa_two (x := y) (by omega) (by omega)
    have hl : (Ex.hv y).txt.length ≤ 14 := by
      simp only [txt, List.length_append, List.length_cons, List.length_nil]; omega
    cases n with
    | zero => simp only [dep] at hd; omega
    | succ n => exact Nat.le_trans hl (bnd_ge n)
  | not p ih =>
    intro n hs hd
    simp only [small] at hs
    simp only [dep] at hd
    have h1 := ih (n - 1) hs (by omega)
    have h2 := wrap_len 5 p p.txt
    have hp := dep_pos p
    obtain ⟨m, rfl⟩ : ∃ m, n = m + 1 := ⟨n - 1, by omega⟩
    simp only [Nat.add_sub_cancel] at h1
    simp only [bnd, txt, List.length_append, List.length_cons, List.length_nil]
    rw [if_neg (by omega)]; omega
  | two o p q ih1 ih2 =>
    intro n hs hd
    simp only [small] at hs
    simp only [dep] at hd
    have h1 := ih1 (n - 1) hs.1 (by omega)
    have h2 := wrap_len (ok o) p p.txt
    have h3 := ih2 (n - 1) hs.2 (by omega)
    have h4 := wrap_len (ok o) q q.txt
    have h5 : (sepT o).length = 3 := by cases o <;> rfl
    have hp := dep_pos p
    obtain ⟨m, rfl⟩ : ∃ m, n = m + 1 := ⟨n - 1, by omega⟩
    simp only [Nat.add_sub_cancel] at h1 h3
    simp only [bnd, txt, List.length_append]
    rw [if_neg (by omega)]; omega
  | three o p q r ih1 ih2 ih3 =>
    intro n hs hd
    simp only [small] at hs
    simp only [dep] at hd
    have h1 := ih1 (n - 1) hs.1 (by omega)
    have h2 := wrap_len (ok o) p p.txt
    have h3 := ih2 (n - 1) hs.2.1 (by omega)
    have h4 := wrap_len (ok o) q q.txt
    have h6 := ih3 (n - 1) hs.2.2 (by omega)
    have h7 := wrap_len (ok o) r r.txt
    have h5 : (sepT o).length = 3 := by cases o <;> rfl
    have hp := dep_pos p
    obtain ⟨m, rfl⟩ : ∃ m, n = m + 1 := ⟨n - 1, by omega⟩
    simp only [Nat.add_sub_cancel] at h1 h3 h6
    simp only [bnd, txt, List.length_append]
    rw [if_neg (by omega)]; omega
end Ex

/-- An expression's cells. -/
structure ExV where
  k : Int
  a : Int
  b : Int
  c : Int
  d : Int
  x : Int
  sa : Option Addr
  n : Nat
  cap : Nat
def exL (v : ExV) : List Value := [.int .i64 v.k, .int .i64 v.a, .int .i64 v.b, .int .i64 v.c, .int .i64 v.d, .int .i64 v.x, .slice v.sa v.n v.cap]
theorem exL_len (v : ExV) : (exL v).length = 7 := rfl
def ev0 : ExV := ⟨0, 0, 0, 0, 0, 0, none, 0, 0⟩
/-- An expression in memory. -/
def IsEx (w : World) : Ex → ExV → Prop
  | .inn a b c d, v => v = ⟨1, a, b, c, d, 0, none, 0, 0⟩
  | .hv x, v => v = ⟨2, 0, 0, 0, 0, x, none, 0, 0⟩
  | .not p, v => ∃ sa cap vp, v = ⟨5, 0, 0, 0, 0, 0, sa, 1, cap⟩ ∧ SlF exL 7 w sa 1 cap [vp] ∧ IsEx w p vp
  | .two o p q, v => ∃ sa cap vp vq, v = ⟨Ex.ok o, 0, 0, 0, 0, 0, sa, 2, cap⟩ ∧ SlF exL 7 w sa 2 cap [vp, vq] ∧ IsEx w p vp ∧ IsEx w q vq
  | .three o p q r, v => ∃ sa cap vp vq vr, v = ⟨Ex.ok o, 0, 0, 0, 0, 0, sa, 3, cap⟩ ∧ SlF exL 7 w sa 3 cap [vp, vq, vr] ∧ IsEx w p vp ∧ IsEx w q vq ∧ IsEx w r vr
theorem IsEx.below {w w' : World} (hb : Below w.heap.size w w') : ∀ {x : Ex} {v : ExV}, IsEx w x v → IsEx w' x v
  | .inn .., v, h => h
  | .hv _, v, h => h
  | .not p, v, h => by
    obtain ⟨sa, cap, vp, h1, h2, h3⟩ := h
    exact ⟨sa, cap, vp, h1, h2.below hb, IsEx.below hb h3⟩
  | .two o p q, v, h => by
    obtain ⟨sa, cap, vp, vq, h1, h2, h3, h4⟩ := h
    exact ⟨sa, cap, vp, vq, h1, h2.below hb, IsEx.below hb h3, IsEx.below hb h4⟩
  | .three o p q r, v, h => by
    obtain ⟨sa, cap, vp, vq, vr, h1, h2, h3, h4, h5⟩ := h
    exact ⟨sa, cap, vp, vq, vr, h1, h2.below hb, IsEx.below hb h3, IsEx.below hb h4, IsEx.below hb h5⟩
theorem slF_nil (w : World) : SlF exL 7 w none 0 0 [] := ⟨rfl, Nat.le_refl _, Nat.zero_le _, fun _ => rfl, fun i hi => absurd hi (by simp [flat])⟩
theorem IsEx.view {w : World} {x : Ex} {v : ExV} (h : IsEx w x v) : ∃ vs : List ExV, v = ⟨x.kind, x.rx0, x.ry0, x.rx1, x.ry1, x.wt, v.sa, x.parts.length, v.cap⟩ ∧ SlF exL 7 w v.sa x.parts.length v.cap vs ∧ vs.length = x.parts.length ∧ ∀ i (hi : i < x.parts.length), IsEx w x.parts[i] (vs.getD i ev0) := by
  cases x with
  | inn a b c d => obtain rfl := h; exact ⟨[], rfl, slF_nil w, rfl, fun i hi => absurd hi (by simp [Ex.parts])⟩
  | hv y => obtain rfl := h; exact ⟨[], rfl, slF_nil w, rfl, fun i hi => absurd hi (by simp [Ex.parts])⟩
  | not p =>
    obtain ⟨sa, cap, vp, rfl, h2, h3⟩ := h
    refine ⟨[vp], rfl, h2, rfl, fun i hi => ?_⟩
    obtain rfl : i = 0 := by simp [Ex.parts] at hi; omega
    exact h3
  | two o p q =>
    obtain ⟨sa, cap, vp, vq, rfl, h2, h3, h4⟩ := h
    refine ⟨[vp, vq], rfl, h2, rfl, fun i hi => ?_⟩
    rcases (show i = 0 ∨ i = 1 by simp [Ex.parts] at hi; omega) with rfl | rfl
    · exact h3
    · exact h4
  | three o p q r =>
    obtain ⟨sa, cap, vp, vq, vr, rfl, h2, h3, h4, h5⟩ := h
    refine ⟨[vp, vq, vr], rfl, h2, rfl, fun i hi => ?_⟩
    rcases (show i = 0 ∨ i = 1 ∨ i = 2 by simp [Ex.parts] at hi; omega) with rfl | rfl | rfl
    · exact h3
    · exact h4
    · exact h5

end Go.Proofs.YtedchegejalolaaGreatDoor

