/- Lemmas on memory for the walks of this seat: slices that are read, rows that a call owns, worlds that are kept below a block number. -/
import Derived.Test.YtakabjkhcdkkjaaDoorRows
import Derived.WalkKit
import Derived.ProofKit
import Derived.WalkSpells
import Derived.WalkLawsBesides
import Derived.Deep.QuietTactic
import Derived.BigQuiet
import Derived.Outline
import Derived.Lib.Hide
import Derived.Laws.AppendOwnNone
import Derived.Deep.RegionHeld3
import Derived.Deep.AppendLies
import Derived.Deep.RegionLaw
import Derived.Deep.LoopGhost
import Derived.Deep.DeepCutAuto
import Derived.Deep.DeepMust
namespace Go.Proofs.YtakabjkhcdkkjaaDoor
set_option linter.unusedVariables false
open Go.RowKit

/-- A fact that is put away: neither the walk's rules nor 'contradiction' look inside. -/
structure Kp (p : Prop) : Prop where
  out : p

theorem getD_at {α : Type _} (l : List α) (d : α) {i : Nat} (h : i < l.length) : l.getD i d = l[i] := by simp [List.getD, h]

/-- A call that draws nothing, inside a region that draws. -/
theorem q_same {P : Program} {f : FuncId} {args : Array Value} {w : World} {n : Nat} {v : Value}
    (h : Calls P f args (w.drewN n) fun e w' => e = .returned v ∧ w.drewN n = w') : Calls P f args (w.drewN n) fun e w'' => e = .returned v ∧ ∃ m, w'' = w.drewN m :=
  h.mono fun _ _ ⟨he, hm⟩ => ⟨he, n, hm.symm⟩
/-- The world has drawn, no more. -/
def Drew (w w' : World) : Prop := ∃ n, w' = w.drewN n
theorem Drew.refl (w : World) : Drew w w := ⟨0, rfl⟩
theorem Drew.more {w w' : World} (h : Drew w w') (n : Nat) : Drew w (w'.drewN n) := by obtain ⟨m, rfl⟩ := h; exact ⟨m + n, World.drewN_drewN ..⟩
theorem Drew.trans {w w' w'' : World} (h : Drew w w') (h' : Drew w' w'') : Drew w w'' := by obtain ⟨m, rfl⟩ := h'; exact h.more m
theorem Drew.cell {w w' : World} (h : Drew w w') (a : Addr) : w'.cell? a = w.cell? a := by obtain ⟨n, rfl⟩ := h; rfl
theorem Drew.below {w w' : World} (h : Drew w w') (B : Nat) : Below B w w' := by obtain ⟨n, rfl⟩ := h; exact ⟨rfl, rfl, rfl, Nat.le_refl _, fun _ _ => rfl⟩
theorem q_drew {P : Program} {f : FuncId} {args : Array Value} {w : World} {n : Nat} {v : Value}
    (h : Calls P f args (w.drewN n) fun e w' => e = .returned v ∧ Drew (w.drewN n) w') : Calls P f args (w.drewN n) fun e w'' => e = .returned v ∧ ∃ m, w'' = w.drewN m :=
  Calls.quiet_of h

theorem add_none (b off i : Nat) : (⟨b, off, none⟩ : Addr).add i = ⟨b, off + i, none⟩ := by unfold Addr.add; split <;> simp_all

theorem size_setCell (w : World) (a : Addr) (v : Value) : (w.setCell a v).heap.size = w.heap.size := by simp [World.setCell]

/-- What is known of an element type: the slice type t, the element type e, its cells and bytes, its zero. -/
structure ElemTy (P : Program) (t e : TypeId) (size bytes : Nat) (z : Value) : Prop where
  und : P.underlying t = some (.slice e)
  info : ∃ i, P.info? e = some i ∧ i.zero = some z ∧ i.size = size ∧ i.bytes = bytes
  zs : z.cells.size = size
  pos : 0 < size

/-- A slice that reads as the cells cs (len elements of 'size' cells each). -/
structure SlC (w : World) (a : Option Addr) (len cap size : Nat) (cs : List Value) : Prop where
  hlen : cs.length = len * size
  le : len ≤ cap
  capm : cap ≤ maxLen
  nil : a = none → cap = 0
  cell : ∀ i (h : i < cs.length), ∃ b off, a = some ⟨b, off, none⟩ ∧ w.cell? ⟨b, off + i, none⟩ = some cs[i]

theorem SlC.below {w w' : World} {a : Option Addr} {len cap size : Nat} {cs : List Value} (h : SlC w a len cap size cs) (hb : Below w.heap.size w w') : SlC w' a len cap size cs :=
  ⟨h.hlen, h.le, h.capm, h.nil, fun i hi => by
    obtain ⟨b, off, ha, hc⟩ := h.cell i hi
    refine ⟨b, off, ha, ?_⟩
    rw [hb.cell (p := ⟨b, off + i, none⟩) (World.block_lt_of_cell? w _ hc)]
    exact hc⟩

theorem own_below {w w' : World} {B e size n : Nat} {v : Value} {xs : List Value} (h : w.ownsRow B e size v n xs) (hb : Below w.heap.size w w') : w'.ownsRow B e size v n xs := by
  refine ⟨h.1, ?_⟩
  rcases h.2 with h | ⟨g, cap, cur, hv, hB, hg, h1, h2, h3, h4⟩
  · exact .inl h
  · exact .inr ⟨g, cap, cur, hv, hB, by rw [hb.block g (Array.getElem?_eq_some_iff.1 hg).1]; exact hg, h1, h2, h3, h4⟩

/-- A row that is owned from B' on is owned from every smaller number on. -/
theorem own_base {w : World} {B B' e size n : Nat} {v : Value} {xs : List Value} (h : w.ownsRow B' e size v n xs) (hB : B ≤ B') : w.ownsRow B e size v n xs := by
  refine ⟨h.1, ?_⟩
  rcases h.2 with h | ⟨g, cap, cur, hv, hb, hg, h1, h2, h3, h4⟩
  · exact .inl h
  · exact .inr ⟨g, cap, cur, hv, Nat.le_trans hB hb, hg, h1, h2, h3, h4⟩

theorem own_len {w : World} {B e size n m c : Nat} {a : Option Addr} {xs : List Value} (h : w.ownsRow B e size (.slice a m c) n xs) : m = n := by
  rcases h.2 with ⟨h, h2⟩ | ⟨g, cap, cur, hv, _⟩
  · simp at h; omega
  · simp at hv; omega

theorem own_slc {w : World} {B e size n c : Nat} {a : Option Addr} {xs : List Value} (h : w.ownsRow B e size (.slice a n c) n xs) : SlC w a n c size xs := by
  rcases h.2 with ⟨hv, hn⟩ | ⟨g, cap, cur, hv, hB, hg, h1, h2, h3, h4⟩
  · simp only [Value.slice.injEq] at hv
    obtain ⟨rfl, rfl, rfl⟩ := hv
    exact ⟨h.1, Nat.le_refl _, Nat.zero_le _, fun _ => rfl, fun i hi => by rw [h.1] at hi; omega⟩
  · simp only [Value.slice.injEq, true_and] at hv
    obtain ⟨rfl, rfl⟩ := hv
    refine ⟨h.1, h1, h2, (fun h => by cases h), fun i hi => ⟨g, 0, rfl, ?_⟩⟩
    rw [Nat.zero_add, h.cellAt i (by rw [← h.1]; exact hi)]
    simp

/-- An owned row that is not empty lies in a block of its own. -/
theorem own_some {w : World} {B e size n c : Nat} {a : Option Addr} {xs : List Value} (h : w.ownsRow B e size (.slice a n c) n xs) (hn : 0 < n) : ∃ g, a = some ⟨g, 0, none⟩ ∧ B ≤ g ∧ g < w.heap.size := by
  rcases h.2 with ⟨_, h⟩ | ⟨g, cap, cur, hv, hB, hg, _⟩
  · omega
  · simp only [Value.slice.injEq, true_and] at hv
    exact ⟨g, hv.1, hB, (Array.getElem?_eq_some_iff.1 hg).1⟩

theorem grown_below {B : Nat} {w w' : World} {row : Option Nat} (hg : w.grownBy w' row) (hB : B ≤ w.heap.size) (hr : ∀ k, row = some k → B ≤ k) : Below B w w' :=
  (Below.refl B w).grown hg hB hr

theorem below_alloc {B : Nat} {w : World} (hB : B ≤ w.heap.size) (o : Obj) : Below B w (w.alloc o) := (Below.refl B w).alloc hB o

theorem cells_new (w : World) (cs : Array Value) (e : TypeId) : ∀ j u, cs.toList[j]? = some u → (w.alloc (.cells cs e)).cell? ((⟨w.heap.size, 0, none⟩ : Addr).add j) = some u := by
  intro j u hu
  have hadd : (⟨w.heap.size, 0, none⟩ : Addr).add j = ⟨w.heap.size, j, none⟩ := by unfold Addr.add; split <;> simp_all
  rw [hadd, cell_of_row (w.alloc (.cells cs e)) w.heap.size j cs e (0, 0) (heap_alloc_new w _)]
  simpa using hu

/-- 'append(s, x..)', the new elements in a block that was just made. -/
theorem wpList_push {P : Program} {t e : TypeId} {size bytes : Nat} {z : Value} (T : ElemTy P t e size bytes z)
    {ops : Array Oper} {rest : List Oper} {o : Oper} {a : Act} {Q : Exit → Act → World → Prop} {w : World} (hgd : o.guard = none) (s x : Operand)
    (ho : o.op = .call { callee := .builtin .append, args := #[s, x], argTypes := #[t, t] })
    (B : Nat) (sa : Option Addr) (n cap : Nat) (xs : List Value) (hs : a.eval s = .slice sa n cap) (hown : w.ownsRow B e size (.slice sa n cap) n xs)
    (m c : Nat) (cs : Array Value) (hx : a.eval x = .slice (some ⟨w.heap.size, 0, none⟩) m c) (hl : cs.size = m * size) (h1 : ∀ u ∈ cs.toList, u.oneCell' = true)
    (hm : 0 < m) (hbytes : (n + m) * bytes ≤ 140737488355328) (hbp : 0 < bytes) (hB : B ≤ w.heap.size)
    (h : ∀ sa' cap' w', w'.ownsRow B e size (.slice sa' (n + m) cap') (n + m) (xs ++ cs.toList) → Below B w w' → wpList P ops Q rest (a.put o.dst (.slice sa' (n + m) cap')) w') :
    wpList P ops Q (o :: rest) a (w.alloc (.cells cs e)) := by
  obtain ⟨i, hi, hz, hsz, hby⟩ := T.info
  have hnm : n + m ≤ maxLen := by
    have : n + m ≤ (n + m) * bytes := Nat.le_mul_of_pos_right _ hbp
    simp only [maxLen]; omega
  refine wpList_append_own hgd (w := w.alloc (.cells cs e)) s x t ho B e i z size bytes T.und hi hz hsz hby T.zs T.pos _ n xs hs (hown.alloc _) ⟨w.heap.size, 0, none⟩ m c cs.toList hx (by simpa using hl) (cells_new w cs e) h1 hnm hbytes (by simp; omega) ?_
  intro v' w' hown' hgrow hnil
  have hv : ∃ sa' cap', v' = .slice sa' (n + m) cap' := by
    rcases hown'.2 with ⟨h, h0⟩ | ⟨g, cap, cur, hv, _⟩
    · omega
    · exact ⟨_, _, hv⟩
  obtain ⟨sa', cap', rfl⟩ := hv
  refine h sa' cap' w' hown' ((below_alloc hB _).trans (grown_below hgrow (by simp; omega) ?_))
  intro k hk
  exact ((hown.alloc (.cells cs e)).lt k hk).1

/-- 'make([]T, n)', n elements; the two operands hold the length. -/
theorem wpList_mk {P : Program} {t e : TypeId} {size bytes : Nat} {z : Value} (T : ElemTy P t e size bytes z)
    {ops : Array Oper} {rest : List Oper} {o : Oper} {a : Act} {Q : Exit → Act → World → Prop} {w : World} (hgd : o.guard = none) (l c : Operand) (ho : o.op = Op.makeSlice t l c)
    (B : Nat) (n : Nat) (hl : a.eval l = .int .i64 n) (hc : a.eval c = .int .i64 n) (hbytes : bytes * n ≤ 281474976710656) (hbp : 0 < bytes) (hB : B ≤ w.heap.size)
    (h : ∀ sa cap w', w'.ownsRow B e size (.slice sa n cap) n (madeCells z.cells (n * size)).toList → Below B w w' → wpList P ops Q rest (a.put o.dst (.slice sa n cap)) w') :
    wpList P ops Q (o :: rest) a w := by
  obtain ⟨i, hi, hz, hsz, hby⟩ := T.info
  have hnm : n ≤ maxLen := by
    have : n ≤ bytes * n := Nat.le_mul_of_pos_left _ hbp
    simp only [maxLen]; omega
  refine wpList_make_full w hgd l c t ho B e i z size T.und hi hz hsz .i64 .i64 n n n hl hc rfl rfl (by rw [hby]; exact hbytes) hnm hB ?_
  intro w' hown hg
  exact h _ _ _ hown (grown_below hg hB (fun k hk => by cases hk))

theorem SlC.news {w : World} {ad : Addr} {len cap size : Nat} {cs : List Value} (h : SlC w (some ad) len cap size cs) : ∀ j u, cs[j]? = some u → w.cell? (ad.add j) = some u := by
  intro j u hu
  obtain ⟨hj, rfl⟩ := List.getElem?_eq_some_iff.1 hu
  obtain ⟨b, off, ha, hc⟩ := h.cell j hj
  simp only [Option.some.injEq] at ha
  subst ha
  have hadd : (⟨b, off, none⟩ : Addr).add j = ⟨b, off + j, none⟩ := by unfold Addr.add; split <;> simp_all
  rw [hadd, hc]

/-- 'append(s, x...)': s is nil or the call's own; x reads as cs. -/
theorem wpList_cat {P : Program} {t e : TypeId} {size bytes : Nat} {z : Value} (T : ElemTy P t e size bytes z)
    {ops : Array Oper} {rest : List Oper} {o : Oper} {a : Act} {Q : Exit → Act → World → Prop} {w : World} (hgd : o.guard = none) (s x : Operand)
    (ho : o.op = .call { callee := .builtin .append, args := #[s, x], argTypes := #[t, t] })
    (B : Nat) (sa : Option Addr) (n cap : Nat) (xs : List Value) (hs : a.eval s = .slice sa n cap) (hown : w.ownsRow B e size (.slice sa n cap) n xs)
    (xa : Option Addr) (m c : Nat) (cs : List Value) (hx : a.eval x = .slice xa m c) (hsl : SlC w xa m c size cs) (h1 : ∀ u ∈ cs, u.oneCell' = true)
    (hbytes : (n + m) * bytes ≤ 140737488355328) (hbp : 0 < bytes) (hB : B ≤ w.heap.size)
    (h : ∀ sa' cap' w', w'.ownsRow B e size (.slice sa' (n + m) cap') (n + m) (xs ++ cs) → Below B w w' → wpList P ops Q rest (a.put o.dst (.slice sa' (n + m) cap')) w') :
    wpList P ops Q (o :: rest) a w := by
  obtain ⟨i, hi, hz, hsz, hby⟩ := T.info
  have hnm : n + m ≤ maxLen := by
    have : n + m ≤ (n + m) * bytes := Nat.le_mul_of_pos_right _ hbp
    simp only [maxLen]; omega
  cases xa with
  | none =>
    have hc0 := hsl.nil rfl
    have hm0 : m = 0 := by have := hsl.le; omega
    subst hc0; subst hm0
    have hcs : cs = [] := List.length_eq_zero_iff.1 (by rw [hsl.hlen]; omega)
    subst hcs
    refine wpList_append_own_none hgd (w := w) s x t ho B e i size T.und hi _ n xs hs hown hx ?_
    have := h sa cap w (by simpa using hown) (Below.refl _ _)
    simpa using this
  | some ad =>
    refine wpList_append_own hgd (w := w) s x t ho B e i z size bytes T.und hi hz hsz hby T.zs T.pos _ n xs hs hown ad m c cs hx hsl.hlen hsl.news h1 hnm hbytes hB ?_
    intro v' w' hown' hgrow hnil
    have hv : ∃ sa' cap', v' = .slice sa' (n + m) cap' := by
      rcases hown'.2 with ⟨h, h0⟩ | ⟨g, cap, cur, hv, _⟩
      · exact ⟨none, 0, by rw [h, h0]⟩
      · exact ⟨_, _, hv⟩
    obtain ⟨sa', cap', rfl⟩ := hv
    exact h sa' cap' w' hown' (grown_below hgrow hB (fun k hk => (hown.lt k hk).1))

/-- The same where an element is one cell. -/
theorem wpList_mk1 {P : Program} {t e : TypeId} {bytes : Nat} {z z1 : Value} (T : ElemTy P t e 1 bytes z) (hz1 : z.cells = #[z1])
    {ops : Array Oper} {rest : List Oper} {o : Oper} {a : Act} {Q : Exit → Act → World → Prop} {w : World} (hgd : o.guard = none) (l c : Operand) (ho : o.op = Op.makeSlice t l c)
    (B : Nat) (n : Nat) (hl : a.eval l = .int .i64 n) (hc : a.eval c = .int .i64 n) (hbytes : bytes * n ≤ 281474976710656) (hbp : 0 < bytes) (hB : B ≤ w.heap.size)
    (h : ∀ sa cap w', w'.ownsRow B e 1 (.slice sa n cap) n (List.replicate n z1) → Below B w w' → wpList P ops Q rest (a.put o.dst (.slice sa n cap)) w') :
    wpList P ops Q (o :: rest) a w := by
  refine wpList_mk T hgd l c ho B n hl hc hbytes hbp hB ?_
  intro sa cap w' hown hbel
  rw [hz1, toList_madeCells_one, Nat.mul_one] at hown
  exact h sa cap w' hown hbel

/-- The block of a slice. -/
def blk (a : Option Addr) : Option Nat := a.map (·.block)
theorem ownBlock_blk (a : Option Addr) (n c : Nat) : (Value.slice a n c).ownBlock = blk a := by cases a <;> rfl

theorem own_below' {w w' : World} {B r e size n m c : Nat} {a : Option Addr} {xs : List Value} (h : w.ownsRow B e size (.slice a m c) n xs) (hb : Below r w w') (hlt : ∀ k, blk a = some k → k < r) : w'.ownsRow B e size (.slice a m c) n xs := by
  refine ⟨h.1, ?_⟩
  rcases h.2 with h | ⟨g, cap, cur, hv, hB, hg, h1, h2, h3, h4⟩
  · exact .inl h
  · refine .inr ⟨g, cap, cur, hv, hB, ?_, h1, h2, h3, h4⟩
    simp only [Value.slice.injEq] at hv
    rw [hb.block g (hlt g (by rw [hv.1]; rfl))]; exact hg

theorem grown_trans {a b c : World} {r : Option Nat} (h : a.grownBy b r) (k : b.grownBy c r) : a.grownBy c r :=
  ⟨k.os.trans h.os, k.tape.trans h.tape, k.output.trans h.output, Nat.le_trans h.size k.size, fun i hi hr => (k.block i (Nat.lt_of_lt_of_le hi h.size) hr).trans (h.block i hi hr)⟩
theorem grown_weak {a b : World} {r : Option Nat} (h : a.grownBy b none) : a.grownBy b r := ⟨h.os, h.tape, h.output, h.size, fun i hi _ => h.block i hi (by simp)⟩
theorem grown_refl (a : World) (r : Option Nat) : a.grownBy a r := ⟨rfl, rfl, rfl, Nat.le_refl _, fun _ _ _ => rfl⟩
theorem grown_set (w : World) (g o : Nat) (u : Value) : w.grownBy (w.setCell ⟨g, o, none⟩ u) (some g) :=
  ⟨rfl, rfl, rfl, by simp, fun k _ hk => heap_setCell_other w ⟨g, o, none⟩ k u (fun e => hk (by simp [e]))⟩
theorem grown_of_below {a b : World} {r : Option Nat} (h : Below a.heap.size a b) : a.grownBy b r := ⟨h.os, h.tape, h.output, h.size, fun i hi _ => h.block i hi⟩
theorem grown_drew {a b : World} {r : Option Nat} (h : a.grownBy b r) : a.grownBy b.drew r := ⟨h.os, h.tape, h.output, h.size, h.block⟩

theorem SlC.lt {w : World} {a : Option Addr} {len cap size : Nat} {cs : List Value} (h : SlC w a len cap size cs) (hp : 0 < cs.length) : ∃ k, blk a = some k ∧ k < w.heap.size := by
  obtain ⟨b, off, ha, hc⟩ := h.cell 0 hp
  exact ⟨b, by simp [ha, blk], World.block_lt_of_cell? w _ hc⟩
theorem SlC.keep {w w' : World} {a : Option Addr} {len cap size : Nat} {cs : List Value} {b : Option Nat} (h : SlC w a len cap size cs) (hg : w.grownBy w' b) (hne : ∀ k, b = some k → blk a ≠ some k) : SlC w' a len cap size cs :=
  ⟨h.hlen, h.le, h.capm, h.nil, fun i hi => by
    obtain ⟨b', off, ha, hc⟩ := h.cell i hi
    refine ⟨b', off, ha, hg.cell hc ?_⟩
    intro e
    exact hne b' e.symm (by simp [ha, blk])⟩
theorem own_keep {w w' : World} {B e size n m c : Nat} {a : Option Addr} {xs : List Value} {b : Option Nat} (h : w.ownsRow B e size (.slice a m c) n xs) (hg : w.grownBy w' b) (hne : ∀ k, b = some k → blk a ≠ some k) : w'.ownsRow B e size (.slice a m c) n xs := by
  refine h.kept hg ?_
  rw [ownBlock_blk]
  cases hb : blk a with
  | none => exact .inl rfl
  | some k => exact .inr (fun e => hne k e.symm hb)

/-- Where a row lies behind an append: where it lay, or in a new block. -/
def NewOr (w : World) (a a' : Option Addr) : Prop := blk a' = blk a ∨ ∃ g, blk a' = some g ∧ w.heap.size ≤ g

/-- 'append(s, x...)', x reads as cs (not nil): with all that is kept. -/
theorem wpList_catS {P : Program} {t e : TypeId} {size bytes : Nat} {z : Value} (T : ElemTy P t e size bytes z)
    {ops : Array Oper} {rest : List Oper} {o : Oper} {a : Act} {Q : Exit → Act → World → Prop} {w : World} (hgd : o.guard = none) (s x : Operand)
    (ho : o.op = .call { callee := .builtin .append, args := #[s, x], argTypes := #[t, t] })
    (B : Nat) (sa : Option Addr) (n cap : Nat) (xs : List Value) (hs : a.eval s = .slice sa n cap) (hown : w.ownsRow B e size (.slice sa n cap) n xs)
    (xa : Option Addr) (m c : Nat) (cs : List Value) (hx : a.eval x = .slice xa m c) (hsl : SlC w xa m c size cs) (h1 : ∀ u ∈ cs, u.oneCell' = true)
    (hbytes : (n + m) * bytes ≤ 140737488355328) (hbp : 0 < bytes) (hB : B ≤ w.heap.size)
    (h : ∀ sa' cap' w', w'.ownsRow B e size (.slice sa' (n + m) cap') (n + m) (xs ++ cs) → w.grownBy w' (blk sa) → NewOr w sa sa' → wpList P ops Q rest (a.put o.dst (.slice sa' (n + m) cap')) w') :
    wpList P ops Q (o :: rest) a w := by
  obtain ⟨i, hi, hz, hsz, hby⟩ := T.info
  have hnm : n + m ≤ maxLen := by
    have : n + m ≤ (n + m) * bytes := Nat.le_mul_of_pos_right _ hbp
    simp only [maxLen]; omega
  cases xa with
  | none =>
    have hc0 := hsl.nil rfl
    have hm0 : m = 0 := by have := hsl.le; omega
    subst hc0; subst hm0
    have hcs : cs = [] := List.length_eq_zero_iff.1 (by rw [hsl.hlen]; omega)
    subst hcs
    refine wpList_append_own_none hgd (w := w) s x t ho B e i size T.und hi _ n xs hs hown hx ?_
    have := h sa cap w (by simpa using hown) (grown_refl _ _) (.inl rfl)
    simpa using this
  | some ad =>
    by_cases hroom : cap < n + m
    · have hsl2 := own_slc hown
      refine wpList_append_grows w hgd s x t ho e i z size bytes T.und hi hz hsz hby T.zs T.pos sa n cap xs hs (fun h => by have := hsl2.nil h; have := hsl2.le; omega) hown.1 ?_ ad m c cs hx hsl.hlen hsl.news h1 hroom hnm hbytes ?_
      · intro b hb
        subst hb
        exact hsl2.news
      · intro v' w' hown' hg
        have hv : ∃ sa' cap', v' = .slice sa' (n + m) cap' ∧ NewOr w sa sa' := by
          rcases hown'.2 with ⟨h, h0⟩ | ⟨g, cap, cur, hv, hgs, _⟩
          · omega
          · exact ⟨_, _, hv, .inr ⟨g, rfl, hgs⟩⟩
        obtain ⟨sa', cap', rfl, hno⟩ := hv
        exact h sa' cap' w' (own_base hown' hB) (grown_weak hg) hno
    · rcases hown.2 with ⟨hv, hn⟩ | ⟨g, cap2, cur, hv, _⟩
      · simp only [Value.slice.injEq] at hv
        obtain ⟨rfl, rfl, rfl⟩ := hv
        have hm0 : m = 0 := by omega
        subst hm0
        have hcs : cs = [] := List.length_eq_zero_iff.1 (by rw [hsl.hlen]; omega)
        subst hcs
        refine wpList_append_own hgd (w := w) s x t ho B e i z size bytes T.und hi hz hsz hby T.zs T.pos _ _ xs hs hown ad 0 c [] hx (by simp) (by simp) (by simp) hnm hbytes hB ?_
        intro v' w' hown' hgrow hnil
        have hv := hnil.2 ⟨rfl, rfl⟩
        subst hv
        exact h none 0 w' (by simpa using hown') hgrow (.inl rfl)
      · simp only [Value.slice.injEq, true_and] at hv
        obtain ⟨rfl, rfl⟩ := hv
        refine wpList_append_fits w hgd s x t ho B e i size T.und hi hsz g n cap xs hs hown ad m c cs hx hsl.hlen hsl.news h1 (by omega) ?_
        intro w' hown' hg
        exact h _ _ w' hown' hg (.inl rfl)

theorem grownBy_of_alloc {w w' : World} {o : Obj} {b : Option Nat} (h : (w.alloc o).grownBy w' b) : w.grownBy w' b :=
  grown_trans (World.grownBy_alloc w o b) h

/-- 'append(s, x..)', the new elements in a block that was just made: with all that is kept. -/
theorem wpList_pushS {P : Program} {t e : TypeId} {size bytes : Nat} {z : Value} (T : ElemTy P t e size bytes z)
    {ops : Array Oper} {rest : List Oper} {o : Oper} {a : Act} {Q : Exit → Act → World → Prop} {w : World} (hgd : o.guard = none) (s x : Operand)
    (ho : o.op = .call { callee := .builtin .append, args := #[s, x], argTypes := #[t, t] })
    (B : Nat) (sa : Option Addr) (n cap : Nat) (xs : List Value) (hs : a.eval s = .slice sa n cap) (hown : w.ownsRow B e size (.slice sa n cap) n xs)
    (m : Nat) (cs : Array Value) (hx : a.eval x = .slice (some ⟨w.heap.size, 0, none⟩) m m) (hl : cs.size = m * size) (h1 : ∀ u ∈ cs.toList, u.oneCell' = true)
    (hbytes : (n + m) * bytes ≤ 140737488355328) (hbp : 0 < bytes) (hB : B ≤ w.heap.size)
    (h : ∀ sa' cap' w', w'.ownsRow B e size (.slice sa' (n + m) cap') (n + m) (xs ++ cs.toList) → w.grownBy w' (blk sa) → NewOr w sa sa' → wpList P ops Q rest (a.put o.dst (.slice sa' (n + m) cap')) w') :
    wpList P ops Q (o :: rest) a (w.alloc (.cells cs e)) := by
  have hm : m ≤ maxLen := by
    have : n + m ≤ (n + m) * bytes := Nat.le_mul_of_pos_right _ hbp
    simp only [maxLen]; omega
  refine wpList_catS T hgd s x ho B sa n cap xs hs (hown.alloc _) _ m m cs.toList hx (own_slc (World.ownsRow_lit (base := 0) w cs m (Nat.zero_le _) hm hl)) h1 hbytes hbp (by simp; omega) ?_
  intro sa' cap' w' hown' hg hno
  refine h sa' cap' w' hown' (grownBy_of_alloc hg) ?_
  rcases hno with hno | ⟨g, h1, h2⟩
  · exact .inl hno
  · exact .inr ⟨g, h1, by simp at h2; omega⟩

theorem own_lt {w : World} {B e size n m c : Nat} {a : Option Addr} {xs : List Value} (h : w.ownsRow B e size (.slice a m c) n xs) : ∀ k, blk a = some k → B ≤ k ∧ k < w.heap.size := by
  intro k hk
  exact h.lt k (by rw [ownBlock_blk]; exact hk)
theorem below_of_grown {B : Nat} {w w' : World} {b : Option Nat} (hg : w.grownBy w' b) (hB : B ≤ w.heap.size) (hb : ∀ k, b = some k → B ≤ k) : Below B w w' := grown_below hg hB hb

/-- 'append(s, x..)' inside a region that draws: the new elements lie in a block that is known whole. -/
theorem step_push {P : Program} {t e : TypeId} {size bytes : Nat} {z : Value} (T : ElemTy P t e size bytes z)
    {ops : Array Oper} {o : Oper} {a : Act} {K : Act → World → Prop} {Q : Exit → Act → World → Prop} {E : Prop} {W : World} (hgd : o.guard = none) (s x : Operand)
    (ho : o.op = .call { callee := .builtin .append, args := #[s, x], argTypes := #[t, t] })
    (B : Nat) (sa : Option Addr) (n cap : Nat) (xs : List Value) (hs : a.eval s = .slice sa n cap) (hown : W.ownsRow B e size (.slice sa n cap) n xs)
    (m H : Nat) (cs : Array Value) (hH : W.heap[H]? = some (.cells cs e (0, 0))) (hx : a.eval x = .slice (some ⟨H, 0, none⟩) m m) (hl : cs.size = m * size) (h1 : ∀ u ∈ cs.toList, u.oneCell' = true)
    (hm : 0 < m) (hbytes : (n + m) * bytes ≤ 140737488355328) (hbp : 0 < bytes) (hB : B ≤ W.heap.size)
    (h : ∀ sa' cap' w', w'.ownsRow B e size (.slice sa' (n + m) cap') (n + m) (xs ++ cs.toList) → W.grownBy w' (blk sa) → NewOr W sa sa' → K (a.put o.dst (.slice sa' (n + m) cap')) w') :
    if Region.wanted o (yielded ops a.tmps) = true then Oper.wp P o a W K Q else E := by
  obtain ⟨i, hi, hz, hsz, hby⟩ := T.info
  have hnm : n + m ≤ maxLen := by
    have : n + m ≤ (n + m) * bytes := Nat.le_mul_of_pos_right _ hbp
    simp only [maxLen]; omega
  have hnews : ∀ j u, cs.toList[j]? = some u → W.cell? ((⟨H, 0, none⟩ : Addr).add j) = some u := by
    intro j u hu
    rw [add_none, Nat.zero_add, cell_of_row W H j cs e (0, 0) hH]
    simpa using hu
  refine step_append_lies W hgd s x t ho B e i z size bytes T.und hi hz hsz hby T.zs T.pos _ n xs hs hown ⟨H, 0, none⟩ m m cs.toList hx (by simpa using hl) hnews h1 hm hnm hbytes hB W.heap.size rfl ?_
  intro g cap' w' hown' hgrow hat hlt
  rw [ownBlock_blk] at hgrow hat
  refine h (some ⟨g, 0, none⟩) cap' w' hown' hgrow ?_
  rcases hat with e | e
  · exact .inl (by rw [e]; rfl)
  · exact .inr ⟨g, rfl, by omega⟩

theorem pushed_below {wr w' : World} {B e size n m c : Nat} {sa : Option Addr} {xs : List Value} {o : Obj} (hown : wr.ownsRow B e size (.slice sa m c) n xs) (hB : B ≤ wr.heap.size) (hgr : (wr.alloc o).drew.grownBy w' (blk sa)) : Below B wr w' :=
  ((below_alloc hB o).drew).trans (below_of_grown hgr (by show B ≤ (wr.alloc o).heap.size; simp; omega) (fun k hk => (own_lt hown k hk).1))
theorem pushed_below2 {wr w' : World} {B e size n m c : Nat} {sa : Option Addr} {xs : List Value} {o o' : Obj} (hown : wr.ownsRow B e size (.slice sa m c) n xs) (hB : B ≤ wr.heap.size) (hgr : ((wr.alloc o).alloc o').drew.grownBy w' (blk sa)) : Below B wr w' :=
  (((below_alloc hB o).alloc (by simp; omega) o').drew).trans (below_of_grown hgr (by show B ≤ ((wr.alloc o).alloc o').heap.size; simp; omega) (fun k hk => (own_lt hown k hk).1))
theorem SlC.blt {w : World} {a : Addr} {len cap size : Nat} {cs : List Value} (h : SlC w (some a) len cap size cs) (hp : 0 < cs.length) : a.block < w.heap.size := by
  obtain ⟨k, hk, hlt⟩ := h.lt hp
  simp [blk] at hk
  omega

theorem SlC.front {w : World} {a : Option Addr} {len cap size m : Nat} {cs : List Value} (h : SlC w a len cap size cs) (hm : m ≤ len) : SlC w a m cap size (cs.take (m * size)) := by
  have hle := Nat.mul_le_mul_right size hm
  refine ⟨by rw [List.length_take, h.hlen]; omega, Nat.le_trans hm h.le, h.capm, h.nil, fun i hi => ?_⟩
  rw [List.length_take] at hi
  obtain ⟨b, off, ha, hc⟩ := h.cell i (by omega)
  exact ⟨b, off, ha, by rw [hc]; simp⟩

/-- A call that leaves the world as it was, in the class of that world alone. -/
theorem q_eq {P : Program} {f : FuncId} {args : Array Value} {w : World} {v : Value} (h : Calls P f args w fun e w' => e = .returned v ∧ w = w') : Calls P f args w fun e w'' => e = .returned v ∧ w'' = w :=
  h.mono fun _ _ ⟨he, hm⟩ => ⟨he, hm.symm⟩
/-- In a region that draws: the one operation that can come next. -/
theorem wpAny_head {P : Program} {md : Region.Mode} {ops : Array Oper} {Q : Exit → Act → World → Prop} {fuel : Nat} {listed : Array Bool} {a : Act} {w : World} (i : Nat) (o : Oper)
    (hr : Region.ready md ops listed = [i]) (hi : ops[i]? = some o) (hg : o.guard = none)
    (h : ∀ K : Act → World → Prop, (∀ a w, wpAny P md ops Q fuel (listed.setIfInBounds i true) a w → K a w) → o.wp P a w K Q) : wpAny P md ops Q (fuel + 1) listed a w := by
  refine ⟨fun h0 => by rw [hr] at h0; simp at h0, fun j hj => ?_⟩
  rw [hr, List.mem_singleton] at hj
  subst hj
  unfold wpOp
  rw [hi]
  simp only [Region.wanted, hg, if_true]
  exact .inl (h _ (fun _ _ h => h))
/-- In a region that draws: from here on every operation is quiet. -/
theorem wpAny_tail {P : Program} {md : Region.Mode} {L : List Oper} {Q : Exit → Act → World → Prop} {listed : Array Bool} {a : Act} {w : World} {fuel : Nat} (C : World → Prop) (k : Nat) (hf : (L.drop k).length = fuel)
    (hs : Region.noSelect L.toArray = true) (hB : Region.lexFrom md L.toArray fuel k listed = true) (hC : C w)
    (h : wpQuiet P L.toArray C (fun a' => ∀ w', C w' → Q .normal a' w') (L.drop k) a) : wpAny P md L.toArray Q fuel listed a w := by
  subst hf
  exact wpAny_of_quiet (Q := fun a' => ∀ w', C w' → Q .normal a' w') (fun _ w' hw' h => h w' hw') _ _ _ _ hC (wpAnyQ_lex hs (L.drop k) k listed a (by intro j; simp) hB h)

/-- A world that comes later: what was there at w0 is kept. -/
structure Later (w0 : World) where
  val : World
  le : Below w0.heap.size w0 val
instance (w0 : World) : Nonempty (Later w0) := ⟨⟨w0, Below.refl _ _⟩⟩
/-- A call that makes memory and hands back a plain value, inside a region that draws. -/
theorem q_later {P : Program} {f : FuncId} {args : Array Value} {w0 : World} {x : Later w0} {v : Value}
    (h : Calls P f args x.val fun e w' => e = .returned v ∧ Below x.val.heap.size x.val w') : Calls P f args x.val fun e w'' => e = .returned v ∧ ∃ x' : Later w0, w'' = x'.val :=
  h.mono fun _ w' ⟨he, hb⟩ => ⟨he, ⟨w', x.le.trans (hb.mono x.le.size)⟩, rfl⟩
/-- A region that draws, its operations quiet in every later world. -/
theorem region_later {P : Program} {id : Nat} {Q : Exit → Act → World → Prop} {a : Act} {w : World} {l : List Oper} (hm : P.follows .mixedOrders = true) (hB : Region.lexB .any l.toArray = true)
    (h : wpQuiet P l.toArray (fun w' => ∃ x : Later w, w' = x.val) (fun a' => ∀ w', (∃ x : Later w, w' = x.val) → Q .normal a' w') l a) : (Code.region id l.toArray true).wp P Q a w :=
  wp_region_quiet (C := fun w' => ∃ x : Later w, w' = x.val) hm hB ⟨⟨w.drew, (Below.refl _ _).drew⟩, rfl⟩ (by simpa using h)

theorem later_cell {w : World} {b o : Nat} {v : Value} (h : w.cell? ⟨b, o, none⟩ = some v) : ∀ x : Later w, x.val.cell? ⟨b, o, none⟩ = some v := fun x => by
  rw [x.le.cell (p := ⟨b, o, none⟩) (World.block_lt_of_cell? w _ h)]; exact h

def sliceLen : Value → Nat | .slice _ n _ => n | _ => 0
/-- A block known whole. -/
def Box (w : World) (b : Nat) (cs : Array Value) (t : TypeId) : Prop := w.heap[b]? = some (.cells cs t)
theorem alloc_size (w : World) (o : Obj) : (w.alloc o).heap.size = w.heap.size + 1 := Array.size_push _
theorem Box.lt {w : World} {b : Nat} {cs : Array Value} {t : TypeId} (h : Box w b cs t) : b < w.heap.size := (Array.getElem?_eq_some_iff.1 h).1
theorem Box.below {w w' : World} {b : Nat} {cs : Array Value} {t : TypeId} (h : Box w b cs t) (hb : Below w.heap.size w w') : Box w' b cs t := (hb.block b h.lt).trans h
theorem Box.new (w : World) (cs : Array Value) (t : TypeId) : Box (w.alloc (.cells cs t)) w.heap.size cs t := heap_alloc_new w _
theorem Box.alloc {w : World} {b : Nat} {cs : Array Value} {t : TypeId} (h : Box w b cs t) (o : Obj) : Box (w.alloc o) b cs t := h.below (below_alloc (Nat.le_refl _) o)
theorem Box.drewN {w : World} {b : Nat} {cs : Array Value} {t : TypeId} (h : Box w b cs t) (n : Nat) : Box (w.drewN n) b cs t := h
theorem Box.cell {w : World} {b : Nat} {cs : Array Value} {t : TypeId} (h : Box w b cs t) (i : Nat) {v : Value} (hi : cs[i]? = some v) : w.cell? ⟨b, i, none⟩ = some v := by
  have h' : w.heap[b]? = some (.cells cs t (0, 0)) := h
  rw [cell_of_row w b i cs t (0, 0) h']
  exact hi
theorem Box.free {w : World} {b : Nat} {cs : Array Value} {t : TypeId} (h : Box w b cs t) (i : Nat) : w.frozen? ⟨b, i, none⟩ = false := by
  have h' : w.heap[b]? = some (.cells cs t (0, 0)) := h
  simp [World.frozen?, h']
theorem below_step {w w1 w2 : World} (h : Below w.heap.size w w1) (hb : Below w1.heap.size w1 w2) : Below w.heap.size w w2 := h.trans (hb.mono h.size)
theorem below_then_alloc {w w1 : World} (h : Below w.heap.size w w1) (o : Obj) : Below w.heap.size w (w1.alloc o) := below_step h (below_alloc (Nat.le_refl _) o)

end Go.Proofs.YtakabjkhcdkkjaaDoor
