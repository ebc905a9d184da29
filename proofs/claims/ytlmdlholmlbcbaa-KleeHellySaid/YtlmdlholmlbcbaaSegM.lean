/- Package seg: nodes in memory; do, gather, tell. -/
import Derived.Test.YtlmdlholmlbcbaaSegP
namespace Go.Proofs.Ytlmdlholmlbcbaa
set_option linter.unusedVariables false
open Go.RowKit

def Nd.cells (v : Nd) (p q : Option Addr) : Array Value := #[.int .i64 v.least, .int .i64 v.sum, .bool v.set, .int .i64 v.tgt, .int .i64 v.add, .pointer p, .pointer q]
def SgT.ptr (T : SgT) : Option Addr := some ⟨T.root, 0, none⟩
def InMem (w : World) : SgT → Prop
  | .leaf b v => Box w b (v.cells none none) 241
  | .node b v l r => Box w b (v.cells l.ptr r.ptr) 241 ∧ InMem w l ∧ InMem w r

/-- Nothing old is turned but the blocks of S. -/
structure Turned (S : List Nat) (w w' : World) : Prop where
  os : w'.os = w.os
  tape : w'.tape = w.tape
  output : w'.output = w.output
  size : w.heap.size ≤ w'.heap.size
  block : ∀ k, k < w.heap.size → k ∉ S → w'.heap[k]? = w.heap[k]?
theorem Turned.refl (S : List Nat) (w : World) : Turned S w w := ⟨rfl, rfl, rfl, Nat.le_refl _, fun _ _ _ => rfl⟩
theorem Turned.trans {S : List Nat} {a b c : World} (h : Turned S a b) (k : Turned S b c) : Turned S a c :=
  ⟨k.os.trans h.os, k.tape.trans h.tape, k.output.trans h.output, Nat.le_trans h.size k.size, fun i hi hr => (k.block i (Nat.lt_of_lt_of_le hi h.size) hr).trans (h.block i hi hr)⟩
theorem Turned.weak {S S' : List Nat} {a b : World} (h : Turned S a b) (hs : ∀ k ∈ S, k ∈ S') : Turned S' a b := ⟨h.os, h.tape, h.output, h.size, fun i hi hr => h.block i hi (fun hm => hr (hs i hm))⟩
theorem Turned.of_grown {S : List Nat} {a b : World} {r : Option Nat} (h : a.grownBy b r) (hr : ∀ k, r = some k → k ∈ S) : Turned S a b := ⟨h.os, h.tape, h.output, h.size, fun i hi hn => h.block i hi (fun e => hn (hr i e.symm))⟩
theorem Turned.alloc {S : List Nat} {a b : World} (h : Turned S a b) (o : Obj) : Turned S a (b.alloc o) := h.trans (.of_grown (World.grownBy_alloc b o none) (fun k e => by cases e))
theorem Turned.set {S : List Nat} {a b : World} (h : Turned S a b) (g o : Nat) (u : Value) (hg : g ∈ S) : Turned S a (b.setCell ⟨g, o, none⟩ u) := h.trans (.of_grown (grown_set b g o u) (fun k e => by simp at e; subst e; exact hg))
theorem Turned.drew {S : List Nat} {a b : World} (h : Turned S a b) : Turned S a b.drew := ⟨h.os, h.tape, h.output, h.size, h.block⟩
theorem Turned.drewN {S : List Nat} {a b : World} (h : Turned S a b) (n : Nat) : Turned S a (b.drewN n) := ⟨h.os, h.tape, h.output, h.size, h.block⟩
theorem Turned.box {S : List Nat} {w w' : World} {b : Nat} {cs : Array Value} {t : TypeId} (h : Turned S w w') (hb : Box w b cs t) (hs : b ∉ S) : Box w' b cs t := (h.block b hb.lt hs).trans hb
theorem Turned.below {S : List Nat} {B : Nat} {w w' : World} (h : Turned S w w') (hB : B ≤ w.heap.size) (hs : ∀ k ∈ S, B ≤ k) : Below B w w' := by
  have : (Below.refl B w).os = (Below.refl B w).os := rfl
  exact ⟨h.os, h.tape, h.output, h.size, fun i hi => h.block i (by omega) (fun hm => by have := hs i hm; omega)⟩
theorem Turned.own {S : List Nat} {w w' : World} {B e size n m c : Nat} {a : Option Addr} {xs : List Value} (h : Turned S w w') (ho : w.ownsRow B e size (.slice a m c) n xs) (hs : ∀ k, blk a = some k → k ∉ S) : w'.ownsRow B e size (.slice a m c) n xs := by
  refine ⟨ho.1, ?_⟩
  rcases ho.2 with h0 | ⟨g, cap, cur, hv, hB, hg, h1, h2, h3, h4⟩
  · exact .inl h0
  · refine .inr ⟨g, cap, cur, hv, hB, ?_, h1, h2, h3, h4⟩
    simp only [Value.slice.injEq] at hv
    rw [h.block g (Array.getElem?_eq_some_iff.1 hg).1 (hs g (by rw [hv.1]; rfl))]; exact hg
theorem box_set {w : World} {b i : Nat} {cs : Array Value} {t : TypeId} (h : Box w b cs t) (v : Value) : Box (w.setCell ⟨b, i, none⟩ v) b (cs.setIfInBounds i v) t := by
  obtain ⟨hlt, hk⟩ := Array.getElem?_eq_some_iff.1 h
  show (w.heap.modify b _)[b]? = _
  rw [Array.getElem?_eq_getElem (by rw [Array.size_modify]; exact hlt), Array.getElem_modify_self, hk]
  rfl
theorem InMem.root {w : World} {T : SgT} (h : InMem w T) : ∃ p q, Box w T.root (T.nd.cells p q) 241 := by
  cases T with
  | leaf b v => exact ⟨_, _, h⟩
  | node b v l r => exact ⟨_, _, h.1⟩
theorem InMem.lt {w : World} {T : SgT} (h : InMem w T) : ∀ b ∈ T.blocks, b < w.heap.size := by
  induction T with
  | leaf b v => intro k hk; rw [List.mem_singleton.1 hk]; exact Box.lt h
  | node b v l r ihl ihr =>
    intro k hk
    rcases List.mem_cons.1 hk with rfl | hk
    · exact h.1.lt
    · rcases List.mem_append.1 hk with hk | hk
      · exact ihl h.2.1 k hk
      · exact ihr h.2.2 k hk
theorem InMem.keep {S : List Nat} {w w' : World} {T : SgT} (h : InMem w T) (ht : Turned S w w') (hs : ∀ b ∈ T.blocks, b ∉ S) : InMem w' T := by
  induction T with
  | leaf b v => exact ht.box h (hs b (by simp [SgT.blocks]))
  | node b v l r ihl ihr => exact ⟨ht.box h.1 (hs b (by simp [SgT.blocks])), ihl h.2.1 (fun k hk => hs k (by simp [SgT.blocks, hk])), ihr h.2.2 (fun k hk => hs k (by simp [SgT.blocks, hk]))⟩
theorem InMem.with {S : List Nat} {w w' : World} {T : SgT} {v : Nd} (h : InMem w T) (ht : Turned S w w') (hn : T.blocks.Nodup) (hs : ∀ k ∈ T.blocks, k ≠ T.root → k ∉ S) (hb : ∀ p q, Box w T.root (T.nd.cells p q) 241 → Box w' T.root (v.cells p q) 241) : InMem w' (T.with v) := by
  cases T with
  | leaf b u => exact hb _ _ h
  | node b u l r =>
    have h1 := List.nodup_cons.1 hn
    refine ⟨hb _ _ h.1, h.2.1.keep ht (fun k hk => ?_), h.2.2.keep ht (fun k hk => ?_)⟩
    · exact hs k (by simp [SgT.blocks, hk]) (fun e => by simp [SgT.root] at e; subst e; exact h1.1 (by simp [hk]))
    · exact hs k (by simp [SgT.blocks, hk]) (fun e => by simp [SgT.root] at e; subst e; exact h1.1 (by simp [hk]))
theorem InMem.ptrs {w : World} {b : Nat} {v : Nd} {l r : SgT} (h : InMem w (.node b v l r)) (hn : (SgT.node b v l r).blocks.Nodup) : b ≠ l.root ∧ b ≠ r.root ∧ l.root ≠ r.root ∧ l.blocks.Nodup ∧ r.blocks.Nodup ∧ (∀ k ∈ l.blocks, k ≠ b ∧ k ∉ r.blocks) ∧ ∀ k ∈ r.blocks, k ≠ b := by
  have h1 := List.nodup_cons.1 hn
  have h2 := List.nodup_append.1 h1.2
  have rl : l.root ∈ l.blocks := by cases l <;> simp [SgT.root, SgT.blocks]
  have rr : r.root ∈ r.blocks := by cases r <;> simp [SgT.root, SgT.blocks]
  refine ⟨fun e => h1.1 (by rw [e]; simp [rl]), fun e => h1.1 (by rw [e]; simp [rr]), h2.2.2 _ rl _ rr, h2.1, h2.2.1, fun k hk => ⟨fun e => h1.1 (by rw [← e]; simp [hk]), fun hm => h2.2.2 k hk k hm rfl⟩, fun k hk e => h1.1 (by rw [← e]; simp [hk])⟩
theorem SgT.root_mem (T : SgT) : T.root ∈ T.blocks := by cases T <;> simp [SgT.root, SgT.blocks]

theorem box_other {w : World} {b c o : Nat} {cs : Array Value} {t : TypeId} {v : Value} (h : Box w b cs t) (hne : c ≠ b) : Box (w.setCell ⟨c, o, none⟩ v) b cs t := (heap_setCell_other w ⟨c, o, none⟩ b v (fun e => hne e.symm)).trans h

set_option maxRecDepth 100000 in
set_option maxHeartbeats 2000000 in
theorem do_set (b : Nat) (p q : Option Addr) (v : Nd) (a1 a2 y : Int) (n : Nat) (w : World) (h : Box w b (v.cells p q) 241) (hy : -1000000000 ≤ y ∧ y ≤ 1000000000) (hn : n ≤ 1000) :
    Calls Try.prog 196 #[.pointer (some ⟨b, 0, none⟩), .agg #[.int .i64 2, .int .i64 a1, .int .i64 a2, .int .i64 y], .int .i64 n] w fun e w' => e = .returned (.tuple #[]) ∧ Box w' b ((Nd.setTo y n).cells p q) 241 ∧ Turned [b] w w' := by
  obtain ⟨y1, y2⟩ := hy
  have hb := h.lt
  have c0 := h.cell 0 rfl
  have hmul : -1000000000000 ≤ y * n ∧ y * n ≤ 1000000000000 := by
    constructor
    · have := Int.mul_le_mul_of_nonneg_right (show -1000000000 ≤ y from y1) (show (0 : Int) ≤ n by omega); omega
    · have := Int.mul_le_mul_of_nonneg_right (show y ≤ 1000000000 from y2) (show (0 : Int) ≤ n by omega); omega
  obtain ⟨m1, m2⟩ := hmul
  go_enter Try.func196, Try.ntmps196
  go_wp2
  have hbo := Box.new w #[.int .i64 2, .int .i64 a1, .int .i64 a2, .int .i64 y] 159
  have hbn := h.alloc (.cells #[.int .i64 2, .int .i64 a1, .int .i64 a2, .int .i64 y] 159)
  obtain ⟨o, ho⟩ : ∃ o, o = w.heap.size := ⟨_, rfl⟩
  rw [← ho] at hbo hb ⊢
  have hT := Kp.mk (show Turned [b] w (w.alloc (.cells #[.int .i64 2, .int .i64 a1, .int .i64 a2, .int .i64 y] 159)) from (Turned.refl _ _).alloc _)
  generalize w.alloc (.cells #[.int .i64 2, .int .i64 a1, .int .i64 a2, .int .i64 y] 159) = w1 at *
  have hne : o ≠ b := by omega
  have hne' : b ≠ o := by omega
  clear ho
  have k3 : w1.cell? ⟨o, 3, none⟩ = some (.int .i64 y) := hbo.cell 3 rfl
  have k0 : w1.cell? ⟨b, 0, none⟩ = some (.int .i64 v.least) := hbn.cell 0 rfl
  have k1 : w1.cell? ⟨b, 1, none⟩ = some (.int .i64 v.sum) := hbn.cell 1 rfl
  have f0 := hbn.free 0
  have f1 := hbn.free 1
  go_region
  go_wp2
  have hb2 : Box ((w1.setCell ⟨b, 0, none⟩ (.int .i64 y)).setCell ⟨b, 1, none⟩ (.int .i64 (y * n))).drew b #[.int .i64 y, .int .i64 (y * n), .bool v.set, .int .i64 v.tgt, .int .i64 v.add, .pointer p, .pointer q] 241 := box_set (box_set hbn _) _
  have ho2 : Box ((w1.setCell ⟨b, 0, none⟩ (.int .i64 y)).setCell ⟨b, 1, none⟩ (.int .i64 (y * n))).drew o #[.int .i64 2, .int .i64 a1, .int .i64 a2, .int .i64 y] 159 := box_other (box_other hbo hne') hne'
  have hT2 := Kp.mk (show Turned [b] w ((w1.setCell ⟨b, 0, none⟩ (.int .i64 y)).setCell ⟨b, 1, none⟩ (.int .i64 (y * n))).drew from ((hT.out.set b 0 _ (by simp)).set b 1 _ (by simp)).drew)
  clear k3 k0 k1 f0 f1 hbo hbn hT
  generalize ((w1.setCell ⟨b, 0, none⟩ (.int .i64 y)).setCell ⟨b, 1, none⟩ (.int .i64 (y * n))).drew = w2 at *
  have k3 : w2.cell? ⟨o, 3, none⟩ = some (.int .i64 y) := ho2.cell 3 rfl
  have k2 : w2.cell? ⟨b, 2, none⟩ = some (.bool v.set) := hb2.cell 2 rfl
  have k4 : w2.cell? ⟨b, 3, none⟩ = some (.int .i64 v.tgt) := hb2.cell 3 rfl
  have k5 : w2.cell? ⟨b, 4, none⟩ = some (.int .i64 v.add) := hb2.cell 4 rfl
  have f2 := hb2.free 2
  have f3 := hb2.free 3
  have f4 := hb2.free 4
  go_region
  go_wp2
  refine bodyPost_ret (results_none rfl _ _ _) rfl ?_
  refine ⟨rfl, box_set (box_set (box_set hb2 _) _) _, (((hT2.out.set b 2 _ (by simp)).set b 3 _ (by simp)).set b 4 _ (by simp)).drew⟩

set_option maxRecDepth 100000 in
set_option maxHeartbeats 2000000 in
theorem do_add (b : Nat) (p q : Option Addr) (v : Nd) (a1 a2 y : Int) (n : Nat) (w : World) (h : Box w b (v.cells p q) 241) (hy : -1000000000 ≤ y ∧ y ≤ 1000000000) (hn : n ≤ 1000) (hv : -1000000000000 ≤ v.least ∧ v.least ≤ 1000000000000 ∧ -1000000000000 ≤ v.sum ∧ v.sum ≤ 1000000000000 ∧ -1000000000000 ≤ v.add ∧ v.add ≤ 1000000000000) :
    Calls Try.prog 196 #[.pointer (some ⟨b, 0, none⟩), .agg #[.int .i64 1, .int .i64 a1, .int .i64 a2, .int .i64 y], .int .i64 n] w fun e w' => e = .returned (.tuple #[]) ∧ Box w' b ((v.addTo y n).cells p q) 241 ∧ Turned [b] w w' := by
  obtain ⟨y1, y2⟩ := hy
  obtain ⟨v1, v2, v3, v4, v5, v6⟩ := hv
  have hb := h.lt
  have c0 := h.cell 0 rfl
  have hmul : -1000000000000 ≤ y * n ∧ y * n ≤ 1000000000000 := by
    constructor
    · have := Int.mul_le_mul_of_nonneg_right (show -1000000000 ≤ y from y1) (show (0 : Int) ≤ n by omega); omega
    · have := Int.mul_le_mul_of_nonneg_right (show y ≤ 1000000000 from y2) (show (0 : Int) ≤ n by omega); omega
  obtain ⟨m1, m2⟩ := hmul
  obtain ⟨vl, vs, vb, vt, va⟩ := v
  simp only at v1 v2 v3 v4 v5 v6
  go_enter Try.func196, Try.ntmps196
  go_wp2
  have hbo := Box.new w #[.int .i64 1, .int .i64 a1, .int .i64 a2, .int .i64 y] 159
  have hbn := h.alloc (.cells #[.int .i64 1, .int .i64 a1, .int .i64 a2, .int .i64 y] 159)
  obtain ⟨o, ho⟩ : ∃ o, o = w.heap.size := ⟨_, rfl⟩
  rw [← ho] at hbo hb ⊢
  have hT := Kp.mk (show Turned [b] w (w.alloc (.cells #[.int .i64 1, .int .i64 a1, .int .i64 a2, .int .i64 y] 159)) from (Turned.refl _ _).alloc _)
  generalize w.alloc (.cells #[.int .i64 1, .int .i64 a1, .int .i64 a2, .int .i64 y] 159) = w1 at *
  have hne : o ≠ b := by omega
  have hne' : b ≠ o := by omega
  clear ho
  have k3 : w1.cell? ⟨o, 3, none⟩ = some (.int .i64 y) := hbo.cell 3 rfl
  have k0 : w1.cell? ⟨b, 0, none⟩ = some (.int .i64 vl) := hbn.cell 0 rfl
  have f0 := hbn.free 0
  have e1 : IntKind.i64.wrap (vl + y) = vl + y := IntWalk.i64_in _ (by omega)
  go_region
  go_wp2
  have hb2 : Box (w1.setCell ⟨b, 0, none⟩ (.int .i64 (vl + y))).drew b #[.int .i64 (vl + y), .int .i64 vs, .bool vb, .int .i64 vt, .int .i64 va, .pointer p, .pointer q] 241 := box_set hbn _
  have ho2 : Box (w1.setCell ⟨b, 0, none⟩ (.int .i64 (vl + y))).drew o #[.int .i64 1, .int .i64 a1, .int .i64 a2, .int .i64 y] 159 := box_other hbo hne'
  have hT2 := Kp.mk (show Turned [b] w (w1.setCell ⟨b, 0, none⟩ (.int .i64 (vl + y))).drew from (hT.out.set b 0 _ (by simp)).drew)
  clear k3 k0 f0 hbo hbn hT e1
  generalize (w1.setCell ⟨b, 0, none⟩ (.int .i64 (vl + y))).drew = w2 at *
  have k3 : w2.cell? ⟨o, 3, none⟩ = some (.int .i64 y) := ho2.cell 3 rfl
  have k1 : w2.cell? ⟨b, 1, none⟩ = some (.int .i64 vs) := hb2.cell 1 rfl
  have f1 := hb2.free 1
  have e1 : IntKind.i64.wrap (y * n) = y * n := IntWalk.i64_in _ (by omega)
  have e2 : IntKind.i64.wrap (vs + y * n) = vs + y * n := IntWalk.i64_in _ (by omega)
  go_region
  go_wp2
  have hb3 : Box (w2.setCell ⟨b, 1, none⟩ (.int .i64 (vs + y * n))).drew b #[.int .i64 (vl + y), .int .i64 (vs + y * n), .bool vb, .int .i64 vt, .int .i64 va, .pointer p, .pointer q] 241 := box_set hb2 _
  have ho3 : Box (w2.setCell ⟨b, 1, none⟩ (.int .i64 (vs + y * n))).drew o #[.int .i64 1, .int .i64 a1, .int .i64 a2, .int .i64 y] 159 := box_other ho2 hne'
  have hT3 := Kp.mk (show Turned [b] w (w2.setCell ⟨b, 1, none⟩ (.int .i64 (vs + y * n))).drew from (hT2.out.set b 1 _ (by simp)).drew)
  clear k3 k1 f1 ho2 hb2 hT2 e1 e2
  generalize (w2.setCell ⟨b, 1, none⟩ (.int .i64 (vs + y * n))).drew = w3 at *
  have k3 : w3.cell? ⟨o, 3, none⟩ = some (.int .i64 y) := ho3.cell 3 rfl
  have k1 : w3.cell? ⟨b, 4, none⟩ = some (.int .i64 va) := hb3.cell 4 rfl
  have f1 := hb3.free 4
  have e1 : IntKind.i64.wrap (va + y) = va + y := IntWalk.i64_in _ (by omega)
  go_region
  go_wp2
  go_end0
  exact ⟨rfl, box_set hb3 _, (hT3.out.set b 4 _ (by simp)).drew⟩

set_option maxRecDepth 100000 in
set_option maxHeartbeats 2000000 in
theorem gather_any (b bl br : Nat) (p1 q1 p2 q2 : Option Addr) (v vl vr : Nd) (w : World) (h : Box w b (v.cells (some ⟨bl, 0, none⟩) (some ⟨br, 0, none⟩)) 241) (hl : Box w bl (vl.cells p1 q1) 241) (hr : Box w br (vr.cells p2 q2) 241) (n1 : b ≠ bl) (n2 : b ≠ br)
    (hs : -1000000000000 ≤ vl.sum + vr.sum ∧ vl.sum + vr.sum ≤ 1000000000000) :
    Calls Try.prog 195 #[.pointer (some ⟨b, 0, none⟩)] w fun e w' => e = .returned (.tuple #[]) ∧ Box w' b ((⟨min vl.least vr.least, vl.sum + vr.sum, v.set, v.tgt, v.add⟩ : Nd).cells (some ⟨bl, 0, none⟩) (some ⟨br, 0, none⟩)) 241 ∧ Turned [b] w w' := by
  obtain ⟨s1, s2⟩ := hs
  have HX := Kp.mk h
  obtain ⟨v0, v1, vb, vt, va⟩ := v
  obtain ⟨l0, l1, lb, lt, la⟩ := vl
  obtain ⟨r0, r1, rb, rt, ra⟩ := vr
  simp only at s1 s2
  have c5 : w.cell? ⟨b, 5, none⟩ = some (.pointer (some ⟨bl, 0, none⟩)) := h.cell 5 rfl
  have c6 : w.cell? ⟨b, 6, none⟩ = some (.pointer (some ⟨br, 0, none⟩)) := h.cell 6 rfl
  go_enter Try.func195, Try.ntmps195
  go_wp2
  go_region
  go_wp2
  have k0 : w.cell? ⟨b, 0, none⟩ = some (.int .i64 v0) := h.cell 0 rfl
  have k1 : w.cell? ⟨b, 1, none⟩ = some (.int .i64 v1) := h.cell 1 rfl
  have k2 : w.cell? ⟨bl, 0, none⟩ = some (.int .i64 l0) := hl.cell 0 rfl
  have k3 : w.cell? ⟨bl, 1, none⟩ = some (.int .i64 l1) := hl.cell 1 rfl
  have k4 : w.cell? ⟨br, 0, none⟩ = some (.int .i64 r0) := hr.cell 0 rfl
  have k5 : w.cell? ⟨br, 1, none⟩ = some (.int .i64 r1) := hr.cell 1 rfl
  have f0 := h.free 0
  have f1 := h.free 1
  have e1 : IntKind.i64.wrap (l1 + r1) = l1 + r1 := IntWalk.i64_in _ (by omega)
  go_region
  go_wp2
  all_goals
    go_end0
    first
      | rw [show min l0 r0 = r0 by omega]
      | rw [show min l0 r0 = l0 by omega]
    exact ⟨rfl, box_set (box_set HX.out _) _, (((Turned.refl [b] w).set b 0 _ (by simp)).set b 1 _ (by simp)).drew.drew⟩

end Go.Proofs.Ytlmdlholmlbcbaa
