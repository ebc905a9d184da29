/- near.kept: the methods of the heap, the walks. -/
import Derived.Test.YtlmdlholmlbcbaaHpO
import Derived.Test.YtlmdlholmlbcbaaOr2
import Derived.Test.YtlmdlholmlbcbaaFlat
import Derived.Test.YtlmdlholmlbcbaaTwo
namespace Go.Proofs.Ytlmdlholmlbcbaa
set_option linter.unusedVariables false
open Go.RowKit Go.Sort
open Hp (nlt nlt_iff swp)

abbrev kfn (b0 : Nat) : Value := .iface 98 (.pointer (some ⟨b0, 0, none⟩))
theorem reach_less (W : World) (b0 : Nat) (sa : Option Addr) (n cap : Nat) (x y : Value) (h : W.cell? ⟨b0, 0, none⟩ = some (.slice sa n cap)) :
    (callMethod (kfn b0) "Less" #[x, y]).run Try.prog W = .ok (.enter 237 #[.slice sa n cap, x, y]) W := by
  have e : (callMethod (kfn b0) "Less" #[x, y]).run Try.prog W = (loadVar 94 ⟨b0, 0, none⟩ >>= fun r => callFunc 237 (#[r] ++ #[x, y])).run Try.prog W := by kernel_rfl
  rw [e]
  simp [go_sem, h]
theorem reach_swap (W : World) (b0 : Nat) (sa : Option Addr) (n cap : Nat) (x y : Value) (h : W.cell? ⟨b0, 0, none⟩ = some (.slice sa n cap)) :
    (callMethod (kfn b0) "Swap" #[x, y]).run Try.prog W = .ok (.enter 238 #[.slice sa n cap, x, y]) W := by
  have e : (callMethod (kfn b0) "Swap" #[x, y]).run Try.prog W = (loadVar 94 ⟨b0, 0, none⟩ >>= fun r => callFunc 238 (#[r] ++ #[x, y])).run Try.prog W := by kernel_rfl
  rw [e]
  simp [go_sem, h]
theorem reach_len (W : World) (b0 : Nat) (sa : Option Addr) (n cap : Nat) (h : W.cell? ⟨b0, 0, none⟩ = some (.slice sa n cap)) :
    (callMethod (kfn b0) "Len" #[]).run Try.prog W = .ok (.enter 101 #[.slice sa n cap]) W := by
  have e : (callMethod (kfn b0) "Len" #[]).run Try.prog W = (loadVar 94 ⟨b0, 0, none⟩ >>= fun r => callFunc 101 (#[r] ++ #[])).run Try.prog W := by kernel_rfl
  rw [e]
  simp [go_sem, h]
theorem reach_push (W : World) (b0 : Nat) (x : Value) : (callMethod (kfn b0) "Push" #[x]).run Try.prog W = .ok (.enter 240 #[.pointer (some ⟨b0, 0, none⟩), x]) W := by kernel_rfl
theorem reach_pop (W : World) (b0 : Nat) : (callMethod (kfn b0) "Pop" #[]).run Try.prog W = .ok (.enter 239 #[.pointer (some ⟨b0, 0, none⟩)]) W := by kernel_rfl

/-- The cells of what was found. -/
def fdL (far : Nat → Int) (p : Nat) : List Value := [.int .i64 (far p), .int .i64 (p : Int)]
theorem fdL_len (far : Nat → Int) (p : Nat) : (fdL far p).length = 2 := rfl
theorem fdL_one (far : Nat → Int) (L : List Nat) : ∀ u ∈ flat (fdL far) L, u.oneCell' = true := flat_one (fun r u hu => by
  simp only [fdL, List.mem_cons, List.not_mem_nil, or_false] at hu
  rcases hu with rfl | rfl <;> rfl) L
theorem fd_at {W : World} {B g n cap : Nat} {far : Nat → Int} {X : List Nat} (h : W.ownsRow B 101 2 (.slice (some ⟨g, 0, none⟩) n cap) n (flat (fdL far) X)) (hl : X.length = n) (i : Nat) (hi : i < n) :
    W.cell? ⟨g, i * 2, none⟩ = some (.int .i64 (far (X.getD i 0))) ∧ W.cell? ⟨g, i * 2 + 1, none⟩ = some (.int .i64 ((X.getD i 0 : Nat) : Int)) := by
  have h0 := own_at (fdL_len far) h hl i (by omega) 0 (by omega)
  have h1 := own_at (fdL_len far) h hl i (by omega) 1 (by omega)
  rw [getD_at X 0 (by omega)]
  exact ⟨h0, h1⟩

set_option maxRecDepth 100000 in
set_option maxHeartbeats 2000000 in
theorem less_any (B : Nat) (far : Nat → Int) (X : List Nat) (sa : Option Addr) (n cap i j : Nat) (W : World) (h : W.ownsRow B 101 2 (.slice sa n cap) n (flat (fdL far) X)) (hl : X.length = n) (hi : i < n) (hj : j < n) (hn : n ≤ 1000) :
    Calls Try.prog 237 #[.slice sa n cap, .int .i64 (i : Int), .int .i64 (j : Int)] W fun e w' => e = .returned (.bool (nlt far (X.getD j 0) (X.getD i 0))) ∧ ∃ q os, w' = grow (W.drewN q) os := by
  obtain ⟨g, rfl, _, _⟩ := own_some h (by omega)
  obtain ⟨c0, c1⟩ := fd_at h hl i hi
  obtain ⟨d0, d1⟩ := fd_at h hl j hj
  have HE := Kp.mk (show decide (cmpN (far (X.getD i 0)) ((X.getD i 0 : Nat) : Int) (far (X.getD j 0)) ((X.getD j 0 : Nat) : Int) > 0) = nlt far (X.getD j 0) (X.getD i 0) from by
    have e : (cmpN (far (X.getD i 0)) ((X.getD i 0 : Nat) : Int) (far (X.getD j 0)) ((X.getD j 0 : Nat) : Int) > 0) ↔ nlt far (X.getD j 0) (X.getD i 0) = true := by
      rw [cmpN_pos, nlt_iff]; omega
    cases hh : nlt far (X.getD j 0) (X.getD i 0) with
    | true => exact decide_eq_true (e.2 hh)
    | false => exact decide_eq_false (fun c => by rw [e.1 c] at hh; cases hh))
  have C := Kp.mk (order_any (far (X.getD i 0)) ((X.getD i 0 : Nat) : Int) (far (X.getD j 0)) ((X.getD j 0 : Nat) : Int))
  have hcap := (own_slc h).le
  rw [← HE.out]
  clear h HE
  generalize cmpN (far (X.getD i 0)) ((X.getD i 0 : Nat) : Int) (far (X.getD j 0)) ((X.getD j 0 : Nat) : Int) = r at *
  generalize far (X.getD i 0) = f1 at *
  generalize far (X.getD j 0) = f2 at *
  generalize ((X.getD i 0 : Nat) : Int) = p1 at *
  generalize ((X.getD j 0 : Nat) : Int) = p2 at *
  go_enter Try.func237, Try.ntmps237
  go_wp2
  go_still_tail 8, (by kernel_rfl)
  repeat still_step
  try refine wpStill_nil ?_
  go_wp2_with fail
  refine (C.out _).mono ?_
  rintro e w' ⟨rfl, q, os, rfl⟩
  go_wp2
  go_ret
  exact ⟨rfl, 1 + q, os, rfl⟩

theorem natfd_set (far : Nat → Int) : ∀ (X : List Nat) (i v : Nat), i < X.length → ((flat (fdL far) X).set (i * 2) (.int .i64 (far v))).set (i * 2 + 1) (.int .i64 (v : Int)) = flat (fdL far) (X.set i v)
  | [], i, v, h => absurd h (by simp)
  | x :: X, 0, v, _ => rfl
  | x :: X, i + 1, v, h => by
    have e : flat (fdL far) (x :: X) = .int .i64 (far x) :: .int .i64 (x : Int) :: flat (fdL far) X := rfl
    have e2 : flat (fdL far) ((x :: X).set (i + 1) v) = .int .i64 (far x) :: .int .i64 (x : Int) :: flat (fdL far) (X.set i v) := rfl
    rw [e, e2, ← natfd_set far X i v (by simpa using h), show (i + 1) * 2 = i * 2 + 1 + 1 by omega]
    rfl

set_option maxRecDepth 100000 in
set_option maxHeartbeats 4000000 in
theorem kswap_any (B : Nat) (far : Nat → Int) (X : List Nat) (sa : Option Addr) (n cap i j : Nat) (W : World) (h : W.ownsRow B 101 2 (.slice sa n cap) n (flat (fdL far) X)) (hl : X.length = n) (hi : i < n) (hj : j < n) (hn : n ≤ 1000) :
    Calls Try.prog 238 #[.slice sa n cap, .int .i64 (i : Int), .int .i64 (j : Int)] W fun e w' => e = .returned (.tuple #[]) ∧ Kp (w'.ownsRow B 101 2 (.slice sa n cap) n (flat (fdL far) (Hp.swp X i j))) ∧ Kp (W.grownBy w' (blk sa)) := by
  obtain ⟨g, rfl, _, _⟩ := own_some h (by omega)
  obtain ⟨c0, c1⟩ := fd_at h hl i hi
  obtain ⟨d0, d1⟩ := fd_at h hl j hj
  have hcap := (own_slc h).le
  have H := Kp.mk h
  have f0 := fun k => h.frozenAt k
  have HSW := Kp.mk (show ((((flat (fdL far) X).set (i * 2) (.int .i64 (far (X.getD j 0)))).set (i * 2 + 1) (.int .i64 ((X.getD j 0 : Nat) : Int))).set (j * 2) (.int .i64 (far (X.getD i 0)))).set (j * 2 + 1) (.int .i64 ((X.getD i 0 : Nat) : Int)) = flat (fdL far) (Hp.swp X i j) from by
    unfold Hp.swp
    rw [natfd_set far X i _ (by omega), natfd_set far _ j _ (by rw [List.length_set]; omega)])
  clear h
  generalize far (X.getD i 0) = f1 at *
  generalize far (X.getD j 0) = f2 at *
  generalize ((X.getD i 0 : Nat) : Int) = p1 at *
  generalize ((X.getD j 0 : Nat) : Int) = p2 at *
  have HR := Kp.mk (((((((H.out.stored (i * 2) (.int .i64 f2)).1).stored (i * 2 + 1) (.int .i64 p2)).1).stored (j * 2) (.int .i64 f1)).1.stored (j * 2 + 1) (.int .i64 p1)).1)
  rw [HSW.out] at HR
  go_enter Try.func238, Try.ntmps238
  go_wp2
  obtain ⟨a1, ha1⟩ := cell?_setCell_some (w := W) (p := ⟨g, i * 2, none⟩) (x := .int .i64 f2) (q := ⟨g, i * 2 + 1, none⟩) c1
  obtain ⟨a2, ha2⟩ := cell?_setCell_some (w := W) (p := ⟨g, i * 2, none⟩) (x := .int .i64 f2) (q := ⟨g, j * 2, none⟩) d0
  obtain ⟨a3, ha3⟩ := cell?_setCell_some (p := ⟨g, i * 2 + 1, none⟩) (x := .int .i64 p2) (q := ⟨g, j * 2, none⟩) ha2
  obtain ⟨b2, hb2⟩ := cell?_setCell_some (w := W) (p := ⟨g, i * 2, none⟩) (x := .int .i64 f2) (q := ⟨g, j * 2 + 1, none⟩) d1
  obtain ⟨b3, hb3⟩ := cell?_setCell_some (p := ⟨g, i * 2 + 1, none⟩) (x := .int .i64 p2) (q := ⟨g, j * 2 + 1, none⟩) hb2
  obtain ⟨b4, hb4⟩ := cell?_setCell_some (p := ⟨g, j * 2, none⟩) (x := .int .i64 f1) (q := ⟨g, j * 2 + 1, none⟩) hb3
  have g0 := f0 (i * 2)
  have g1 := f0 (i * 2 + 1)
  have g2 := f0 (j * 2)
  have g3 := f0 (j * 2 + 1)
  have HG := Kp.mk (grown_trans (grown_trans (grown_trans (grown_set W g (i * 2) (.int .i64 f2)) (grown_set _ g (i * 2 + 1) (.int .i64 p2))) (grown_set _ g (j * 2) (.int .i64 f1))) (grown_set _ g (j * 2 + 1) (.int .i64 p1)))
  clear f0
  have HRD := Kp.mk (own_below HR.out ((Below.refl _ _).drew))
  have HGD := Kp.mk (grown_drew HG.out)
  clear HR HG
  go_region
  go_wp2
  go_end0
  exact ⟨rfl, HRD, HGD⟩

theorem info_fd : (Try.prog.info? 101).map (fun i => (i.zero, i.size, i.bytes)) = some (some (.agg #[.int .i64 0, .int .i64 0]), 2, 16) := by kernel_rfl
theorem tFds : ElemTy Try.prog 94 101 2 16 (.agg #[.int .i64 0, .int .i64 0]) :=
  ⟨Try.underlying94, by obtain ⟨i0, hi, h0, h1, h2⟩ := info_parts info_fd; exact ⟨i0, hi, h0, h1, h2⟩, rfl, by decide⟩

set_option maxHeartbeats 1000000 in
theorem klen_any (sa : Option Addr) (n cap : Nat) (W : World) : Calls Try.prog 101 #[.slice sa n cap] W fun e w' => e = .returned (.int .i64 (n : Int)) ∧ W = w' := by
  go_enter Try.func101, Try.ntmps101
  go_wp2
  go_ret
  exact ⟨rfl, rfl⟩

/-- What is found so far: the box b0 holds a slice of an own row. -/
structure KI (b0 B : Nat) (far : Nat → Int) (X : List Nat) (W : World) : Prop where
  at_ : ∃ sa cap, Box W b0 #[.slice sa X.length cap] 94 ∧ W.ownsRow B 101 2 (.slice sa X.length cap) X.length (flat (fdL far) X)
  lt : b0 < B
  size : B ≤ W.heap.size
/-- All but the box and rows of what is found is kept. -/
structure KeepF (b0 B : Nat) (w W : World) : Prop where
  os : W.os = w.os
  tape : W.tape = w.tape
  output : W.output = w.output
  size : w.heap.size ≤ W.heap.size
  block : ∀ i, i < w.heap.size → i ≠ b0 → (i < B ∨ ∀ cs fr, w.heap[i]? ≠ some (.cells cs 101 fr)) → W.heap[i]? = w.heap[i]?
theorem KeepF.refl (b0 B : Nat) (w : World) : KeepF b0 B w w := ⟨rfl, rfl, rfl, Nat.le_refl _, fun _ _ _ _ => rfl⟩
theorem KeepF.trans {b0 B : Nat} {a b c : World} (h : KeepF b0 B a b) (k : KeepF b0 B b c) : KeepF b0 B a c :=
  ⟨k.os.trans h.os, k.tape.trans h.tape, k.output.trans h.output, Nat.le_trans h.size k.size, fun i hi hne hor => by
    have h1 := h.block i hi hne hor
    rw [k.block i (Nat.lt_of_lt_of_le hi h.size) hne (hor.imp_right (fun hf cs fr => by rw [h1]; exact hf cs fr)), h1]⟩
theorem KeepF.below {b0 B : Nat} {a b : World} (h : Below a.heap.size a b) : KeepF b0 B a b := ⟨h.os, h.tape, h.output, h.size, fun i hi _ _ => h.block i hi⟩
theorem KeepF.box0 {b0 B : Nat} {a b : World} (h : a.grownBy b (some b0)) : KeepF b0 B a b := ⟨h.os, h.tape, h.output, h.size, fun i hi hne _ => h.block i hi (fun e => hne (by cases e; rfl))⟩
theorem KeepF.row {b0 B n m c : Nat} {sa : Option Addr} {xs : List Value} {a b : World} (h : a.grownBy b (blk sa)) (ho : a.ownsRow B 101 2 (.slice sa m c) n xs) : KeepF b0 B a b :=
  ⟨h.os, h.tape, h.output, h.size, fun i hi hne hor => h.block i hi (fun e => by
    rcases ho.2 with ⟨hv, _⟩ | ⟨g, cap, cur, hv, hB, hg, _⟩
    · simp only [Value.slice.injEq] at hv
      rw [hv.1] at e; cases e
    · simp only [Value.slice.injEq] at hv
      rw [hv.1] at e
      have e' : i = g := by simpa [blk] using e
      subst e'
      rcases hor with hor | hor
      · omega
      · exact hor _ _ hg)⟩
theorem KeepF.box {b0 B b : Nat} {cs : Array Value} {t : TypeId} {w W : World} (h : KeepF b0 B w W) (hb : Box w b cs t) (hne : b ≠ b0) (ht : t ≠ 101) : Box W b cs t :=
  (h.block b hb.lt hne (.inr (fun cs' fr e => by
    have hb' : w.heap[b]? = some (.cells cs t (0, 0)) := hb
    rw [hb'] at e
    simp only [Option.some.injEq, Obj.cells.injEq] at e
    exact ht e.2.1))).trans hb
theorem KeepF.to {b0 B r : Nat} {w W : World} (h : KeepF b0 B w W) (h1 : r ≤ b0) (h2 : r ≤ B) (h3 : r ≤ w.heap.size) : Below r w W := ⟨h.os, h.tape, h.output, h.size, fun i hi => h.block i (by omega) (by omega) (.inl (by omega))⟩

abbrev hlt (far : Nat → Int) (a b : Nat) : Bool := nlt far b a
theorem ki_box {b0 B : Nat} {far : Nat → Int} {X : List Nat} {W w' : World} (h : KI b0 B far X W) (hb : Below W.heap.size W w') : KI b0 B far X w' := by
  obtain ⟨sa, cap, h1, h2⟩ := h.at_
  exact ⟨⟨sa, cap, h1.below hb, own_below h2 hb⟩, h.lt, Nat.le_trans h.size hb.size⟩
theorem grow_below (w : World) (q : Nat) (os : Array Obj) : Below w.heap.size w (Sort.grow (w.drewN q) os) := by
  refine ⟨rfl, rfl, rfl, by simp [Sort.grow], fun i hi => ?_⟩
  rw [heap_grow_old _ _ (by simpa using hi)]
  rfl

set_option maxRecDepth 100000 in
set_option maxHeartbeats 4000000 in
theorem kpush_any (b0 B : Nat) (far : Nat → Int) (X : List Nat) (x : Nat) (W : World) (h : KI b0 B far X W) (hn : X.length ≤ 1000) :
    Calls Try.prog 240 #[.pointer (some ⟨b0, 0, none⟩), .iface 101 (.agg #[.int .i64 (far x), .int .i64 (x : Int)])] W fun e w' => e = .returned (.tuple #[]) ∧ Kp (KI b0 B far (X ++ [x]) w') ∧ Kp (KeepF b0 B W w') := by
  obtain ⟨sa, cap, hb, ho⟩ := h.at_
  have HBS := Kp.mk (And.intro h.lt h.size)
  have c0 : W.cell? ⟨b0, 0, none⟩ = some (.slice sa X.length cap) := hb.cell 0 rfl
  have HB := Kp.mk hb
  have HO := Kp.mk ho
  have HF := Kp.mk (show flat (fdL far) X ++ [.int .i64 (far x), .int .i64 (x : Int)] = flat (fdL far) (X ++ [x]) from by rw [flat_append]; rfl)
  have HXL := Kp.mk (show (X ++ [x]).length = X.length + 1 by simp)
  clear h hb ho
  obtain ⟨n, hnl⟩ : ∃ n, X.length = n := ⟨_, rfl⟩
  rw [hnl] at c0 HB HO HXL hn
  obtain ⟨f, hf⟩ : ∃ f, far x = f := ⟨_, rfl⟩
  rw [hf] at HF ⊢
  clear hnl hf
  have hBz : B ≤ W.heap.size := HBS.out.2
  have hta : ∀ w, (Instr.typeAssert (.iface 101 (.agg #[.int .i64 f, .int .i64 (x : Int)])) 20 101 false).run Try.prog w = .ok (.agg #[.int .i64 f, .int .i64 (x : Int)]) w := fun _ => by kernel_rfl
  have hD : Below W.heap.size W (W.alloc (.cells #[.int .i64 f, .int .i64 (x : Int)] 101)).drew := (below_alloc (Nat.le_refl _) _).drew
  have c0' : (W.alloc (.cells #[.int .i64 f, .int .i64 (x : Int)] 101)).drew.cell? ⟨b0, 0, none⟩ = some (.slice sa n cap) := (HB.out.below hD).cell 0 rfl
  go_enter Try.func240, Try.ntmps240
  go_wp2
  refine wp_region_noPanic ?_
  refine wp_region_held_drew (S := (fun _ => True)) (by kernel_rfl) ?_ (fun hHeld => ?_)
  · exact True.intro
  refine wpAnyH_take (i := 0) (v := ?_) rfl (by kernel_rfl) (by kernel_rfl) (by kernel_rfl) (fun _ _ _ h => h) (Or.inl ⟨by rfl, ?_⟩) (by assumption) ?_
  rotate_left
  · (intro w hSw; (try dsimp only at hSw); go_simp; try with_reducible rfl)
  try simp only [Act.put]
  refine wpAnyH_take (i := 1) (v := ?_) rfl (by kernel_rfl) (by kernel_rfl) (by kernel_rfl) (fun _ _ _ h => h) (Or.inl ⟨by rfl, ?_⟩) (by assumption) ?_
  rotate_left
  · (intro w hSw; (try dsimp only at hSw); go_simp; try with_reducible rfl)
  try simp only [Act.put]
  refine wpAnyH_take (i := 2) (v := ?_) rfl (by kernel_rfl) (by kernel_rfl) (by kernel_rfl) (fun _ _ _ h => h) (Or.inl ⟨by rfl, ?_⟩) (by assumption) ?_
  rotate_left
  · (intro w hSw; (try dsimp only at hSw); go_simp; try with_reducible rfl)
  try simp only [Act.put]
  refine wpAnyH_take (i := 4) (v := ?_) rfl (by kernel_rfl) (by kernel_rfl) (by kernel_rfl) (fun _ _ _ h => h) (Or.inl ⟨by rfl, ?_⟩) (by assumption) ?_
  rotate_left
  · (intro w hSw; (try dsimp only at hSw); go_simp; try with_reducible rfl)
  try simp only [Act.put]
  refine wpAnyH_ready (rs := [3, 5]) (by kernel_rfl) (by simp) ?_
  refine AllReadyH.cons rfl (fun K hK => ?_) (AllReadyH.cons rfl (fun K hK => ?_) AllReadyH.nil)
  go_simp
  refine hK.out _ _ ?_ (fun hHeld => ?_)
  · exact True.intro
  clear hK K
  try simp only [Act.put]
  refine wpAnyH_ready (rs := [5]) (by kernel_rfl) (by simp) ?_
  refine AllReadyH.cons rfl (fun K hK => ?_) AllReadyH.nil
  go_simp
  refine hK.out _ _ ?_ (fun hHeld => ?_)
  · exact True.intro
  clear hK K
  try simp only [Act.put]
  refine wpAnyH_ready (rs := [6]) (by kernel_rfl) (by simp) ?_
  refine AllReadyH.cons rfl (fun K hK => ?_) AllReadyH.nil
  go_simp
  refine hK.out _ _ ?_ (fun hHeld => ?_)
  · exact True.intro
  clear hK K
  try simp only [Act.put]
  refine wpAnyH_ready (rs := [7]) (by kernel_rfl) (by simp) ?_
  refine AllReadyH.cons rfl (fun K hK => ?_) AllReadyH.nil
  refine step_push tFds (by rfl) _ _ (by rfl) B sa n cap _ (by rfl) ((HO.out.alloc _).drew) 1 W.heap.size _ (heap_alloc_new W _) (by rfl) (by rfl) (by simp [Value.oneCell']) (by omega) (by omega) (by omega) (by show B ≤ (W.alloc _).heap.size; rw [alloc_size]; omega) ?_
  intro sa' cap' w2 hown2 hg2 hno2
  have hb2 := box_grow (HB.out.below hD) hg2 (row_box (own_below HO.out hD) (HB.out.below hD) (by decide))
  have c2 : w2.cell? ⟨b0, 0, none⟩ = some (.slice sa n cap) := hb2.cell 0 rfl
  have f2 := frozen_of_row w2 b0 0 _ _ hb2
  refine hK.out _ _ ?_ (fun hHeld => ?_)
  · exact True.intro
  clear hK K
  try simp only [Act.put]
  refine wpAnyH_take (i := 8) (v := ?_) rfl (by kernel_rfl) (by kernel_rfl) (by kernel_rfl) (fun _ _ _ h => h) (Or.inl ⟨by rfl, ?_⟩) (by assumption) ?_
  rotate_left
  · (intro w hSw; (try dsimp only at hSw); go_simp; try with_reducible rfl)
  try simp only [Act.put]
  refine wpAnyH_ready (rs := [9]) (by kernel_rfl) (by simp) ?_
  refine AllReadyH.cons rfl (fun K hK => ?_) AllReadyH.nil
  go_simp
  refine hK.out _ _ ?_ (fun hHeld => ?_)
  · exact True.intro
  clear hK K
  try simp only [Act.put]
  refine wpAnyH_done (by kernel_rfl) ?_ _
  refine NoPanic.normal ?_
  rotate_left
  go_simp
  refine hK.out _ _ ?_ (fun hHeld => ?_)
  · exact True.intro
  clear hK K
  try simp only [Act.put]
  refine wpAnyH_ready (rs := [3, 6]) (by kernel_rfl) (by simp) ?_
  refine AllReadyH.cons rfl (fun K hK => ?_) (AllReadyH.cons rfl (fun K hK => ?_) AllReadyH.nil)
  go_simp
  refine hK.out _ _ ?_ (fun hHeld => ?_)
  · exact True.intro
  clear hK K
  try simp only [Act.put]
  refine wpAnyH_ready (rs := [6]) (by kernel_rfl) (by simp) ?_
  refine AllReadyH.cons rfl (fun K hK => ?_) AllReadyH.nil
  go_simp
  refine hK.out _ _ ?_ (fun hHeld => ?_)
  · exact True.intro
  clear hK K
  try simp only [Act.put]
  refine wpAnyH_ready (rs := [7]) (by kernel_rfl) (by simp) ?_
  refine AllReadyH.cons rfl (fun K hK => ?_) AllReadyH.nil
  refine step_push tFds (by rfl) _ _ (by rfl) B sa n cap _ (by rfl) ((HO.out.alloc _).drew) 1 W.heap.size _ (heap_alloc_new W _) (by rfl) (by rfl) (by simp [Value.oneCell']) (by omega) (by omega) (by omega) (by show B ≤ (W.alloc _).heap.size; rw [alloc_size]; omega) ?_
  intro sa' cap' w2 hown2 hg2 hno2
  have hb2 := box_grow (HB.out.below hD) hg2 (row_box (own_below HO.out hD) (HB.out.below hD) (by decide))
  have c2 : w2.cell? ⟨b0, 0, none⟩ = some (.slice sa n cap) := hb2.cell 0 rfl
  have f2 := frozen_of_row w2 b0 0 _ _ hb2
  refine hK.out _ _ ?_ (fun hHeld => ?_)
  · exact True.intro
  clear hK K
  try simp only [Act.put]
  refine wpAnyH_take (i := 8) (v := ?_) rfl (by kernel_rfl) (by kernel_rfl) (by kernel_rfl) (fun _ _ _ h => h) (Or.inl ⟨by rfl, ?_⟩) (by assumption) ?_
  rotate_left
  · (intro w hSw; (try dsimp only at hSw); go_simp; try with_reducible rfl)
  try simp only [Act.put]
  refine wpAnyH_ready (rs := [9]) (by kernel_rfl) (by simp) ?_
  refine AllReadyH.cons rfl (fun K hK => ?_) AllReadyH.nil
  go_simp
  refine hK.out _ _ ?_ (fun hHeld => ?_)
  · exact True.intro
  clear hK K
  try simp only [Act.put]
  refine wpAnyH_done (by kernel_rfl) ?_ _
  refine NoPanic.normal ?_
  rotate_left
  go_simp
  refine hK.out _ _ ?_ (fun hHeld => ?_)
  · exact True.intro
  clear hK K
  try simp only [Act.put]
  refine wpAnyH_ready (rs := [3]) (by kernel_rfl) (by simp) ?_
  refine AllReadyH.cons rfl (fun K hK => ?_) AllReadyH.nil
  go_simp
  refine hK.out _ _ ?_ (fun hHeld => ?_)
  · exact True.intro
  clear hK K
  try simp only [Act.put]
  refine wpAnyH_ready (rs := [7]) (by kernel_rfl) (by simp) ?_
  refine AllReadyH.cons rfl (fun K hK => ?_) AllReadyH.nil
  refine step_push tFds (by rfl) _ _ (by rfl) B sa n cap _ (by rfl) ((HO.out.alloc _).drew) 1 W.heap.size _ (heap_alloc_new W _) (by rfl) (by rfl) (by simp [Value.oneCell']) (by omega) (by omega) (by omega) (by show B ≤ (W.alloc _).heap.size; rw [alloc_size]; omega) ?_
  intro sa' cap' w2 hown2 hg2 hno2
  have hb2 := box_grow (HB.out.below hD) hg2 (row_box (own_below HO.out hD) (HB.out.below hD) (by decide))
  have c2 : w2.cell? ⟨b0, 0, none⟩ = some (.slice sa n cap) := hb2.cell 0 rfl
  have f2 := frozen_of_row w2 b0 0 _ _ hb2
  refine hK.out _ _ ?_ (fun hHeld => ?_)
  · exact True.intro
  clear hK K
  try simp only [Act.put]
  refine wpAnyH_take (i := 8) (v := ?_) rfl (by kernel_rfl) (by kernel_rfl) (by kernel_rfl) (fun _ _ _ h => h) (Or.inl ⟨by rfl, ?_⟩) (by assumption) ?_
  rotate_left
  · (intro w hSw; (try dsimp only at hSw); go_simp; try with_reducible rfl)
  try simp only [Act.put]
  refine wpAnyH_ready (rs := [9]) (by kernel_rfl) (by simp) ?_
  refine AllReadyH.cons rfl (fun K hK => ?_) AllReadyH.nil
  go_simp
  refine hK.out _ _ ?_ (fun hHeld => ?_)
  · exact True.intro
  clear hK K
  try simp only [Act.put]
  refine wpAnyH_done (by kernel_rfl) ?_ _
  refine NoPanic.normal ?_
  rotate_left
  all_goals
    have HO2 := Kp.mk hown2
    have HB2 := Kp.mk hb2
    have HK2 := Kp.mk ((KeepF.below (b0 := b0) (B := B) hD).trans (KeepF.row hg2 (own_below HO.out hD)))
    clear hD hown2 hg2 hno2 hb2
    have HKI := Kp.mk (show KI b0 B far (X ++ [x]) (w2.setCell ⟨b0, 0, none⟩ (.slice sa' (n + 1) cap')) from by
      have hne := row_box HO2.out HB2.out (by decide)
      refine ⟨⟨sa', cap', ?_, ?_⟩, HBS.out.1, ?_⟩
      · rw [HXL.out]; exact box_put (i := 0) HB2.out (.slice sa' (n + 1) cap')
      · rw [HXL.out, ← HF.out]; exact own_keep HO2.out (grown_set w2 b0 0 _) (fun k hk => by cases hk; exact hne)
      · rw [size_setCell]; exact Nat.le_trans hBz HK2.out.size)
    have HKF := Kp.mk (HK2.out.trans (KeepF.box0 (B := B) (grown_set w2 b0 0 (.slice sa' (n + 1) cap'))))
    clear HO2 HB2 HK2
    go_wp2
    go_end0
    exact ⟨rfl, HKI, HKF⟩

theorem own_frontK {w : World} {B e size n m cap : Nat} {sa : Option Addr} {xs : List Value} (h : w.ownsRow B e size (.slice sa n cap) n xs) (hm : m ≤ n) : w.ownsRow B e size (.slice sa m cap) m (xs.take (m * size)) := by
  have hle := Nat.mul_le_mul_right size hm
  have h1 := h.1
  refine ⟨by rw [List.length_take, h1]; omega, ?_⟩
  rcases h.2 with ⟨hv, hn⟩ | ⟨g, cap', cur, hv, hB, hg, h2, h3, h4, h5⟩
  · simp only [Value.slice.injEq] at hv
    exact .inl ⟨by rw [hv.1, hv.2.2, show m = 0 by omega], by omega⟩
  · simp only [Value.slice.injEq, true_and] at hv
    obtain ⟨rfl, rfl⟩ := hv
    refine .inr ⟨g, _, cur, rfl, hB, hg, by omega, h3, h4, ?_⟩
    rw [← h5, List.take_take, Nat.min_eq_left hle]

set_option maxRecDepth 100000 in
set_option maxHeartbeats 4000000 in
theorem kpop_any (b0 B : Nat) (far : Nat → Int) (X : List Nat) (x : Nat) (W : World) (h : KI b0 B far (X ++ [x]) W) (hn : X.length ≤ 1000) :
    Calls Try.prog 239 #[.pointer (some ⟨b0, 0, none⟩)] W fun e w' => e = .returned (.iface 101 (.agg #[.int .i64 (far x), .int .i64 (x : Int)])) ∧ Kp (KI b0 B far X w') ∧ Kp (KeepF b0 B W w') := by
  obtain ⟨sa, cap, hb, ho⟩ := h.at_
  have hxl : (X ++ [x]).length = X.length + 1 := by simp
  rw [hxl] at hb ho
  have HBS := Kp.mk (And.intro h.lt h.size)
  obtain ⟨g, rfl, _, _⟩ := own_some ho (by omega)
  have c0 : W.cell? ⟨b0, 0, none⟩ = some (.slice (some ⟨g, 0, none⟩) (X.length + 1) cap) := hb.cell 0 rfl
  obtain ⟨d0, d1⟩ := fd_at ho hxl X.length (by omega)
  have hxx : (X ++ [x]).getD X.length 0 = x := by rw [getD_at _ _ (by rw [hxl]; omega)]; simp
  rw [hxx] at d0 d1
  have HF := Kp.mk (show (flat (fdL far) (X ++ [x])).take (X.length * 2) = flat (fdL far) X from by rw [flat_take (fdL_len far)]; simp)
  have HOF := Kp.mk (own_frontK ho (m := X.length) (by omega))
  rw [HF.out] at HOF
  have hcap := (own_slc ho).le
  have hcm := (own_slc ho).capm
  unfold maxLen at hcm
  have hal := below_alloc (Nat.le_refl W.heap.size) (.cells #[.int .i64 (far x), .int .i64 (x : Int)] 101)
  have hb2 := hb.below hal
  have HB2 := Kp.mk hb2
  have HO2 := Kp.mk (own_below HOF.out hal)
  have HAL := Kp.mk hal
  have hbne := Kp.mk (Nat.ne_of_lt hb.lt)
  have HX := Kp.mk (Box.new W #[.int .i64 (far x), .int .i64 (x : Int)] 101)
  clear h hb ho hxl hxx HF HOF
  obtain ⟨n, hnl⟩ : ∃ n, X.length = n := ⟨_, rfl⟩
  have HNL := Kp.mk hnl
  rw [hnl] at c0 d0 d1 hn hcap hb2 HB2 HO2
  obtain ⟨f, hf⟩ : ∃ f, far x = f := ⟨_, rfl⟩
  rw [hf] at d0 HAL HX hal hb2 HB2 HO2 ⊢
  clear hf hnl
  have e1 : IntKind.i64.wrap ((n : Int) + 1 - 1) = (n : Int) := by rw [show (n : Int) + 1 - 1 = n by omega]; exact IntWalk.i64_in _ (by omega)
  have hnc : n ≤ cap := by omega
  have c2 : (W.alloc (.cells #[.int .i64 f, .int .i64 (x : Int)] 101)).cell? ⟨b0, 0, none⟩ = some (.slice (some ⟨g, 0, none⟩) (n + 1) cap) := hb2.cell 0 rfl
  have f2 := frozen_of_row _ b0 0 _ _ hb2
  clear hal
  have x0 : (W.alloc (.cells #[.int .i64 f, .int .i64 (x : Int)] 101)).cell? ⟨W.heap.size, 0, none⟩ = some (.int .i64 f) := HX.out.cell 0 rfl
  have x1 : (W.alloc (.cells #[.int .i64 f, .int .i64 (x : Int)] 101)).cell? ⟨W.heap.size, 1, none⟩ = some (.int .i64 (x : Int)) := HX.out.cell 1 rfl
  have hne := hbne.out
  have hne' : ¬ W.heap.size = b0 := fun e => hne e.symm
  obtain ⟨W2, hW2⟩ : ∃ W2, W.alloc (.cells #[.int .i64 f, .int .i64 (x : Int)] 101) = W2 := ⟨_, rfl⟩
  rw [hW2] at c2 f2 x0 x1 HB2 HO2 HAL
  have HKI := Kp.mk (show KI b0 B far X (W2.setCell ⟨b0, 0, none⟩ (.slice (some ⟨g, 0, none⟩) n cap)) from by
    have hne := row_box HO2.out HB2.out (by decide)
    refine ⟨⟨some ⟨g, 0, none⟩, cap, ?_, ?_⟩, HBS.out.1, ?_⟩
    · rw [HNL.out]; exact box_put (i := 0) HB2.out (.slice (some ⟨g, 0, none⟩) n cap)
    · rw [HNL.out]; exact own_keep HO2.out (grown_set W2 b0 0 _) (fun k hk => by cases hk; exact hne)
    · rw [size_setCell]; exact Nat.le_trans HBS.out.2 HAL.out.size)
  have HKF := Kp.mk ((KeepF.below (b0 := b0) (B := B) HAL.out).trans (KeepF.box0 (B := B) (grown_set W2 b0 0 (.slice (some ⟨g, 0, none⟩) n cap))))
  clear hb2 HX HB2 HO2 HAL
  go_enter Try.func239, Try.ntmps239
  go_wp2
  go_ret
  exact ⟨rfl, HKI, HKF⟩

def fdV (far : Nat → Int) (x : Nat) : Value := .iface 101 (.agg #[.int .i64 (far x), .int .i64 (x : Int)])
theorem kends (b0 B : Nat) (far : Nat → Int) (w0 : World) : HpEnds (kfn b0) (fdV far) (fun _ => True) (fun X W => KI b0 B far X W ∧ KeepF b0 B w0 W ∧ X.length ≤ 1000) where
  push X W x h _ hn := by
    obtain ⟨h1, h2, h3⟩ := h
    refine ⟨_, _, reach_push W b0 _, ?_⟩
    refine (kpush_any b0 B far X x W h1 h3).mono ?_
    rintro e w' ⟨rfl, k1, k2⟩
    exact ⟨rfl, ⟨k1.out, h2.trans k2.out, by simp; omega⟩⟩
  pop X W x h := by
    obtain ⟨h1, h2, h3⟩ := h
    simp at h3
    refine ⟨_, _, reach_pop W b0, ?_⟩
    refine (kpop_any b0 B far X x W h1 (by omega)).mono ?_
    rintro e w' ⟨rfl, k1, k2⟩
    exact ⟨rfl, ⟨k1.out, h2.trans k2.out, by omega⟩⟩

theorem kops (b0 B : Nat) (far : Nat → Int) (w0 : World) : HpOps (kfn b0) (hlt far) (fun X W => KI b0 B far X W ∧ KeepF b0 B w0 W ∧ X.length ≤ 1000) where
  less X W i j h hi hj := by
    obtain ⟨h1, h2, h3⟩ := h
    obtain ⟨sa, cap, hb, ho⟩ := h1.at_
    refine ⟨_, _, reach_less W b0 sa X.length cap _ _ (hb.cell 0 rfl), ?_⟩
    refine (less_any B far X sa X.length cap i j W ho rfl hi hj h3).mono ?_
    rintro e w' ⟨rfl, q, os, rfl⟩
    have hbl := grow_below W q os
    exact ⟨rfl, ⟨ki_box h1 hbl, h2.trans (KeepF.below hbl), h3⟩⟩
  swap X W i j h hi hj := by
    obtain ⟨h1, h2, h3⟩ := h
    obtain ⟨sa, cap, hb, ho⟩ := h1.at_
    refine ⟨_, _, reach_swap W b0 sa X.length cap _ _ (hb.cell 0 rfl), ?_⟩
    refine (kswap_any B far X sa X.length cap i j W ho rfl hi hj h3).mono ?_
    rintro e w' ⟨rfl, ho', hg⟩
    have hl := Hp.swp_length X i j
    refine ⟨rfl, ⟨⟨⟨sa, cap, ?_, ?_⟩, h1.lt, Nat.le_trans h1.size hg.out.size⟩, h2.trans (KeepF.row hg.out ho), by rw [hl]; exact h3⟩⟩
    · rw [hl]; exact box_grow hb hg.out (row_box ho hb (by decide))
    · rw [hl]; exact ho'.out
  len X W h := by
    obtain ⟨h1, h2, h3⟩ := h
    obtain ⟨sa, cap, hb, ho⟩ := h1.at_
    refine ⟨_, _, reach_len W b0 sa X.length cap (hb.cell 0 rfl), ?_⟩
    refine (klen_any sa X.length cap W).mono ?_
    rintro e w' ⟨rfl, rfl⟩
    exact ⟨rfl, ⟨h1, h2, h3⟩⟩

end Go.Proofs.Ytlmdlholmlbcbaa
