import Derived.Test.YtladgklnacihkaaGreatMg22
import Derived.Test.YtladgklnacihkaaGreatMg3
import Derived.Test.YtladgklnacihkaaGreatMg0
import Derived.Test.YtladgklnacihkaaGreatMg4
import Derived.StillTail
/- near.kept: the methods of the heap, the walks. -/
namespace Go.Proofs.YtladgklnacihkaaGreat
set_option linter.unusedVariables false
open Go.RowKit Go.Sort
open Hp (nlt nlt_iff swp)

abbrev kfn (b0 : Nat) : Value := .iface 160 (.pointer (some ⟨b0, 0, none⟩))
theorem reach_less (W : World) (b0 : Nat) (sa : Option Addr) (n cap : Nat) (x y : Value) (h : W.cell? ⟨b0, 0, none⟩ = some (.slice sa n cap)) :
    (callMethod (kfn b0) "Less" #[x, y]).run Tryz.prog W = .ok (.enter 176 #[.slice sa n cap, x, y]) W := by
  have e : (callMethod (kfn b0) "Less" #[x, y]).run Tryz.prog W = (loadVar 156 ⟨b0, 0, none⟩ >>= fun r => callFunc 176 (#[r] ++ #[x, y])).run Tryz.prog W := by kernel_rfl
  rw [e]
  simp [go_sem, h]
theorem reach_swap (W : World) (b0 : Nat) (sa : Option Addr) (n cap : Nat) (x y : Value) (h : W.cell? ⟨b0, 0, none⟩ = some (.slice sa n cap)) :
    (callMethod (kfn b0) "Swap" #[x, y]).run Tryz.prog W = .ok (.enter 177 #[.slice sa n cap, x, y]) W := by
  have e : (callMethod (kfn b0) "Swap" #[x, y]).run Tryz.prog W = (loadVar 156 ⟨b0, 0, none⟩ >>= fun r => callFunc 177 (#[r] ++ #[x, y])).run Tryz.prog W := by kernel_rfl
  rw [e]
  simp [go_sem, h]
theorem reach_len (W : World) (b0 : Nat) (sa : Option Addr) (n cap : Nat) (h : W.cell? ⟨b0, 0, none⟩ = some (.slice sa n cap)) :
    (callMethod (kfn b0) "Len" #[]).run Tryz.prog W = .ok (.enter 111 #[.slice sa n cap]) W := by
  have e : (callMethod (kfn b0) "Len" #[]).run Tryz.prog W = (loadVar 156 ⟨b0, 0, none⟩ >>= fun r => callFunc 111 (#[r] ++ #[])).run Tryz.prog W := by kernel_rfl
  rw [e]
  simp [go_sem, h]
theorem reach_push (W : World) (b0 : Nat) (x : Value) : (callMethod (kfn b0) "Push" #[x]).run Tryz.prog W = .ok (.enter 179 #[.pointer (some ⟨b0, 0, none⟩), x]) W := by kernel_rfl
theorem reach_pop (W : World) (b0 : Nat) : (callMethod (kfn b0) "Pop" #[]).run Tryz.prog W = .ok (.enter 178 #[.pointer (some ⟨b0, 0, none⟩)]) W := by kernel_rfl

/-- The cells of what was found. -/
def fdL (far : Nat → Int) (p : Nat) : List Value := [.int .i64 (far p), .int .i64 (p : Int)]
theorem fdL_len (far : Nat → Int) (p : Nat) : (fdL far p).length = 2 := rfl
theorem fdL_one (far : Nat → Int) (L : List Nat) : ∀ u ∈ flat (fdL far) L, u.oneCell' = true := flat_one (fun r u hu => by
  simp only [fdL, List.mem_cons, List.not_mem_nil, or_false] at hu
  rcases hu with rfl | rfl <;> rfl) L
theorem fd_at {W : World} {B g n cap : Nat} {far : Nat → Int} {X : List Nat} (h : W.ownsRow B 163 2 (.slice (some ⟨g, 0, none⟩) n cap) n (flat (fdL far) X)) (hl : X.length = n) (i : Nat) (hi : i < n) :
    W.cell? ⟨g, i * 2, none⟩ = some (.int .i64 (far (X.getD i 0))) ∧ W.cell? ⟨g, i * 2 + 1, none⟩ = some (.int .i64 ((X.getD i 0 : Nat) : Int)) := by
  have h0 := own_at (fdL_len far) h hl i (by omega) 0 (by omega)
  have h1 := own_at (fdL_len far) h hl i (by omega) 1 (by omega)
  rw [getD_at X 0 (by omega)]
  exact ⟨h0, h1⟩

set_option maxRecDepth 100000 in
set_option maxHeartbeats 2000000 in
theorem less_any (B : Nat) (far : Nat → Int) (X : List Nat) (sa : Option Addr) (n cap i j : Nat) (W : World) (h : W.ownsRow B 163 2 (.slice sa n cap) n (flat (fdL far) X)) (hl : X.length = n) (hi : i < n) (hj : j < n) (hn : n ≤ 1000) :
    Calls Tryz.prog 176 #[.slice sa n cap, .int .i64 (i : Int), .int .i64 (j : Int)] W fun e w' => e = .returned (.bool (nlt far (X.getD j 0) (X.getD i 0))) ∧ ∃ q os, w' = grow (W.drewN q) os := by
  obtain ⟨g, rfl, _, _⟩ := own_some h (by omega)
  obtain ⟨c0, c1⟩ := fd_at h hl i hi
  obtain ⟨d0, d1⟩ := fd_at h hl j hj
  have HE := Kp.mk (show decide (cmpN (far (X.getD i 0)) ((X.getD i 0 : Nat) : Int) (far (X.getD j 0)) ((X.getD j 0 : Nat) : Int) > 0) = nlt far (X.getD j 0) (X.getD i 0) from by
    have e : (cmpN (far (X.getD i 0)) ((X.getD i 0 : Nat) : Int) (far (X.getD j 0)) ((X.getD j 0 : Nat) : Int) > 0) ↔ nlt far (X.getD j 0) (X.getD i 0) = true := by
      rw [cmpN_pos, nlt_iff]; omega
    cases hh : nlt far (X.getD j 0) (X.getD i 0) with
    | true => exact decide_eq_true (e.2 hh)
    | false => exact decide_eq_false (fun c => by rw [e.1 c] at hh; cases hh))
  have C := Kp.mk (order_any (far (X.getD i 0)) ((X.getD i 0 : Nat) : Int) (far (X.getD j 0)) ((X.getD j 0 : Nat) : Int))
  have hcap := (own_slc h).le
  rw [← HE.out]
  clear h HE
  generalize cmpN (far (X.getD i 0)) ((X.getD i 0 : Nat) : Int) (far (X.getD j 0)) ((X.getD j 0 : Nat) : Int) = r at *
  generalize far (X.getD i 0) = f1 at *
  generalize far (X.getD j 0) = f2 at *
  generalize ((X.getD i 0 : Nat) : Int) = p1 at *
  generalize ((X.getD j 0 : Nat) : Int) = p2 at *
  go_enter Tryz.func176, Tryz.ntmps176
  go_wp2
  go_still_tail 8, (by kernel_rfl)
  repeat still_step
  try refine wpStill_nil ?_
  go_wp2_with fail
  refine (C.out _).mono ?_
  rintro e w' ⟨rfl, q, os, rfl⟩
  go_wp2
  go_ret
  exact ⟨rfl, 1 + q, os, rfl⟩

theorem natfd_set (far : Nat → Int) : ∀ (X : List Nat) (i v : Nat), i < X.length → ((flat (fdL far) X).set (i * 2) (.int .i64 (far v))).set (i * 2 + 1) (.int .i64 (v : Int)) = flat (fdL far) (X.set i v)
  | [], i, v, h => absurd h (by simp)
  | x :: X, 0, v, _ => rfl
  | x :: X, i + 1, v, h => by
    have e : flat (fdL far) (x :: X) = .int .i64 (far x) :: .int .i64 (x : Int) :: flat (fdL far) X := rfl
    have e2 : flat (fdL far) ((x :: X).set (i + 1) v) = .int .i64 (far x) :: .int .i64 (x : Int) :: flat (fdL far) (X.set i v) := rfl
    rw [e, e2, ← natfd_set far X i v (by simpa using h), show (i + 1) * 2 = i * 2 + 1 + 1 by omega]
    rfl

set_option maxRecDepth 100000 in
set_option maxHeartbeats 4000000 in
theorem kswap_any (B : Nat) (far : Nat → Int) (X : List Nat) (sa : Option Addr) (n cap i j : Nat) (W : World) (h : W.ownsRow B 163 2 (.slice sa n cap) n (flat (fdL far) X)) (hl : X.length = n) (hi : i < n) (hj : j < n) (hn : n ≤ 1000) :
    Calls Tryz.prog 177 #[.slice sa n cap, .int .i64 (i : Int), .int .i64 (j : Int)] W fun e w' => e = .returned (.tuple #[]) ∧ Kp (w'.ownsRow B 163 2 (.slice sa n cap) n (flat (fdL far) (Hp.swp X i j))) ∧ Kp (W.grownBy w' (blk sa)) := by
  obtain ⟨g, rfl, _, _⟩ := own_some h (by omega)
  obtain ⟨c0, c1⟩ := fd_at h hl i hi
  obtain ⟨d0, d1⟩ := fd_at h hl j hj
  have hcap := (own_slc h).le
  have H := Kp.mk h
  have f0 := fun k => h.frozenAt k
  have HSW := Kp.mk (show ((((flat (fdL far) X).set (i * 2) (.int .i64 (far (X.getD j 0)))).set (i * 2 + 1) (.int .i64 ((X.getD j 0 : Nat) : Int))).set (j * 2) (.int .i64 (far (X.getD i 0)))).set (j * 2 + 1) (.int .i64 ((X.getD i 0 : Nat) : Int)) = flat (fdL far) (Hp.swp X i j) from by
    unfold Hp.swp
    rw [natfd_set far X i _ (by omega), natfd_set far _ j _ (by rw [List.length_set]; omega)])
  clear h
  generalize far (X.getD i 0) = f1 at *
  generalize far (X.getD j 0) = f2 at *
  generalize ((X.getD i 0 : Nat) : Int) = p1 at *
  generalize ((X.getD j 0 : Nat) : Int) = p2 at *
  have HR := Kp.mk (((((((H.out.stored (i * 2) (.int .i64 f2)).1).stored (i * 2 + 1) (.int .i64 p2)).1).stored (j * 2) (.int .i64 f1)).1.stored (j * 2 + 1) (.int .i64 p1)).1)
  rw [HSW.out] at HR
  go_enter Tryz.func177, Tryz.ntmps177
  go_wp2
  obtain ⟨a1, ha1⟩ := cell?_setCell_some (w := W) (p := ⟨g, i * 2, none⟩) (x := .int .i64 f2) (q := ⟨g, i * 2 + 1, none⟩) c1
  obtain ⟨a2, ha2⟩ := cell?_setCell_some (w := W) (p := ⟨g, i * 2, none⟩) (x := .int .i64 f2) (q := ⟨g, j * 2, none⟩) d0
  obtain ⟨a3, ha3⟩ := cell?_setCell_some (p := ⟨g, i * 2 + 1, none⟩) (x := .int .i64 p2) (q := ⟨g, j * 2, none⟩) ha2
  obtain ⟨b2, hb2⟩ := cell?_setCell_some (w := W) (p := ⟨g, i * 2, none⟩) (x := .int .i64 f2) (q := ⟨g, j * 2 + 1, none⟩) d1
  obtain ⟨b3, hb3⟩ := cell?_setCell_some (p := ⟨g, i * 2 + 1, none⟩) (x := .int .i64 p2) (q := ⟨g, j * 2 + 1, none⟩) hb2
  obtain ⟨b4, hb4⟩ := cell?_setCell_some (p := ⟨g, j * 2, none⟩) (x := .int .i64 f1) (q := ⟨g, j * 2 + 1, none⟩) hb3
  have g0 := f0 (i * 2)
  have g1 := f0 (i * 2 + 1)
  have g2 := f0 (j * 2)
  have g3 := f0 (j * 2 + 1)
  have HG := Kp.mk (grown_trans (grown_trans (grown_trans (grown_set W g (i * 2) (.int .i64 f2)) (grown_set _ g (i * 2 + 1) (.int .i64 p2))) (grown_set _ g (j * 2) (.int .i64 f1))) (grown_set _ g (j * 2 + 1) (.int .i64 p1)))
  clear f0
  have HRD := Kp.mk (own_below HR.out ((Below.refl _ _).drew))
  have HGD := Kp.mk (grown_drew HG.out)
  clear HR HG
  go_region
  go_wp2
  go_end0
  exact ⟨rfl, HRD, HGD⟩

theorem info_fd : (Tryz.prog.info? 163).map (fun i => (i.zero, i.size, i.bytes)) = some (some (.agg #[.int .i64 0, .int .i64 0]), 2, 16) := by kernel_rfl
theorem tFds : ElemTy Tryz.prog 156 163 2 16 (.agg #[.int .i64 0, .int .i64 0]) :=
  ⟨Tryz.underlying156, by obtain ⟨i0, hi, h0, h1, h2⟩ := info_parts info_fd; exact ⟨i0, hi, h0, h1, h2⟩, rfl, by decide⟩

set_option maxHeartbeats 1000000 in
theorem klen_any (sa : Option Addr) (n cap : Nat) (W : World) : Calls Tryz.prog 111 #[.slice sa n cap] W fun e w' => e = .returned (.int .i64 (n : Int)) ∧ W = w' := by
  go_enter Tryz.func111, Tryz.ntmps111
  go_wp2
  go_ret
  exact ⟨rfl, rfl⟩

/-- What is found so far: the box b0 holds a slice of an own row. -/
structure KI (b0 B : Nat) (far : Nat → Int) (X : List Nat) (W : World) : Prop where
  at_ : ∃ sa cap, Box W b0 #[.slice sa X.length cap] 156 ∧ W.ownsRow B 163 2 (.slice sa X.length cap) X.length (flat (fdL far) X)
  lt : b0 < B
  size : B ≤ W.heap.size
/-- All but the box and rows of what is found is kept. -/
structure KeepF (b0 B : Nat) (w W : World) : Prop where
  os : W.os = w.os
  tape : W.tape = w.tape
  output : W.output = w.output
  size : w.heap.size ≤ W.heap.size
  block : ∀ i, i < w.heap.size → i ≠ b0 → (i < B ∨ ∀ cs fr, w.heap[i]? ≠ some (.cells cs 163 fr)) → W.heap[i]? = w.heap[i]?
theorem KeepF.refl (b0 B : Nat) (w : World) : KeepF b0 B w w := ⟨rfl, rfl, rfl, Nat.le_refl _, fun _ _ _ _ => rfl⟩
theorem KeepF.trans {b0 B : Nat} {a b c : World} (h : KeepF b0 B a b) (k : KeepF b0 B b c) : KeepF b0 B a c :=
  ⟨k.os.trans h.os, k.tape.trans h.tape, k.output.trans h.output, Nat.le_trans h.size k.size, fun i hi hne hor => by
    have h1 := h.block i hi hne hor
    rw [k.block i (Nat.lt_of_lt_of_le hi h.size) hne (hor.imp_right (fun hf cs fr => by rw [h1]; exact hf cs fr)), h1]⟩
theorem KeepF.below {b0 B : Nat} {a b : World} (h : Below a.heap.size a b) : KeepF b0 B a b := ⟨h.os, h.tape, h.output, h.size, fun i hi _ _ => h.block i hi⟩
theorem KeepF.box0 {b0 B : Nat} {a b : World} (h : a.grownBy b (some b0)) : KeepF b0 B a b := ⟨h.os, h.tape, h.output, h.size, fun i hi hne _ => h.block i hi (fun e => hne (by cases e; rfl))⟩
theorem KeepF.row {b0 B n m c : Nat} {sa : Option Addr} {xs : List Value} {a b : World} (h : a.grownBy b (blk sa)) (ho : a.ownsRow B 163 2 (.slice sa m c) n xs) : KeepF b0 B a b :=
  ⟨h.os, h.tape, h.output, h.size, fun i hi hne hor => h.block i hi (fun e => by
    rcases ho.2 with ⟨hv, _⟩ | ⟨g, cap, cur, hv, hB, hg, _⟩
    · simp only [Value.slice.injEq] at hv
      rw [hv.1] at e; cases e
    · simp only [Value.slice.injEq] at hv
      rw [hv.1] at e
      have e' : i = g := by simpa [blk] using e
      subst e'
      rcases hor with hor | hor
      · omega
      · exact hor _ _ hg)⟩
theorem KeepF.box {b0 B b : Nat} {cs : Array Value} {t : TypeId} {w W : World} (h : KeepF b0 B w W) (hb : Box w b cs t) (hne : b ≠ b0) (ht : t ≠ 163) : Box W b cs t :=
  (h.block b hb.lt hne (.inr (fun cs' fr e => by
    have hb' : w.heap[b]? = some (.cells cs t (0, 0)) := hb
    rw [hb'] at e
    simp only [Option.some.injEq, Obj.cells.injEq] at e
    exact ht e.2.1))).trans hb
theorem KeepF.to {b0 B r : Nat} {w W : World} (h : KeepF b0 B w W) (h1 : r ≤ b0) (h2 : r ≤ B) (h3 : r ≤ w.heap.size) : Below r w W := ⟨h.os, h.tape, h.output, h.size, fun i hi => h.block i (by omega) (by omega) (.inl (by omega))⟩

abbrev hlt (far : Nat → Int) (a b : Nat) : Bool := nlt far b a
theorem ki_box {b0 B : Nat} {far : Nat → Int} {X : List Nat} {W w' : World} (h : KI b0 B far X W) (hb : Below W.heap.size W w') : KI b0 B far X w' := by
  obtain ⟨sa, cap, h1, h2⟩ := h.at_
  exact ⟨⟨sa, cap, h1.below hb, own_below h2 hb⟩, h.lt, Nat.le_trans h.size hb.size⟩
theorem grow_below (w : World) (q : Nat) (os : Array Obj) : Below w.heap.size w (Sort.grow (w.drewN q) os) := by
  refine ⟨rfl, rfl, rfl, by simp [Sort.grow], fun i hi => ?_⟩
  rw [heap_grow_old _ _ (by simpa using hi)]
  rfl

set_option maxRecDepth 100000 in
set_option maxHeartbeats 4000000 in
theorem kpush_any (b0 B : Nat) (far : Nat → Int) (X : List Nat) (x : Nat) (W : World) (h : KI b0 B far X W) (hn : X.length ≤ 1000) :
    Calls Tryz.prog 179 #[.pointer (some ⟨b0, 0, none⟩), .iface 163 (.agg #[.int .i64 (far x), .int .i64 (x : Int)])] W fun e w' => e = .returned (.tuple #[]) ∧ Kp (KI b0 B far (X ++ [x]) w') ∧ Kp (KeepF b0 B W w') := by
  obtain ⟨sa, cap, hb, ho⟩ := h.at_
  have HBS := Kp.mk (And.intro h.lt h.size)
  have c0 : W.cell? ⟨b0, 0, none⟩ = some (.slice sa X.length cap) := hb.cell 0 rfl
  have HB := Kp.mk hb
  have HO := Kp.mk ho
  have HF := Kp.mk (show flat (fdL far) X ++ [.int .i64 (far x), .int .i64 (x : Int)] = flat (fdL far) (X ++ [x]) from by rw [flat_append]; rfl)
  have HXL := Kp.mk (show (X ++ [x]).length = X.length + 1 by simp)
  clear h hb ho
  obtain ⟨n, hnl⟩ : ∃ n, X.length = n := ⟨_, rfl⟩
  rw [hnl] at c0 HB HO HXL hn
  obtain ⟨f, hf⟩ : ∃ f, far x = f := ⟨_, rfl⟩
  rw [hf] at HF ⊢
  clear hnl hf
  have hBz : B ≤ W.heap.size := HBS.out.2
  have hta : ∀ w, (Instr.typeAssert (.iface 163 (.agg #[.int .i64 f, .int .i64 (x : Int)])) 20 163 false).run Tryz.prog w = .ok (.agg #[.int .i64 f, .int .i64 (x : Int)]) w := fun _ => by kernel_rfl
  have hD : Below W.heap.size W (W.alloc (.cells #[.int .i64 f, .int .i64 (x : Int)] 163)).drew := (below_alloc (Nat.le_refl _) _).drew
  have c0' : (W.alloc (.cells #[.int .i64 f, .int .i64 (x : Int)] 163)).drew.cell? ⟨b0, 0, none⟩ = some (.slice sa n cap) := (HB.out.below hD).cell 0 rfl
  go_enter Tryz.func179, Tryz.ntmps179
  go_wp2
  refine wp_region_noPanic ?_
  refine wp_region_held_drew (S := (fun _ => True)) (by kernel_rfl) ?_ (fun hHeld => ?_)
  · exact True.intro
  refine wpAnyH_take (i := 0) (v := ?_) rfl (by kernel_rfl) (by kernel_rfl) (by kernel_rfl) (fun _ _ _ h => h) (Or.inl ⟨by rfl, ?_⟩) (by assumption) ?_
  rotate_left
  · (intro w hSw; (try dsimp only at hSw); go_simp; try with_reducible rfl)
  try simp only [Act.put]
  refine wpAnyH_take (i := 1) (v := ?_) rfl (by kernel_rfl) (by kernel_rfl) (by kernel_rfl) (fun _ _ _ h => h) (Or.inl ⟨by rfl, ?_⟩) (by assumption) ?_
  rotate_left
  · (intro w hSw; (try dsimp only at hSw); go_simp; try with_reducible rfl)
  try simp only [Act.put]
  refine wpAnyH_take (i := 2) (v := ?_) rfl (by kernel_rfl) (by kernel_rfl) (by kernel_rfl) (fun _ _ _ h => h) (Or.inl ⟨by rfl, ?_⟩) (by assumption) ?_
  rotate_left
  · (intro w hSw; (try dsimp only at hSw); go_simp; try with_reducible rfl)
  try simp only [Act.put]
  refine wpAnyH_take (i := 4) (v := ?_) rfl (by kernel_rfl) (by kernel_rfl) (by kernel_rfl) (fun _ _ _ h => h) (Or.inl ⟨by rfl, ?_⟩) (by assumption) ?_
  rotate_left
  · (intro w hSw; (try dsimp only at hSw); go_simp; try with_reducible rfl)
  try simp only [Act.put]
  refine wpAnyH_ready (rs := [3, 5]) (by kernel_rfl) (by simp) ?_
  refine AllReadyH.cons rfl (fun K hK => ?_) (AllReadyH.cons rfl (fun K hK => ?_) AllReadyH.nil)
  go_simp
  refine hK.out _ _ ?_ (fun hHeld => ?_)
  · exact True.intro
  clear hK K
  try simp only [Act.put]
  refine wpAnyH_ready (rs := [5]) (by kernel_rfl) (by simp) ?_
  refine AllReadyH.cons rfl (fun K hK => ?_) AllReadyH.nil
  go_simp
  refine hK.out _ _ ?_ (fun hHeld => ?_)
  · exact True.intro
  clear hK K
  try simp only [Act.put]
  refine wpAnyH_ready (rs := [6]) (by kernel_rfl) (by simp) ?_
  refine AllReadyH.cons rfl (fun K hK => ?_) AllReadyH.nil
  go_simp
  refine hK.out _ _ ?_ (fun hHeld => ?_)
  · exact True.intro
  clear hK K
  try simp only [Act.put]
  refine wpAnyH_ready (rs := [7]) (by kernel_rfl) (by simp) ?_
  refine AllReadyH.cons rfl (fun K hK => ?_) AllReadyH.nil
  refine step_push tFds (by rfl) _ _ (by rfl) B sa n cap _ (by rfl) ((HO.out.alloc _).drew) 1 W.heap.size _ (heap_alloc_new W _) (by rfl) (by rfl) (by simp [Value.oneCell']) (by omega) (by omega) (by omega) (by show B ≤ (W.alloc _).heap.size; rw [alloc_size]; omega) ?_
  intro sa' cap' w2 hown2 hg2 hno2
  have hb2 := box_grow (HB.out.below hD) hg2 (row_box (own_below HO.out hD) (HB.out.below hD) (by decide))
  have c2 : w2.cell? ⟨b0, 0, none⟩ = some (.slice sa n cap) := hb2.cell 0 rfl
  have f2 := frozen_of_row w2 b0 0 _ _ hb2
  refine hK.out _ _ ?_ (fun hHeld => ?_)
  · exact True.intro
  clear hK K
  try simp only [Act.put]
  refine wpAnyH_take (i := 8) (v := ?_) rfl (by kernel_rfl) (by kernel_rfl) (by kernel_rfl) (fun _ _ _ h => h) (Or.inl ⟨by rfl, ?_⟩) (by assumption) ?_
  rotate_left
  · (intro w hSw; (try dsimp only at hSw); go_simp; try with_reducible rfl)
  try simp only [Act.put]
  refine wpAnyH_ready (rs := [9]) (by kernel_rfl) (by simp) ?_
  refine AllReadyH.cons rfl (fun K hK => ?_) AllReadyH.nil
  go_simp
  refine hK.out _ _ ?_ (fun hHeld => ?_)
  · exact True.intro
  clear hK K
  try simp only [Act.put]
  refine wpAnyH_done (by kernel_rfl) ?_ _
  refine NoPanic.normal ?_
  rotate_left
  go_simp
  refine hK.out _ _ ?_ (fun hHeld => ?_)
  · exact True.intro
  clear hK K
  try simp only [Act.put]
  refine wpAnyH_ready (rs := [3, 6]) (by kernel_rfl) (by simp) ?_
  refine AllReadyH.cons rfl (fun K hK => ?_) (AllReadyH.cons rfl (fun K hK => ?_) AllReadyH.nil)
  go_simp
  refine hK.out _ _ ?_ (fun hHeld => ?_)
  · exact True.intro
  clear hK K
  try simp only [Act.put]
  refine wpAnyH_ready (rs := [6]) (by kernel_rfl) (by simp) ?_
  refine AllReadyH.cons rfl (fun K hK => ?_) AllReadyH.nil
  go_simp
  refine hK.out _ _ ?_ (fun hHeld => ?_)
  · exact True.intro
  clear hK K
  try simp only [Act.put]
  refine wpAnyH_ready (rs := [7]) (by kernel_rfl) (by simp) ?_
  refine AllReadyH.cons rfl (fun K hK => ?_) AllReadyH.nil
  refine step_push tFds (by rfl) _ _ (by rfl) B sa n cap _ (by rfl) ((HO.out.alloc _).drew) 1 W.heap.size _ (heap_alloc_new W _) (by rfl) (by rfl) (by simp [Value.oneCell']) (by omega) (by omega) (by omega) (by show B ≤ (W.alloc _).heap.size; rw [alloc_size]; omega) ?_
  intro sa' cap' w2 hown2 hg2 hno2
  have hb2 := box_grow (HB.out.below hD) hg2 (row_box (own_below HO.out hD) (HB.out.below hD) (by decide))
  have c2 : w2.cell? ⟨b0, 0, none⟩ = some (.slice sa n cap) := hb2.cell 0 rfl
  have f2 := frozen_of_row w2 b0 0 _ _ hb2
  refine hK.out _ _ ?_ (fun hHeld => ?_)
  · exact True.intro
  clear hK K
  try simp only [Act.put]
  refine wpAnyH_take (i := 8) (v := ?_) rfl (by kernel_rfl) (by kernel_rfl) (by kernel_rfl) (fun _ _ _ h => h) (Or.inl ⟨by rfl, ?_⟩) (by assumption) ?_
  rotate_left
  · (intro w hSw; (try dsimp only at hSw); go_simp; try with_reducible rfl)
  try simp only [Act.put]
  refine wpAnyH_ready (rs := [9]) (by kernel_rfl) (by simp) ?_
  refine AllReadyH.cons rfl (fun K hK => ?_) AllReadyH.nil
  go_simp
  refine hK.out _ _ ?_ (fun hHeld => ?_)
  · exact True.intro
  clear hK K
  try simp only [Act.put]
  refine wpAnyH_done (by kernel_rfl) ?_ _
  refine NoPanic.normal ?_
  rotate_left
  go_simp
  refine hK.out _ _ ?_ (fun hHeld => ?_)
  · exact True.intro
  clear hK K
  try simp only [Act.put]
  refine wpAnyH_ready (rs := [3]) (by kernel_rfl) (by simp) ?_
  refine AllReadyH.cons rfl (fun K hK => ?_) AllReadyH.nil
  go_simp
  refine hK.out _ _ ?_ (fun hHeld => ?_)
  · exact True.intro
  clear hK K
  try simp only [Act.put]
  refine wpAnyH_ready (rs := [7]) (by kernel_rfl) (by simp) ?_
  refine AllReadyH.cons rfl (fun K hK => ?_) AllReadyH.nil
  refine step_push tFds (by rfl) _ _ (by rfl) B sa n cap _ (by rfl) ((HO.out.alloc _).drew) 1 W.heap.size _ (heap_alloc_new W _) (by rfl) (by rfl) (by simp [Value.oneCell']) (by omega) (by omega) (by omega) (by show B ≤ (W.alloc _).heap.size; rw [alloc_size]; omega) ?_
  intro sa' cap' w2 hown2 hg2 hno2
  have hb2 := box_grow (HB.out.below hD) hg2 (row_box (own_below HO.out hD) (HB.out.below hD) (by decide))
  have c2 : w2.cell? ⟨b0, 0, none⟩ = some (.slice sa n cap) := hb2.cell 0 rfl
  have f2 := frozen_of_row w2 b0 0 _ _ hb2
  refine hK.out _ _ ?_ (fun hHeld => ?_)
  · exact True.intro
  clear hK K
  try simp only [Act.put]
  refine wpAnyH_take (i := 8) (v := ?_) rfl (by kernel_rfl) (by kernel_rfl) (by kernel_rfl) (fun _ _ _ h => h) (Or.inl ⟨by rfl, ?_⟩) (by assumption) ?_
  rotate_left
  · (intro w hSw; (try dsimp only at hSw); go_simp; try with_reducible rfl)
  try simp only [Act.put]
  refine wpAnyH_ready (rs := [9]) (by kernel_rfl) (by simp) ?_
  refine AllReadyH.cons rfl (fun K hK => ?_) AllReadyH.nil
  go_simp
  refine hK.out _ _ ?_ (fun hHeld => ?_)
  · exact True.intro
  clear hK K
  try simp only [Act.put]
  refine wpAnyH_done (by kernel_rfl) ?_ _
  refine NoPanic.normal ?_
  rotate_left
  all_goals
    have HO2 := Kp.mk hown2
    have HB2 := Kp.mk hb2
    have HK2 := Kp.mk ((KeepF.below (b0 := b0) (B := B) hD).trans (KeepF.row hg2 (own_below HO.out hD)))
    clear hD hown2 hg2 hno2 hb2
    have HKI := Kp.mk (show KI b0 B far (X ++ [x]) (w2.setCell ⟨b0, 0, none⟩ (.slice sa' (n + 1) cap')) from by
      have hne := row_box HO2.out HB2.out (by decide)
      refine ⟨⟨sa', cap', ?_, ?_⟩, HBS.out.1, ?_⟩
      · rw [HXL.out]; exact box_put (i := 0) HB2.out (.slice sa' (n + 1) cap')
      · rw [HXL.out, ← HF.out]; exact own_keep HO2.out (grown_set w2 b0 0 _) (fun k hk => by cases hk; exact hne)
      · rw [size_setCell]; exact Nat.le_trans hBz HK2.out.size)
    have HKF := Kp.mk (HK2.out.trans (KeepF.box0 (B := B) (grown_set w2 b0 0 (.slice sa' (n + 1) cap'))))
    clear HO2 HB2 HK2
    go_wp2
    go_end0
    exact ⟨rfl, HKI, HKF⟩

theorem own_frontK {w : World} {B e size n m cap : Nat} {sa : Option Addr} {xs : List Value} (h : w.ownsRow B e size (.slice sa n cap) n xs) (hm : m ≤ n) : w.ownsRow B e size (.slice sa m cap) m (xs.take (m * size)) := by
  have hle := Nat.mul_le_mul_right size hm
  have h1 := h.1
  refine ⟨by rw [List.length_take, h1]; omega, ?_⟩
  rcases h.2 with ⟨hv, hn⟩ | ⟨g, cap', cur, hv, hB, hg, h2, h3, h4, h5⟩
  · simp only [Value.slice.injEq] at hv
    exact .inl ⟨by rw [hv.1, hv.2.2, show m = 0 by omega], by omega⟩
  · simp only [Value.slice.injEq, true_and] at hv
    obtain ⟨rfl, rfl⟩ := hv
    refine .inr ⟨g, _, cur, rfl, hB, hg, by omega, h3, h4, ?_⟩
    rw [← h5, List.take_take, Nat.min_eq_left hle]

set_option maxRecDepth 100000 in
set_option maxHeartbeats 4000000 in
theorem kpop_any (b0 B : Nat) (far : Nat → Int) (X : List Nat) (x : Nat) (W : World) (h : KI b0 B far (X ++ [x]) W) (hn : X.length ≤ 1000) :
    Calls Tryz.prog 178 #[.pointer (some ⟨b0, 0, none⟩)] W fun e w' => e = .returned (.iface 163 (.agg #[.int .i64 (far x), .int .i64 (x : Int)])) ∧ Kp (KI b0 B far X w') ∧ Kp (KeepF b0 B W w') := by
  obtain ⟨sa, cap, hb, ho⟩ := h.at_
  have hxl : (X ++ [x]).length = X.length + 1 := by simp
  rw [hxl] at hb ho
  have HBS := Kp.mk (And.intro h.lt h.size)
  obtain ⟨g, rfl, _, _⟩ := own_some ho (by omega)
  have c0 : W.cell? ⟨b0, 0, none⟩ = some (.slice (some ⟨g, 0, none⟩) (X.length + 1) cap) := hb.cell 0 rfl
  obtain ⟨d0, d1⟩ := fd_at ho hxl X.length (by omega)
  have hxx : (X ++ [x]).getD X.length 0 = x := by rw [getD_at _ _ (by rw [hxl]; omega)]; simp
  rw [hxx] at d0 d1
  have HF := Kp.mk (show (flat (fdL far) (X ++ [x])).take (X.length * 2) = flat (fdL far) X from by rw [flat_take (fdL_len far)]; simp)
  have HOF := Kp.mk (own_frontK ho (m := X.length) (by omega))
  rw [HF.out] at HOF
  have hcap := (own_slc ho).le
  have hcm := (own_slc ho).capm
  unfold maxLen at hcm
  have hal := below_alloc (Nat.le_refl W.heap.size) (.cells #[.int .i64 (far x), .int .i64 (x : Int)] 163)
  have hb2 := hb.below hal
  have HB2 := Kp.mk hb2
  have HO2 := Kp.mk (own_below HOF.out hal)
  have HAL := Kp.mk hal
  have hbne := Kp.mk (Nat.ne_of_lt hb.lt)
  have HX := Kp.mk (Box.new W #[.int .i64 (far x), .int .i64 (x : Int)] 163)
  clear h hb ho hxl hxx HF HOF
  obtain ⟨n, hnl⟩ : ∃ n, X.length = n := ⟨_, rfl⟩
  have HNL := Kp.mk hnl
  rw [hnl] at c0 d0 d1 hn hcap hb2 HB2 HO2
  obtain ⟨f, hf⟩ : ∃ f, far x = f := ⟨_, rfl⟩
  rw [hf] at d0 HAL HX hal hb2 HB2 HO2 ⊢
  clear hf hnl
  have e1 : IntKind.i64.wrap ((n : Int) + 1 - 1) = (n : Int) := by rw [show (n : Int) + 1 - 1 = n by omega]; exact IntWalk.i64_in _ (by omega)
  have hnc : n ≤ cap := by omega
  have c2 : (W.alloc (.cells #[.int .i64 f, .int .i64 (x : Int)] 163)).cell? ⟨b0, 0, none⟩ = some (.slice (some ⟨g, 0, none⟩) (n + 1) cap) := hb2.cell 0 rfl
  have f2 := frozen_of_row _ b0 0 _ _ hb2
  clear hal
  have x0 : (W.alloc (.cells #[.int .i64 f, .int .i64 (x : Int)] 163)).cell? ⟨W.heap.size, 0, none⟩ = some (.int .i64 f) := HX.out.cell 0 rfl
  have x1 : (W.alloc (.cells #[.int .i64 f, .int .i64 (x : Int)] 163)).cell? ⟨W.heap.size, 1, none⟩ = some (.int .i64 (x : Int)) := HX.out.cell 1 rfl
  have hne := hbne.out
  have hne' : ¬ W.heap.size = b0 := fun e => hne e.symm
  obtain ⟨W2, hW2⟩ : ∃ W2, W.alloc (.cells #[.int .i64 f, .int .i64 (x : Int)] 163) = W2 := ⟨_, rfl⟩
  rw [hW2] at c2 f2 x0 x1 HB2 HO2 HAL
  have HKI := Kp.mk (show KI b0 B far X (W2.setCell ⟨b0, 0, none⟩ (.slice (some ⟨g, 0, none⟩) n cap)) from by
    have hne := row_box HO2.out HB2.out (by decide)
    refine ⟨⟨some ⟨g, 0, none⟩, cap, ?_, ?_⟩, HBS.out.1, ?_⟩
    · rw [HNL.out]; exact box_put (i := 0) HB2.out (.slice (some ⟨g, 0, none⟩) n cap)
    · rw [HNL.out]; exact own_keep HO2.out (grown_set W2 b0 0 _) (fun k hk => by cases hk; exact hne)
    · rw [size_setCell]; exact Nat.le_trans HBS.out.2 HAL.out.size)
  have HKF := Kp.mk ((KeepF.below (b0 := b0) (B := B) HAL.out).trans (KeepF.box0 (B := B) (grown_set W2 b0 0 (.slice (some ⟨g, 0, none⟩) n cap))))
  clear hb2 HX HB2 HO2 HAL
  go_enter Tryz.func178, Tryz.ntmps178
  go_wp2
  go_ret
  exact ⟨rfl, HKI, HKF⟩

def fdV (far : Nat → Int) (x : Nat) : Value := .iface 163 (.agg #[.int .i64 (far x), .int .i64 (x : Int)])
theorem kends (b0 B : Nat) (far : Nat → Int) (w0 : World) : HpEnds (kfn b0) (fdV far) (fun _ => True) (fun X W => KI b0 B far X W ∧ KeepF b0 B w0 W ∧ X.length ≤ 1000) where
  push X W x h _ hn := by
    obtain ⟨h1, h2, h3⟩ := h
    refine ⟨_, _, reach_push W b0 _, ?_⟩
    refine (kpush_any b0 B far X x W h1 h3).mono ?_
    rintro e w' ⟨rfl, k1, k2⟩
    exact ⟨rfl, ⟨k1.out, h2.trans k2.out, by simp; omega⟩⟩
  pop X W x h := by
    obtain ⟨h1, h2, h3⟩ := h
    simp at h3
    refine ⟨_, _, reach_pop W b0, ?_⟩
    refine (kpop_any b0 B far X x W h1 (by omega)).mono ?_
    rintro e w' ⟨rfl, k1, k2⟩
    exact ⟨rfl, ⟨k1.out, h2.trans k2.out, by omega⟩⟩

theorem kops (b0 B : Nat) (far : Nat → Int) (w0 : World) : HpOps (kfn b0) (hlt far) (fun X W => KI b0 B far X W ∧ KeepF b0 B w0 W ∧ X.length ≤ 1000) where
  less X W i j h hi hj := by
    obtain ⟨h1, h2, h3⟩ := h
    obtain ⟨sa, cap, hb, ho⟩ := h1.at_
    refine ⟨_, _, reach_less W b0 sa X.length cap _ _ (hb.cell 0 rfl), ?_⟩
    refine (less_any B far X sa X.length cap i j W ho rfl hi hj h3).mono ?_
    rintro e w' ⟨rfl, q, os, rfl⟩
    have hbl := grow_below W q os
    exact ⟨rfl, ⟨ki_box h1 hbl, h2.trans (KeepF.below hbl), h3⟩⟩
  swap X W i j h hi hj := by
    obtain ⟨h1, h2, h3⟩ := h
    obtain ⟨sa, cap, hb, ho⟩ := h1.at_
    refine ⟨_, _, reach_swap W b0 sa X.length cap _ _ (hb.cell 0 rfl), ?_⟩
    refine (kswap_any B far X sa X.length cap i j W ho rfl hi hj h3).mono ?_
    rintro e w' ⟨rfl, ho', hg⟩
    have hl := Hp.swp_length X i j
    refine ⟨rfl, ⟨⟨⟨sa, cap, ?_, ?_⟩, h1.lt, Nat.le_trans h1.size hg.out.size⟩, h2.trans (KeepF.row hg.out ho), by rw [hl]; exact h3⟩⟩
    · rw [hl]; exact box_grow hb hg.out (row_box ho hb (by decide))
    · rw [hl]; exact ho'.out
  len X W h := by
    obtain ⟨h1, h2, h3⟩ := h
    obtain ⟨sa, cap, hb, ho⟩ := h1.at_
    refine ⟨_, _, reach_len W b0 sa X.length cap (hb.cell 0 rfl), ?_⟩
    refine (klen_any sa X.length cap W).mono ?_
    rintro e w' ⟨rfl, rfl⟩
    exact ⟨rfl, ⟨h1, h2, h3⟩⟩

end Go.Proofs.YtladgklnacihkaaGreat

/- A region that draws: quiet operations in whatever order, and a forced tail behind them. -/
namespace Go.Proofs.YtladgklnacihkaaGreat
set_option linter.unusedVariables false
open Go.RowKit

section
variable {P : Program} {ops : Array Oper} {md : Region.Mode} {C : World → Prop}

/-- The first n operations come up, in whatever order, each of them quiet; then L. -/
def headQ (P : Program) (md : Region.Mode) (ops : Array Oper) (C : World → Prop) (n : Nat) (L : Array Bool → Act → Prop) : Nat → Array Bool → Act → Prop
  | 0, listed, a => L listed a
  | f + 1, listed, a => Region.ready md ops listed ≠ [] ∧ ∀ i ∈ Region.ready md ops listed, i < n ∧ qOp P ops C i (headQ P md ops C n L f (listed.setIfInBounds i true)) a
theorem any_of_headQ {n g : Nat} {L : Array Bool → Act → Prop} {Q : Exit → Act → World → Prop} (hL : ∀ listed a, L listed a → ∀ w, C w → wpAny P md ops Q g listed a w) :
    ∀ (f : Nat) (listed : Array Bool) (a : Act) (w : World), C w → headQ P md ops C n L f listed a → wpAny P md ops Q (f + g) listed a w
  | 0, listed, a, w, hw, h => by rw [Nat.zero_add]; exact hL _ _ h w hw
  | f + 1, listed, a, w, hw, h => by
    rw [show f + 1 + g = (f + g) + 1 by omega]
    exact ⟨fun h0 => absurd h0 h.1, fun i hi => wpOp_of_qOp hw (fun a' w' hw' h' => any_of_headQ hL f _ a' w' hw' h') (h.2 i hi).2⟩
theorem headQ_first {n i : Nat} {oi : Oper} {v : Value} {L : Array Bool → Act → Prop} (hi : ops[i]? = some oi) (hsel : ∀ (j : Nat) (o : Oper) cs b, ops[j]? = some o → o.op ≠ .select cs b)
    (hs : Region.sinkB md ops n = true) (hc : Region.chainB md ops n = true) (hn : n < ops.size) (hin : i < n) (hdone : ∀ listed a, L listed a → ∀ j ∈ Region.ready md ops listed, n ≤ j) :
    ∀ (f : Nat) (listed : Array Bool) (a : Act), HeadInv md ops n listed →
      (∀ j oj, ops[j]? = some oj → j ≠ i → listed.getD j true = false → (∀ e ∈ oj.after, Region.binds md e = true → e.on ≠ i) → oi.apart ops oj = true) →
      i ∈ Region.ready md ops listed → YieldsIn P ops C oi v a →
      headQ P md ops C n L f (listed.setIfInBounds i true) (a.put oi.dst v) → headQ P md ops C n L (f + 1) listed a := by
  intro f
  induction f with
  | zero =>
    intro listed a inv _ hr hy H
    refine ⟨fun h => (by rw [h] at hr; cases hr), fun j hj => ?_⟩
    have hjn : j < n := by
      by_cases h : j < n
      · exact h
      · exact absurd hj (tail_waits hs hc hn inv _ i rfl hin (mem_ready.1 hr).1 j (by omega))
    by_cases hji : j = i
    · subst hji; exact ⟨hjn, hy.qOp hi H⟩
    · have := hdone _ _ H j (ready_mono hj hji)
      omega
  | succ f ih =>
    intro listed a inv hfree hr hy H
    refine ⟨fun h => (by rw [h] at hr; cases hr), fun j hj => ?_⟩
    have hjn : j < n := by
      by_cases h : j < n
      · exact h
      · exact absurd hj (tail_waits hs hc hn inv _ i rfl hin (mem_ready.1 hr).1 j (by omega))
    refine ⟨hjn, ?_⟩
    by_cases hji : j = i
    · subst hji; exact hy.qOp hi H
    · have h1 := (H.2 j (ready_mono hj hji)).2
      obtain ⟨hjun, oj, hoj, hall⟩ := mem_ready.1 hj
      have hnot : ∀ e ∈ oj.after, Region.binds md e = true → e.on ≠ i := fun e he hb heq => by
        have h2 := hall e he hb
        rw [heq, getD_both (mem_ready.1 hr).1] at h2
        cases h2
      have h2 := qOp_put hoj (hfree j oj hoj hji hjun hnot) (fun cs b => hsel i oi cs b hi) (fun cs b => hsel j oj cs b hoj) hy h1
      refine qOp_mono (fun a' h3 => ih (listed.setIfInBounds j true) a' (inv.set hj hjn) ?_ (ready_mono hr (Ne.symm hji)) h3.1 ?_) h2
      · intro k ok hk hki hun hno
        refine hfree k ok hk hki ?_ hno
        by_cases hjk : j = k
        · subst hjk; exact hjun
        · rw [getD_set_ne true hjk] at hun; exact hun
      · rw [Array.setIfInBounds_comm _ _ hji]
        exact h3.2
theorem headQ_lex {n g : Nat} {Lq : Act → Prop} (hsel : Region.noSelect ops = true) (hs : Region.sinkB md ops n = true) (hc : Region.chainB md ops n = true) (hn : n < ops.size) :
    ∀ (l : List Oper) (k : Nat) (listed : Array Bool) (a : Act), (∀ j, j < l.length → l[j]? = ops[k + j]?) → k + l.length = n → HeadInv md ops n listed →
    Region.lexHead md ops g l.length k listed = true → wpQuiet P ops C Lq l a →
    headQ P md ops C n (fun listed' a' => Region.seqB md ops g n listed' = true ∧ Lq a') l.length listed a
  | [], k, listed, a, _, hk, _, hB, h => by
    obtain rfl : k = n := by simpa using hk
    exact ⟨by simpa [Region.lexHead] using hB, h⟩
  | o :: l, k, listed, a, hl, hk, inv, hB, h => by
    have h0 : ops[k]? = some o := by simpa using (hl 0 (by simp)).symm
    simp only [List.length_cons, Region.lexHead, Bool.and_eq_true] at hB
    obtain ⟨⟨hr, hf⟩, hB'⟩ := hB
    have hkn : k < n := by simp only [List.length_cons] at hk; omega
    have hr' : k ∈ Region.ready md ops listed := by simpa using hr
    have hq : qOp P ops C k (wpQuiet P ops C Lq l) a := by unfold qOp; simp only [h0]; exact h
    obtain ⟨v, hy, hK⟩ := yieldsIn_of_qOp h0 hq
    refine headQ_first h0 (Region.noSelect_spec hsel) hs hc hn hkn (fun listed' a' hL => seqB_ready hL.1) l.length listed a inv (Region.free_spec h0 hf) hr' hy ?_
    refine headQ_lex hsel hs hc hn l (k + 1) _ _ (fun j hj => ?_) (by simp only [List.length_cons] at hk; omega) (inv.set hr' hkn) hB' hK
    have := hl (j + 1) (by simp; omega)
    simpa [Nat.add_assoc, Nat.add_comm 1 j] using this
/-- The first n operations are quiet in the class; the rest comes one by one. -/
theorem region_quiet_tail {id : Nat} {Q : Exit → Act → World → Prop} {a : Act} {w : World} {l : List Oper} (n : Nat) (C : World → Prop) (hm : P.follows .mixedOrders = true) (hB : Region.lexTailB .any l.toArray n = true) (hC : C w.drew)
    (h : wpQuiet P l.toArray C (fun a' => ∀ w', C w' → wpList P l.toArray Q (l.drop n) a' w') (l.take n) a) : (Code.region id l.toArray true).wp P Q a w := by
  simp only [Region.lexTailB, Bool.and_eq_true, decide_eq_true_eq] at hB
  obtain ⟨⟨⟨⟨hsel, hn⟩, hs⟩, hc⟩, hlex⟩ := hB
  have hn' : n < l.length := by simpa using hn
  have htl : (l.take n).length = n := by simp; omega
  have hdl : (l.drop n).length = l.toArray.size - n := by simp
  have inv0 : HeadInv .any l.toArray n (Array.replicate l.toArray.size false) :=
    ⟨by simp, fun j oj _ hl => (by rw [getD_replicate_false] at hl; cases hl), fun t _ ht => getD_in (by simpa using ht) (getD_replicate_false _ _)⟩
  have H := headQ_lex (md := .any) (g := l.toArray.size - n) hsel hs hc hn (l.take n) 0 _ a (fun j hj => by
    have hj' : j < n := by rw [htl] at hj; exact hj
    simp [hj']) (by simpa using htl) inv0 (by rw [htl]; exact hlex) h
  refine wp_region_any hm ?_
  have := any_of_headQ (Q := Q) (g := l.toArray.size - n) (fun listed a' hL w' hw' => by
    have := wpAny_of_seq (md := .any) (Q' := Q) (l.drop n) n listed a' w' (fun j => by simp [List.getElem?_drop]) (by rw [hdl]; exact hL.1) (hL.2 w' hw')
    rwa [hdl] at this) _ _ _ w.drew hC H
  rw [htl, show n + (l.toArray.size - n) = l.toArray.size by omega] at this
  exact this
/-- The same, in every later world. -/
theorem region_later_tail {id : Nat} {Q : Exit → Act → World → Prop} {a : Act} {w : World} {l : List Oper} (n : Nat) (hm : P.follows .mixedOrders = true) (hB : Region.lexTailB .any l.toArray n = true)
    (h : wpQuiet P l.toArray (fun w' => ∃ x : Later w, w' = x.val) (fun a' => ∀ w', (∃ x : Later w, w' = x.val) → wpList P l.toArray Q (l.drop n) a' w') (l.take n) a) : (Code.region id l.toArray true).wp P Q a w :=
  region_quiet_tail n (fun w' => ∃ x : Later w, w' = x.val) hm hB ⟨⟨w.drew, (Below.refl _ _).drew⟩, rfl⟩ h
end

end Go.Proofs.YtladgklnacihkaaGreat

/- near: far, coord: the walks; what a search is asked. -/
namespace Go.Proofs.YtladgklnacihkaaGreat
set_option linter.unusedVariables false
open Go.RowKit
open Hp (nlt nlt_iff Best KT KD HeapF)

def fdist (p q : Pt) : Int := (p.x - q.x) * (p.x - q.x) + (p.y - q.y) * (p.y - q.y)
def crd (p : Pt) (deep : Nat) : Int := if deep % 2 = 0 then p.x else p.y
def NearXY (p : Pt) : Prop := (-1048576 ≤ p.x ∧ p.x ≤ 1048576) ∧ (-1048576 ≤ p.y ∧ p.y ≤ 1048576)
theorem Pt.Near.xy {p : Pt} (h : p.Near) : NearXY p := ⟨h.1, h.2.1⟩
theorem sq_le (a : Int) (h1 : -2097152 ≤ a) (h2 : a ≤ 2097152) : 0 ≤ a * a ∧ a * a ≤ 4398046511104 := by
  have h3 : 0 ≤ a * a := by
    rcases Int.le_total 0 a with h | h
    · exact Int.mul_nonneg h h
    · have := Int.mul_nonneg (show 0 ≤ -a by omega) (show 0 ≤ -a by omega)
      rwa [Int.neg_mul_neg] at this
  refine ⟨h3, ?_⟩
  rcases Int.le_total 0 a with h | h
  · have := Int.mul_le_mul h2 h2 h (by omega)
    omega
  · have := Int.mul_le_mul (show -a ≤ 2097152 by omega) (show -a ≤ 2097152 by omega) (show 0 ≤ -a by omega) (by omega)
    rw [Int.neg_mul_neg] at this; omega
theorem fdist_bd {p q : Pt} (hp : NearXY p) (hq : NearXY q) : 0 ≤ fdist p q ∧ fdist p q ≤ 8796093022208 := by
  have h1 := sq_le (p.x - q.x) (by have := hp.1; have := hq.1; omega) (by have := hp.1; have := hq.1; omega)
  have h2 := sq_le (p.y - q.y) (by have := hp.2; have := hq.2; omega) (by have := hp.2; have := hq.2; omega)
  unfold fdist; omega
theorem crd_bd {p : Pt} (hp : NearXY p) (d : Nat) : -1048576 ≤ crd p d ∧ crd p d ≤ 1048576 := by
  unfold crd
  split
  · exact hp.1
  · exact hp.2
theorem crd_far (p q : Pt) (d : Nat) : (crd p d - crd q d) * (crd p d - crd q d) ≤ fdist p q := by
  have sq : ∀ a : Int, 0 ≤ a * a := fun a => by
    rcases Int.le_total 0 a with h | h
    · exact Int.mul_nonneg h h
    · have := Int.mul_nonneg (show 0 ≤ -a by omega) (show 0 ≤ -a by omega)
      rwa [Int.neg_mul_neg] at this
  have h1 := sq (p.x - q.x)
  have h2 := sq (p.y - q.y)
  unfold crd fdist
  split <;> omega

set_option maxRecDepth 100000 in
set_option maxHeartbeats 2000000 in
theorem far_any (p q : Pt) (w : World) (hp : NearXY p) (hq : NearXY q) :
    Calls Tryz.prog 110 #[.agg #[.int .i64 p.x, .int .i64 p.y, .int .i64 p.w], .agg #[.int .i64 q.x, .int .i64 q.y, .int .i64 q.w]] w fun e w' => e = .returned (.int .i64 (fdist p q)) ∧ Below w.heap.size w w' := by
  obtain ⟨u, hu⟩ : ∃ u, p.x - q.x = u := ⟨_, rfl⟩
  obtain ⟨v, hv⟩ : ∃ v, p.y - q.y = v := ⟨_, rfl⟩
  have hub : -2097152 ≤ u ∧ u ≤ 2097152 := by have := hp.1; have := hq.1; omega
  have hvb : -2097152 ≤ v ∧ v ≤ 2097152 := by have := hp.2; have := hq.2; omega
  have hu2 := sq_le u hub.1 hub.2
  have hv2 := sq_le v hvb.1 hvb.2
  have HE := Kp.mk (show fdist p q = u * u + v * v by unfold fdist; rw [hu, hv])
  obtain ⟨u2, hu3⟩ : ∃ z, u * u = z := ⟨_, rfl⟩
  obtain ⟨v2, hv3⟩ : ∃ z, v * v = z := ⟨_, rfl⟩
  rw [hu3] at hu2 HE
  rw [hv3] at hv2 HE
  have e1 : IntKind.i64.wrap (p.x - q.x) = u := by rw [hu]; exact IntWalk.i64_in _ (by omega)
  have e2 : IntKind.i64.wrap (p.y - q.y) = v := by rw [hv]; exact IntWalk.i64_in _ (by omega)
  have e3 : IntKind.i64.wrap (u * u) = u2 := by rw [hu3]; exact IntWalk.i64_in _ (by omega)
  have e4 : IntKind.i64.wrap (v * v) = v2 := by rw [hv3]; exact IntWalk.i64_in _ (by omega)
  have e5 : IntKind.i64.wrap (u2 + v2) = u2 + v2 := IntWalk.i64_in _ (by omega)
  have HB := Kp.mk ((below_alloc (Nat.le_refl w.heap.size) (.cells #[.int .i64 p.x, .int .i64 p.y, .int .i64 p.w] 28)).alloc (by rw [alloc_size]; omega) (.cells #[.int .i64 q.x, .int .i64 q.y, .int .i64 q.w] 28))
  rw [HE.out]
  clear HE hu hv hub hvb hu2 hv2 hu3 hv3 hp hq
  go_enter Tryz.func110, Tryz.ntmps110
  go_wp2
  go_ret
  exact ⟨rfl, HB.out⟩

set_option maxRecDepth 100000 in
set_option maxHeartbeats 2000000 in
theorem coord_any (p : Pt) (deep : Nat) (w : World) (hd : deep ≤ 1000) :
    Calls Tryz.prog 108 #[.agg #[.int .i64 p.x, .int .i64 p.y, .int .i64 p.w], .int .i64 (deep : Int)] w fun e w' => e = .returned (.int .i64 (crd p deep)) ∧ w' = w.alloc (.cells #[.int .i64 p.x, .int .i64 p.y, .int .i64 p.w] 28) := by
  have e1 : IntKind.i64.wrap ((deep : Int).tmod 2) = ((deep % 2 : Nat) : Int) := by
    rw [show (deep : Int).tmod 2 = ((deep % 2 : Nat) : Int) from (Int.ofNat_tmod _ _).symm]
    exact IntWalk.i64_in _ (by omega)
  by_cases h : deep % 2 = 0
  · rw [show crd p deep = p.x from if_pos h]
    rw [h] at e1
    have t1 : ((deep : Int) % 2 == 0) = true := by rw [beq_iff_eq]; omega
    have hm : (deep : Int) % 2 = 0 := by omega
    clear h
    go_enter Tryz.func108, Tryz.ntmps108
    go_wp2
    go_ret
    exact ⟨rfl, rfl⟩
  · rw [show crd p deep = p.y from if_neg h]
    rw [show deep % 2 = 1 by omega] at e1
    have hm : (deep : Int) % 2 = 1 := by omega
    clear h
    go_enter Tryz.func108, Tryz.ntmps108
    go_wp2
    go_ret
    exact ⟨rfl, rfl⟩

end Go.Proofs.YtladgklnacihkaaGreat

