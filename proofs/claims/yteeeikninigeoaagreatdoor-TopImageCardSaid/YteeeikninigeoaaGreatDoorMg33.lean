import Derived.Test.YteeeikninigeoaaGreatDoorMg32
import Derived.Test.YteeeikninigeoaaGreatDoorMg31
import Derived.Test.YteeeikninigeoaaGreatDoorShelf
/- near.grow: its comparison, and the sorting of a part of a row. -/
namespace Go.Proofs.YteeeikninigeoaaGreatDoor
set_option linter.unusedVariables false
open Go.RowKit Go.Sort
open Hp (KT KD)

/-- A world that has drawn and grown, no more. -/
structure Gro (w0 : World) where
  val : World
  is_ : ∃ q os, val = grow (w0.drewN q) os
instance (w0 : World) : Nonempty (Gro w0) := ⟨⟨w0, 0, #[], by simp [grow, World.drewN]⟩⟩
theorem gro_trans {w0 w1 w2 : World} (h : ∃ q os, w1 = grow (w0.drewN q) os) (k : ∃ q os, w2 = grow (w1.drewN q) os) : ∃ q os, w2 = grow (w0.drewN q) os := by
  obtain ⟨q, os, rfl⟩ := h
  obtain ⟨q', os', rfl⟩ := k
  refine ⟨q + q', os ++ os', ?_⟩
  have : (grow (w0.drewN q) os).drewN q' = grow (w0.drewN (q + q')) os := by
    rw [← World.drewN_drewN]; rfl
  rw [this, grow_grow]
theorem gro_cell {w0 : World} {b o : Nat} {v : Value} (h : w0.cell? ⟨b, o, none⟩ = some v) : ∀ x : Gro w0, x.val.cell? ⟨b, o, none⟩ = some v := fun x => by
  obtain ⟨q, os, e⟩ := x.is_
  rw [e, (grow_below w0 q os).cell (p := ⟨b, o, none⟩) (World.block_lt_of_cell? w0 _ h)]; exact h
theorem q_gro {P : Program} {f : FuncId} {args : Array Value} {w0 : World} {x : Gro w0} {v : Value}
    (h : Calls P f args x.val fun e w' => e = .returned v ∧ ∃ q os, w' = grow (x.val.drewN q) os) : Calls P f args x.val fun e w'' => e = .returned v ∧ ∃ x' : Gro w0, w'' = x'.val :=
  h.mono fun _ w' ⟨he, hg⟩ => ⟨he, ⟨w', gro_trans x.is_ hg⟩, rfl⟩
theorem gro_alloc (w : World) (o : Obj) : ∃ q os, w.alloc o = grow (w.drewN q) os := ⟨0, #[o], alloc_eq_grow w o⟩
theorem gro_same (w : World) : ∃ q os, w = grow (w.drewN q) os := ⟨0, #[], by simp [grow, World.drewN]⟩

/-- The comparison of two places by a coordinate, and by place. -/
def cmpK (c : Nat → Int) (a b : Nat) : Int := or2 (cmpI (c a) (c b)) (cmpI (a : Int) (b : Int))
theorem cmpK_neg (c : Nat → Int) (a b : Nat) : cmpK c a b < 0 ↔ (c a < c b ∨ (c a = c b ∧ a < b)) := by
  have := cmpN_neg (c a) (a : Int) (c b) (b : Int)
  unfold cmpN at this
  unfold cmpK
  rw [this]; omega

set_option maxRecDepth 100000 in
set_option maxHeartbeats 4000000 in
theorem growOrd_any (b3 b5 : Nat) (a : Option Addr) (cap n x y deep : Nat) (L : List Pt) (w : World) (h : SlF ptL 3 w a n cap L) (hn : n ≤ 1000) (hb3 : w.cell? ⟨b3, 0, none⟩ = some (.slice a n cap)) (hb5 : w.cell? ⟨b5, 0, none⟩ = some (.int .i64 (deep : Int))) (hx : x < n) (hy : y < n) (hd : deep ≤ 1000) :
    Calls Tryz.prog 69 #[.int .i64 x, .int .i64 y, .pointer (some ⟨b3, 0, none⟩), .pointer (some ⟨b5, 0, none⟩)] w fun e w' => e = .returned (.int .i64 (cmpK (fun i => crd (L.getD i pt0) deep) x y)) ∧ ∃ q os, w' = grow (w.drewN q) os := by
  have hl := h.len ptL_len (by omega)
  obtain ⟨b, off, rfl, hbw, cx⟩ := h.at ptL_len (by omega) x (by omega)
  obtain ⟨_, _, e1, _, cy⟩ := h.at ptL_len (by omega) y (by omega)
  simp only [Option.some.injEq, Addr.mk.injEq, and_true] at e1
  obtain ⟨rfl, rfl⟩ := e1
  rw [← getD_at L pt0 (by omega)] at cx cy
  have HP := Kp.mk (show cmpK (fun i => crd (L.getD i pt0) deep) x y = or2 (cmpI (crd (L.getD x pt0) deep) (crd (L.getD y pt0) deep)) (cmpI x y) from rfl)
  generalize L.getD x pt0 = p at *
  generalize L.getD y pt0 = q at *
  have x0 := gro_cell (show w.cell? ⟨b, off + x * 3, none⟩ = some (.int .i64 p.x) from cx 0 (by omega))
  have x1 := gro_cell (show w.cell? ⟨b, off + x * 3 + 1, none⟩ = some (.int .i64 p.y) from cx 1 (by omega))
  have x2 := gro_cell (show w.cell? ⟨b, off + x * 3 + 2, none⟩ = some (.int .i64 p.w) from cx 2 (by omega))
  have y0 := gro_cell (show w.cell? ⟨b, off + y * 3, none⟩ = some (.int .i64 q.x) from cy 0 (by omega))
  have y1 := gro_cell (show w.cell? ⟨b, off + y * 3 + 1, none⟩ = some (.int .i64 q.y) from cy 1 (by omega))
  have y2 := gro_cell (show w.cell? ⟨b, off + y * 3 + 2, none⟩ = some (.int .i64 q.w) from cy 2 (by omega))
  have g3 := gro_cell hb3
  have g5 := gro_cell hb5
  rw [HP.out]
  obtain ⟨u, hu⟩ : ∃ u, crd p deep = u := ⟨_, rfl⟩
  obtain ⟨v, hv⟩ : ∃ v, crd q deep = v := ⟨_, rfl⟩
  have CP := Kp.mk (fun (W : World) => (coord_any p deep W hd).mono (R' := fun e w' => e = .returned (.int .i64 u) ∧ ∃ q os, w' = grow (W.drewN q) os) (fun e w' ⟨h1, h2⟩ => ⟨by rw [← hu]; exact h1, by rw [h2]; exact gro_alloc _ _⟩))
  have CQ := Kp.mk (fun (W : World) => (coord_any q deep W hd).mono (R' := fun e w' => e = .returned (.int .i64 v) ∧ ∃ q os, w' = grow (W.drewN q) os) (fun e w' ⟨h1, h2⟩ => ⟨by rw [← hv]; exact h1, by rw [h2]; exact gro_alloc _ _⟩))
  rw [hu, hv]
  have C1 := Kp.mk (fun (W : World) => (compare_any u v W).mono (R' := fun e w' => e = .returned (.int .i64 (cmpI u v)) ∧ ∃ q os, w' = grow (W.drewN q) os) (fun e w' ⟨h1, h2⟩ => ⟨h1, by rw [← h2]; exact gro_same _⟩))
  have C2 := Kp.mk (fun (W : World) => (compare_any (x : Int) (y : Int) W).mono (R' := fun e w' => e = .returned (.int .i64 (cmpI x y)) ∧ ∃ q os, w' = grow (W.drewN q) os) (fun e w' ⟨h1, h2⟩ => ⟨h1, by rw [← h2]; exact gro_same _⟩))
  clear h cx cy HP hl hu hv hb3 hb5
  generalize cmpI u v = r1 at *
  generalize cmpI (x : Int) (y : Int) = r2 at *
  have hxz : (x : Int) < n := by omega
  have hyz : (y : Int) < n := by omega
  go_enter Tryz.func69, Tryz.ntmps69
  go_wp2
  refine region_quiet_tail 16 (fun w' => ∃ x : Gro w, w' = x.val) (by kernel_rfl) (by kernel_rfl) ⟨⟨w.drew, 1, #[], by simp [grow, World.drewN]; rfl⟩, rfl⟩ ?_
  simp only [List.take_succ_cons, List.take_zero, List.drop_succ_cons, List.drop_zero]
  iterate 16 (go_big_quiet_step (first | (go_at_call 72; with_reducible exact q_gro (CP.out _)) | (go_at_call 72; with_reducible exact q_gro (CQ.out _)) | (go_at_call 71; with_reducible exact q_gro (C1.out _)) | (go_at_call 71; with_reducible exact q_gro (C2.out _)) | fail))
  refine wpQuiet_nil ?_
  rintro w1 ⟨xl, rfl⟩
  have HG := Kp.mk xl.is_
  clear x0 x1 x2 y0 y1 y2 g3 g5 CP CQ C1 C2
  generalize xl.val = w1 at *
  have bx := Box.new w1 #[.int .i64 r1, .int .i64 r2] 3
  have CO := Kp.mk (or2_any w1.heap.size r1 r2 (w1.alloc (.cells #[.int .i64 r1, .int .i64 r2] 3)) (bx.cell 0 rfl) (bx.cell 1 rfl))
  clear bx
  go_wp2_with fail
  refine CO.out.mono ?_
  rintro e w' ⟨rfl, rfl⟩
  go_wp2
  go_ret
  exact ⟨rfl, gro_trans HG.out (gro_alloc _ _)⟩

end Go.Proofs.YteeeikninigeoaaGreatDoor

/- slices.SortFunc on a part of a row of places, by a number and by place. -/
namespace Go.Proofs.YteeeikninigeoaaGreatDoor
set_option linter.unusedVariables false
open Go.RowKit Go.Sort
open Hp (KT KD)

def natV (X : List Nat) : List Value := X.map fun (x : Nat) => Value.int .i64 (x : Int)
theorem natV_len (X : List Nat) : (natV X).length = X.length := by simp [natV]
theorem natV_app (X Y : List Nat) : natV (X ++ Y) = natV X ++ natV Y := by simp [natV]
def nencN (m : Nat) (i : Fin (m + 1)) : Value := .int .i64 ((i.val : Nat) : Int)
/-- A comparison of places, of those up to m. -/
def cfN (m : Nat) (cf : Nat → Nat → Int) (a b : Fin (m + 1)) : Int := cf a.val b.val
/-- A comparison as a sort needs it. -/
structure CmpOk (cf : Nat → Nat → Int) : Prop where
  irrefl : ∀ x, ¬ cf x x < 0
  trans : ∀ x y z, cf x y < 0 → cf y z < 0 → cf x z < 0
  ntrans : ∀ x y z, ¬ cf x y < 0 → ¬ cf y z < 0 → ¬ cf x z < 0
theorem cmpK_ok (c : Nat → Int) : CmpOk (cmpK c) where
  irrefl x := by rw [cmpK_neg]; omega
  trans x y z h1 h2 := by rw [cmpK_neg] at *; omega
  ntrans x y z h1 h2 := by rw [cmpK_neg] at *; omega
theorem cmpX_ok (c : Nat → Int) : CmpOk (fun a b => cmpI (c a) (c b)) where
  irrefl x := by unfold cmpI; split <;> omega
  trans x y z h1 h2 := by unfold cmpI at *; split at h1 <;> split at h2 <;> (try split at h1) <;> (try split at h2) <;> (repeat' split) <;> omega
  ntrans x y z h1 h2 := by unfold cmpI at *; split at h1 <;> split at h2 <;> (try split at h1) <;> (try split at h2) <;> (repeat' split) <;> omega
theorem swoN (m : Nat) {cf : Nat → Nat → Int} (h : CmpOk cf) : SWO (ltOf (cfN m cf)) where
  irrefl x := by
    unfold ltOf cfN
    rw [decide_eq_false_iff_not]; exact h.irrefl _
  trans x y z h1 h2 := by
    unfold ltOf cfN at *
    rw [decide_eq_true_eq] at *; exact h.trans _ _ _ h1 h2
  ntrans x y z h1 h2 := by
    unfold ltOf cfN at *
    rw [decide_eq_false_iff_not] at *; exact h.ntrans _ _ _ h1 h2
theorem puts_win {α : Type} [Inhabited α] (enc : α → Value) (d : Array α) (P A Q : List Value) (off : Nat) (hP : P.length = off) (hA : A.length = d.size) : putCells enc off d (P ++ A ++ Q).toArray = (P ++ d.toList.map enc ++ Q).toArray := by
  apply Array.ext_getElem?
  intro k
  unfold putCells
  rw [Array.getElem?_mapIdx]
  simp only [List.getElem?_toArray]
  by_cases h1 : k < off
  · rw [List.getElem?_append_left (by simp; omega), List.getElem?_append_left (by omega), List.getElem?_append_left (by simp; omega), List.getElem?_append_left (by omega), List.getElem?_eq_getElem (by omega)]
    simp only [Option.map_some]
    rw [if_neg (by omega)]
  · by_cases h2 : k < off + d.size
    · rw [List.getElem?_append_left (by simp; omega), List.getElem?_append_right (by omega), List.getElem?_append_left (by simp; omega), List.getElem?_append_right (by omega), hP]
      rw [List.getElem?_eq_getElem (by omega), List.getElem?_map, Array.getElem?_toList, Array.getElem?_eq_getElem (by omega)]
      simp only [Option.map_some]
      rw [if_pos (by omega), getElem!_pos d (k - off) (by omega)]
    · rw [List.getElem?_append_right (by simp; omega), List.getElem?_append_right (by simp; omega)]
      have e : (P ++ A).length = (P ++ d.toList.map enc).length := by simp [hA]
      rw [e]
      cases (Q[k - (P ++ d.toList.map enc).length]?) with
      | none => rfl
      | some y =>
        simp only [Option.map_some]
        rw [if_neg (by omega)]
theorem heap_sorted {α : Type} [Inhabited α] {enc : α → Value} {w : World} {g off n : Nat} {os : Array Obj} {cur : Array Value} {e : TypeId} {fr : Nat × Nat} (d : Array α) (hb : w.heap[g]? = some (.cells cur e fr)) :
    (sortWorld enc w g off n d os).heap[g]? = some (.cells (putCells enc off d cur) e fr) := by
  have hg : g < w.heap.size := (Array.getElem?_eq_some_iff.1 hb).1
  unfold sortWorld
  rw [heap_grow_old _ _ (by simpa using hg)]
  simp [putRow, mapBlock, Sort.ahead, Array.getElem?_modify, hb, onCells]
theorem grown_sorted {α : Type} [Inhabited α] {enc : α → Value} {w : World} {g off n : Nat} {os : Array Obj} (d : Array α) : w.grownBy (sortWorld enc w g off n d os) (some g) := by
  unfold sortWorld
  refine ⟨rfl, rfl, rfl, by simp, fun k hk hne => ?_⟩
  rw [heap_grow_old _ _ (by simpa using hk)]
  have : g ≠ k := fun e => hne (by rw [e])
  simp [putRow, mapBlock, Sort.ahead, Array.getElem?_modify, this]
def toF (m : Nat) (X : List Nat) : List (Fin (m + 1)) := X.map fun x => ⟨min x m, by omega⟩
theorem toF_val {m : Nat} {X : List Nat} (h : ∀ x ∈ X, x < m + 1) : (toF m X).map (fun i => i.val) = X := by
  unfold toF
  rw [List.map_map]
  apply List.ext_getElem
  · simp
  · intro i h1 h2
    simp
    have := h X[i] (List.getElem_mem h2)
    omega
theorem toF_enc {m : Nat} {X : List Nat} (h : ∀ x ∈ X, x < m + 1) : (toF m X).map (nencN m) = natV X := by
  have h1 := toF_val h
  have h2 : (toF m X).map (nencN m) = ((toF m X).map (fun i => i.val)).map (fun (x : Nat) => Value.int .i64 (x : Int)) := by rw [List.map_map]; rfl
  rw [h2, h1]; rfl

/-- slices.SortFunc on a part of a row. -/
theorem sort_gen (fn : Nat) (cb : Array Value) (cf : Nat → Nat → Int) (hcf : CmpOk cf) (m gb off cap : Nat) (P Q : List Value) (X : List Nat) (w : World) (hX : ∀ x ∈ X, x < m + 1) (hl : X.length ≤ 1000) (hP : P.length = off) (hb : Box w gb (P ++ natV X ++ Q).toArray 3) (eg : ∀ args w, (callFunc fn args).run Tryz.prog w = .ok (.enter fn args) w)
    (hcmp : ∀ w', w.grownBy w' (some gb) → ∀ x y : Nat, x < m + 1 → y < m + 1 → Calls Tryz.prog fn (#[.int .i64 x, .int .i64 y] ++ cb) w' fun e w'' => e = .returned (.int .i64 (cf x y)) ∧ ∃ q os, w'' = grow (w'.drewN q) os) :
    Calls Tryz.prog 68 #[.slice (some ⟨gb, off, none⟩) X.length cap, .func (.func fn) #[] cb] w fun e w' => e = .returned (.tuple #[]) ∧ ∃ Z, Kp (Z.Perm X ∧ ∀ i j, i < j → j < Z.length → ¬ cf (Z.getD j 0) (Z.getD i 0) < 0) ∧ Kp (Box w' gb (P ++ natV Z ++ Q).toArray 3) ∧ Kp (w.grownBy w' (some gb)) := by
  have hs : (toF m X).toArray.size = X.length := by simp [toF]
  have hH : Holds (nencN m) w gb off (toF m X).toArray := by
    intro j hj
    rw [hs] at hj
    have hj2 : j < (toF m X).length := by simpa [toF] using hj
    refine ⟨?_, frozen_of_row w gb (off + j) _ _ hb⟩
    rw [Box.cell hb (off + j) (v := nencN m ((toF m X)[j])) ?_]
    · rw [getElem!_pos (toF m X).toArray j (by rw [hs]; exact hj)]; rfl
    · rw [List.getElem?_toArray, List.getElem?_append_left (by rw [List.length_append, natV_len]; omega), List.getElem?_append_right (by omega), hP, Nat.add_sub_cancel_left, ← toF_enc hX, List.getElem?_map, List.getElem?_eq_getElem hj2]
      rfl
  have hC : CmpLays1 Tryz.prog fn cb (nencN m) (cfN m cf) gb off (toF m X).toArray.size w := by
    intro k os dk hk x y
    exact hcmp _ (grown_sorted dk) x.val y.val x.isLt y.isLt
  have hS := Tryz.slices_SortFunc (nencN m) (fun _ => rfl) (cfN m cf) (swoN m hcf) fn cb gb off cap (toF m X).toArray w eg hC hH hb.lt (by rw [hs]; omega)
  rw [hs] at hS
  refine hS.mono ?_
  rintro e w' ⟨rfl, d', q, os, hp, hsrt, rfl⟩
  have hsz : d'.size = X.length := by rw [hp.1, hs]
  have hpl : (d'.toList.map fun i => i.val).Perm X := by
    have h1 := hp.2.2
    have e1 : ∀ {α : Type} (d : Array α) (n : Nat), d.size = n → d.extract 0 n = d := fun d n h => by subst h; simp
    rw [e1 d' _ hsz, e1 (toF m X).toArray _ hs] at h1
    have h2 := h1.map (fun i => i.val)
    rwa [show ((toF m X).toArray.toList.map fun i => i.val) = X from toF_val hX] at h2
  refine ⟨rfl, d'.toList.map (fun i => i.val), ⟨⟨hpl, ?_⟩⟩, ⟨?_⟩, ⟨grown_sorted d'⟩⟩
  · intro i j hij hj
    rw [List.length_map, Array.length_toList] at hj
    have h5 := hsrt i j (Nat.zero_le _) hij (by omega)
    unfold ltOf cfN at h5
    rw [decide_eq_false_iff_not, getElem!_pos d' j hj, getElem!_pos d' i (by omega)] at h5
    have e1 : ∀ k (h : k < d'.size), (d'.toList.map fun i => i.val).getD k 0 = d'[k].val := fun k h => by
      rw [getD_at _ _ (by rw [List.length_map, Array.length_toList]; exact h), List.getElem_map, Array.getElem_toList]
    rw [e1 i (by omega), e1 j hj]
    exact h5
  · have h1 := heap_sorted (enc := nencN m) (off := off) (n := q) (os := os) d' (show w.heap[gb]? = some (.cells (P ++ natV X ++ Q).toArray 3 (0, 0)) from hb)
    rw [puts_win (nencN m) d' P (natV X) Q off hP (by rw [natV_len, hsz])] at h1
    have e2 : d'.toList.map (nencN m) = natV (d'.toList.map fun i => i.val) := by
      unfold natV
      rw [List.map_map]; rfl
    rw [e2] at h1
    exact h1

theorem sort_win (fn : Nat) (cb : Array Value) (c : Nat → Int) (m gb off cap : Nat) (P Q : List Value) (X : List Nat) (w : World) (hX : ∀ x ∈ X, x < m + 1) (hl : X.length ≤ 1000) (hP : P.length = off) (hb : Box w gb (P ++ natV X ++ Q).toArray 3) (eg : ∀ args w, (callFunc fn args).run Tryz.prog w = .ok (.enter fn args) w)
    (hcmp : ∀ w', w.grownBy w' (some gb) → ∀ x y : Nat, x < m + 1 → y < m + 1 → Calls Tryz.prog fn (#[.int .i64 x, .int .i64 y] ++ cb) w' fun e w'' => e = .returned (.int .i64 (cmpK c x y)) ∧ ∃ q os, w'' = grow (w'.drewN q) os) :
    Calls Tryz.prog 68 #[.slice (some ⟨gb, off, none⟩) X.length cap, .func (.func fn) #[] cb] w fun e w' => e = .returned (.tuple #[]) ∧ ∃ Z, Kp (Z.Perm X ∧ ∀ i j, i < j → j < Z.length → ¬ cmpK c (Z.getD j 0) (Z.getD i 0) < 0) ∧ Kp (Box w' gb (P ++ natV Z ++ Q).toArray 3) ∧ Kp (w.grownBy w' (some gb)) :=
  sort_gen fn cb (cmpK c) (cmpK_ok c) m gb off cap P Q X w hX hl hP hb eg hcmp

end Go.Proofs.YteeeikninigeoaaGreatDoor

/- near.grow: the walk. -/
namespace Go.Proofs.YteeeikninigeoaaGreatDoor
set_option linter.unusedVariables false
open Go.RowKit Go.Sort
open Hp (KT KD)

theorem kmem_ptr {w : World} {v : Value} : ∀ (T : KT), KMem w T v → ∃ p, v = .pointer p
  | .nil, h => ⟨none, h⟩
  | .node m l r, h => by obtain ⟨b, _, _, h1, _⟩ := h; exact ⟨_, h1⟩
/-- What grow makes of a part of a row. -/
def GrowOk (gb : Nat) (pa : Option Addr) (n pcap : Nat) (L : List Pt) (N : Nat) : Prop :=
  ∀ (X : List Nat) (P Q : List Value) (deep off cap : Nat) (a : Option Addr) (W : World), X.length ≤ N → (∀ x ∈ X, x < n) → P.length = off → (X = [] ∨ a = some ⟨gb, off, none⟩) → X.length ≤ cap → cap ≤ maxLen → Box W gb (P ++ natV X ++ Q).toArray 3 → SlF ptL 3 W pa n pcap L → blk pa ≠ some gb → deep + X.length ≤ 400 →
    Calls Tryz.prog 39 #[.slice pa n pcap, .slice a X.length cap, .int .i64 (deep : Int)] W fun e w' => ∃ v T Z, e = .returned v ∧ Kp (KMem w' T v) ∧ Kp (T.pl.Perm X ∧ KD (fun d i => crd (L.getD i pt0) d) deep T ∧ Z.Perm X) ∧ Kp (Box w' gb (P ++ natV Z ++ Q).toArray 3) ∧ Kp (W.grownBy w' (some gb))

theorem run_back (gb off n1 cap mid : Nat) (hm : mid + 1 ≤ n1) (hc : n1 ≤ cap) (hcm : cap ≤ 9223372036854775807) : ∃ ra, (n1 - (mid + 1) = 0 ∨ ra = some ⟨gb, off + (mid + 1), none⟩) ∧ ∀ w, (Instr.slice 22 (.slice (some ⟨gb, off, none⟩) n1 cap) (some (.int .i64 ((mid : Int) + 1))) none none).run Tryz.prog w = .ok (.slice ra (n1 - (mid + 1)) (cap - (mid + 1))) w := by
  by_cases h : cap = mid + 1
  · refine ⟨some ⟨gb, off, none⟩, .inl (by omega), fun w => ?_⟩
    subst h
    obtain rfl : n1 = mid + 1 := by omega
    simp [go_sem, Tryz.underlying22]
    intro h5; omega
  · refine ⟨some ⟨gb, off + (mid + 1), none⟩, .inr rfl, fun w => ?_⟩
    have h1 : ¬ (n1 : Int) < (mid : Int) + 1 := by omega
    have h3 : ((mid : Int) + 1).toNat = mid + 1 := by omega
    simp [go_sem, Tryz.underlying22, h, h1, h3]
    intro h5; omega

set_option maxRecDepth 100000 in
set_option maxHeartbeats 4000000 in
theorem grow_zero (gb : Nat) (pa : Option Addr) (n pcap : Nat) (L : List Pt) (X : List Nat) (P Q : List Value) (deep off cap : Nat) (a : Option Addr) (W : World) (hX : X = []) (hb : Box W gb (P ++ natV X ++ Q).toArray 3) :
    Calls Tryz.prog 39 #[.slice pa n pcap, .slice a X.length cap, .int .i64 (deep : Int)] W fun e w' => ∃ v T Z, e = .returned v ∧ Kp (KMem w' T v) ∧ Kp (T.pl.Perm X ∧ KD (fun d i => crd (L.getD i pt0) d) deep T ∧ Z.Perm X) ∧ Kp (Box w' gb (P ++ natV Z ++ Q).toArray 3) ∧ Kp (W.grownBy w' (some gb)) := by
  subst hX
  have hal := (below_alloc (Nat.le_refl W.heap.size) (.cells #[.slice pa n pcap] 24)).alloc (by rw [alloc_size]; omega) (.cells #[.int .i64 (deep : Int)] 3)
  have HB := Kp.mk (hb.below hal)
  have HG := Kp.mk (grown_of_below (r := some gb) hal)
  show Calls _ _ #[.slice pa n pcap, .slice a 0 cap, .int .i64 (deep : Int)] _ _
  clear hb hal
  go_enter Tryz.func39, Tryz.ntmps39
  go_wp2
  go_ret
  exact ⟨_, .nil, [], rfl, ⟨rfl⟩, ⟨List.Perm.refl _, trivial, List.Perm.refl _⟩, HB, HG⟩

theorem split_mid (Z : List Nat) (mid : Nat) (h : mid < Z.length) : Z = Z.take mid ++ Z.getD mid 0 :: Z.drop (mid + 1) := by
  rw [getD_at Z 0 h]
  have h1 := List.take_succ_eq_append_getElem h
  have h2 := List.take_append_drop (mid + 1) Z
  rw [h1] at h2
  rw [List.append_assoc] at h2
  exact h2.symm
theorem sorted_kd {c : Nat → Int} {Z : List Nat} {mid : Nat} (hm : mid < Z.length) (h : ∀ i j, i < j → j < Z.length → ¬ cmpK c (Z.getD j 0) (Z.getD i 0) < 0) : (∀ y ∈ Z.take mid, c y ≤ c (Z.getD mid 0)) ∧ ∀ y ∈ Z.drop (mid + 1), c (Z.getD mid 0) ≤ c y := by
  refine ⟨fun y hy => ?_, fun y hy => ?_⟩
  · obtain ⟨i, hi, e⟩ := List.getElem_of_mem hy
    rw [List.length_take] at hi
    rw [List.getElem_take] at e
    have := h i mid (by omega) hm
    rw [cmpK_neg, getD_at Z 0 (show i < Z.length by omega), e] at this
    omega
  · obtain ⟨i, hi, e⟩ := List.getElem_of_mem hy
    rw [List.length_drop] at hi
    rw [List.getElem_drop] at e
    have := h mid (mid + 1 + i) (by omega) (by omega)
    rw [cmpK_neg, getD_at Z 0 (show mid + 1 + i < Z.length by omega), e] at this
    omega

set_option maxRecDepth 100000 in
set_option maxHeartbeats 8000000 in
theorem grow_step (gb : Nat) (pa : Option Addr) (n pcap : Nat) (L : List Pt) (hL : L.length = n) (hn : n ≤ 200) (N : Nat) (ih : GrowOk gb pa n pcap L N) : GrowOk gb pa n pcap L (N + 1) := by
  intro X P Q deep off cap a W hXN hXn hP ha hXc hcm hb hpts hpg hdp
  by_cases hX0 : X = []
  · exact grow_zero gb pa n pcap L X P Q deep off cap a W hX0 hb
  have ha' : a = some ⟨gb, off, none⟩ := ha.resolve_left hX0
  subst ha'
  have hXpos : 0 < X.length := List.length_pos_iff.2 hX0
  obtain ⟨n', hn'⟩ : ∃ n', n = n' + 1 := ⟨n - 1, by
    have : 0 < n := by
      have := hXn _ (List.getElem_mem hXpos)
      omega
    omega⟩
  unfold maxLen at hcm
  have hgl := hb.lt
  have hal := (below_alloc (Nat.le_refl W.heap.size) (.cells #[.slice pa n pcap] 24)).alloc (by rw [alloc_size]; omega) (.cells #[.int .i64 (deep : Int)] 3)
  obtain ⟨W1, hW1⟩ : ∃ W1, W.alloc (.cells #[.slice pa n pcap] 24) = W1 := ⟨_, rfl⟩
  have hx3 : Box W1 W.heap.size #[.slice pa n pcap] 24 := by rw [← hW1]; exact Box.new _ _ _
  have hs1 : W1.heap.size = W.heap.size + 1 := by rw [← hW1, alloc_size]
  rw [hW1] at hal
  obtain ⟨W2, hW2⟩ : ∃ W2, W1.alloc (.cells #[.int .i64 (deep : Int)] 3) = W2 := ⟨_, rfl⟩
  have hx5 : Box W2 (W.heap.size + 1) #[.int .i64 (deep : Int)] 3 := by rw [← hW2, ← hs1]; exact Box.new _ _ _
  have hx3' : Box W2 W.heap.size #[.slice pa n pcap] 24 := by rw [← hW2]; exact hx3.alloc _
  rw [hW2] at hal
  have hb2 := hb.below hal
  have hp2 := hpts.below hal
  have h3g : W.heap.size ≠ gb := by omega
  have h5g : W.heap.size + 1 ≠ gb := by omega
  have CS := Kp.mk (sort_win 69 #[.pointer (some ⟨W.heap.size, 0, none⟩), .pointer (some ⟨W.heap.size + 1, 0, none⟩)] (fun i => crd (L.getD i pt0) deep) n' gb off cap P Q X W2 (fun x hx => by have := hXn x hx; omega) (by omega) hP hb2 (enters_of Tryz.func69 (by kernel_rfl) rfl)
    (fun w' hg x y hx hy => growOrd_any W.heap.size (W.heap.size + 1) pa pcap n x y deep L w' (hp2.keep hg (fun k hk => by cases hk; exact hpg)) (by omega) ((box_grow hx3' hg (by simp; omega)).cell 0 rfl) ((box_grow hx5 hg (by simp; omega)).cell 0 rfl) (by omega) (by omega) (by omega)))
  have H3G := Kp.mk (show (some gb : Option Nat) ≠ some W.heap.size by simp; omega)
  have H5G := Kp.mk (show (some gb : Option Nat) ≠ some (W.heap.size + 1) by simp; omega)
  have HX3 := Kp.mk hx3'
  have HX5 := Kp.mk hx5
  have HP2 := Kp.mk hp2
  have HAL := Kp.mk hal
  have HPG := Kp.mk hpg
  have HP := Kp.mk hP
  have HIH := Kp.mk ih
  have HXN := Kp.mk hXn
  have HLL := Kp.mk hL
  obtain ⟨n1, hn1⟩ : ∃ n1, X.length = n1 := ⟨_, rfl⟩
  have HN1 := Kp.mk hn1
  rw [hn1] at hXN hXc hdp hXpos CS ⊢
  obtain ⟨b3, hb3⟩ : ∃ b3, W.heap.size = b3 := ⟨_, rfl⟩
  have HS2 := Kp.mk (show W2.heap.size = W.heap.size + 1 + 1 by rw [← hW2, alloc_size, hs1])
  have HS1 := Kp.mk hs1
  have t0 : ¬ n1 = 0 := by omega
  have hnz : ((n1 : Int) == 0) = false := by rw [beq_eq_false_iff_ne]; omega
  clear hn1 hx3 hx3' hx5 hp2 hal hpg hP ih hXn hL hb hb2 hpts hX0 ha hs1 hn' hgl hb3
  go_enter Tryz.func39, Tryz.ntmps39
  go_wp2_with fail
  rw [HS1.out]
  refine CS.out.mono ?_
  rintro e w3 ⟨rfl, Z, HZ, HBX, HG⟩
  clear CS hW1 hW2 h3g h5g
  have HZ' := Kp.mk (show Z.Perm X ∧ ∀ i j, i < j → j < Z.length → ¬ cmpK (fun i => crd (L.getD i pt0) deep) (Z.getD j 0) (Z.getD i 0) < 0 from ⟨HZ.out.1, fun i j h1 h2 => by have := HZ.out.2 i j h1 h2; omega⟩)
  have HZL := Kp.mk (show Z.length = n1 by rw [HZ'.out.1.length_eq]; exact HN1.out)
  obtain ⟨mid, hmid⟩ : ∃ mid, n1 / 2 = mid := ⟨_, rfl⟩
  have hm1 : mid < n1 := by omega
  have HQ := Kp.mk (show (n1 : Int) / 2 = (mid : Int) by omega)
  obtain ⟨ra, hra, hsl⟩ := run_back gb off n1 cap mid hm1 hXc hcm
  have hsl1 : ∀ w, (Instr.slice 22 (.slice (some ⟨gb, off, none⟩) n1 cap) none (some (.int .i64 (mid : Int))) none).run Tryz.prog w = .ok (.slice (some ⟨gb, off, none⟩) mid cap) w := fun w => by
    simp [go_sem, Tryz.underlying22]
    omega
  have HRA := Kp.mk hra
  have hsp := split_mid Z mid (by rw [HZL.out]; exact hm1)
  have HKD := Kp.mk (sorted_kd (c := fun i => crd (L.getD i pt0) deep) (by rw [HZL.out]; exact hm1) HZ'.out.2)
  obtain ⟨z, hz⟩ : ∃ z, Z.getD mid 0 = z := ⟨_, rfl⟩
  have hz1 : (Z.take mid).length = mid := by rw [List.length_take, HZL.out]; omega
  have hz2 : (Z.drop (mid + 1)).length = n1 - (mid + 1) := by rw [List.length_drop, HZL.out]
  rw [hz] at hsp HKD
  obtain ⟨Z1, hZ1⟩ : ∃ Z1, Z.take mid = Z1 := ⟨_, rfl⟩
  obtain ⟨Z2, hZ2⟩ : ∃ Z2, Z.drop (mid + 1) = Z2 := ⟨_, rfl⟩
  rw [hZ1, hZ2] at hsp HKD
  rw [hZ1] at hz1
  rw [hZ2] at hz2
  have HZX := Kp.mk (show (Z1 ++ z :: Z2).Perm X from by rw [← hsp]; exact HZ'.out.1)
  have HZN := Kp.mk (show ∀ x ∈ Z1 ++ z :: Z2, x < n from fun x hx => HXN.out x (HZX.out.mem_iff.1 hx))
  have HBZ := Kp.mk (show Box w3 gb (P ++ natV Z1 ++ (.int .i64 (z : Int) :: (natV Z2 ++ Q))).toArray 3 from by
    have h := HBX.out
    rw [hsp, natV_app] at h
    have e : P ++ (natV Z1 ++ natV (z :: Z2)) ++ Q = P ++ natV Z1 ++ (.int .i64 (z : Int) :: (natV Z2 ++ Q)) := by
      simp [natV]
    rwa [e] at h)
  have cz : w3.cell? ⟨gb, off + mid, none⟩ = some (.int .i64 (z : Int)) := HBZ.out.cell (off + mid) (by
    rw [List.getElem?_toArray, List.getElem?_append_right (by rw [List.length_append, natV_len, hz1, HP.out]; exact Nat.le_refl _), List.length_append, natV_len, hz1, HP.out, Nat.sub_self]; rfl)
  have c3 : w3.cell? ⟨W.heap.size, 0, none⟩ = some (.slice pa n pcap) := (box_grow HX3.out HG.out H3G.out).cell 0 rfl
  have c5 : w3.cell? ⟨W.heap.size + 1, 0, none⟩ = some (.int .i64 (deep : Int)) := (box_grow HX5.out HG.out H5G.out).cell 0 rfl
  have HPT3 := Kp.mk (show SlF ptL 3 w3 pa n pcap L from SlC.keep HP2.out HG.out (fun k hk => by cases hk; exact HPG.out))
  have HB3L := Kp.mk (show W.heap.size < W2.heap.size ∧ W.heap.size + 1 < W2.heap.size by rw [HS2.out]; omega)
  have HDC := Kp.mk (show ((deep + 1 : Nat) : Int) = (deep : Int) + 1 by omega)
  have C1 := Kp.mk (show Calls Tryz.prog 39 #[.slice pa n pcap, .slice (some ⟨gb, off, none⟩) mid cap, .int .i64 ((deep : Int) + 1)] w3.drew (fun e w' => ∃ v T Y, e = .returned v ∧ Kp (KMem w' T v) ∧ Kp (T.pl.Perm Z1 ∧ KD (fun d i => crd (L.getD i pt0) d) (deep + 1) T ∧ Y.Perm Z1) ∧ Kp (Box w' gb (P ++ natV Y ++ (.int .i64 (z : Int) :: (natV Z2 ++ Q))).toArray 3) ∧ Kp (w3.drew.grownBy w' (some gb))) from by
    have h := HIH.out Z1 P (.int .i64 (z : Int) :: (natV Z2 ++ Q)) (deep + 1) off cap (some ⟨gb, off, none⟩) w3.drew (by omega) (fun x hx => HZN.out x (by simp [hx])) HP.out (.inr rfl) (by omega) (by unfold maxLen; omega) (HBZ.out.below (Below.refl _ _).drew) (HPT3.out.below (Below.refl _ _).drew) HPG.out (by omega)
    rw [HDC.out, hz1] at h
    exact h)
  have C2 := Kp.mk (fun (w4 : World) (Y : List Nat) (hY : Y.Perm Z1) (hB : Box w4 gb (P ++ natV Y ++ (.int .i64 (z : Int) :: (natV Z2 ++ Q))).toArray 3) (hG : w3.drew.grownBy w4 (some gb)) => show Calls Tryz.prog 39 #[.slice pa n pcap, .slice ra (n1 - (mid + 1)) (cap - (mid + 1)), .int .i64 ((deep : Int) + 1)] w4 (fun e w' => ∃ v T Y2, e = .returned v ∧ Kp (KMem w' T v) ∧ Kp (T.pl.Perm Z2 ∧ KD (fun d i => crd (L.getD i pt0) d) (deep + 1) T ∧ Y2.Perm Z2) ∧ Kp (Box w' gb (P ++ natV (Y ++ z :: Y2) ++ Q).toArray 3) ∧ Kp (w4.grownBy w' (some gb))) from by
    have hYL : Y.length = mid := by rw [hY.length_eq]; exact hz1
    have e1 : ∀ V : List Nat, P ++ natV Y ++ (.int .i64 (z : Int) :: (natV V ++ Q)) = (P ++ natV (Y ++ [z])) ++ natV V ++ Q := fun V => by simp [natV]
    rw [e1] at hB
    have h := HIH.out Z2 (P ++ natV (Y ++ [z])) Q (deep + 1) (off + (mid + 1)) (cap - (mid + 1)) ra w4 (by omega) (fun x hx => HZN.out x (by simp [hx])) (by rw [List.length_append, natV_len, HP.out]; simp [hYL]) (HRA.out.imp_left (fun h => List.eq_nil_of_length_eq_zero (by rw [hz2]; exact h))) (by omega) (by unfold maxLen; omega) hB (SlC.keep (HPT3.out.below (Below.refl _ _).drew) hG (fun k hk => by cases hk; exact HPG.out)) HPG.out (by omega)
    rw [HDC.out, hz2] at h
    refine h.mono ?_
    rintro e w' ⟨v, T, Y2, h1, h2, h3, h4, h5⟩
    refine ⟨v, T, Y2, h1, h2, h3, ⟨?_⟩, h5⟩
    have h6 := h4.out
    have e2 : P ++ natV (Y ++ [z]) ++ natV Y2 ++ Q = P ++ natV (Y ++ z :: Y2) ++ Q := by simp [natV]
    rwa [e2] at h6)
  have e1 : IntKind.i64.wrap ((deep : Int) + 1) = (deep : Int) + 1 := IntWalk.i64_in _ (by omega)
  have e2 : IntKind.i64.wrap ((mid : Int) + 1) = (mid : Int) + 1 := IntWalk.i64_in _ (by omega)
  have hmz : (mid : Int) < n1 := by omega
  clear hra hsp hz hZ1 hZ2 hz2 hmid HZ HBX
  have HSF := Kp.mk (fun (w' : World) (Y : List Nat) (V : List Value) (hY : Y.length = mid) (hB : Box w' gb (P ++ natV Y ++ (.int .i64 (z : Int) :: V)).toArray 3) (hg : w3.drew.grownBy w' (some gb)) => show w'.cell? ⟨gb, off + mid, none⟩ = some (.int .i64 (z : Int)) ∧ w'.cell? ⟨W.heap.size, 0, none⟩ = some (.slice pa n pcap) ∧ w'.cell? ⟨W.heap.size + 1, 0, none⟩ = some (.int .i64 (deep : Int)) from
    ⟨hB.cell (off + mid) (by
      rw [List.getElem?_toArray, List.getElem?_append_right (by rw [List.length_append, natV_len, hY, HP.out]; exact Nat.le_refl _), List.length_append, natV_len, hY, HP.out, Nat.sub_self]; rfl),
     (box_grow ((box_grow HX3.out HG.out H3G.out).below (Below.refl _ _).drew) hg H3G.out).cell 0 rfl, (box_grow ((box_grow HX5.out HG.out H5G.out).below (Below.refl _ _).drew) hg H5G.out).cell 0 rfl⟩)
  have HZ1L := Kp.mk hz1
  have HAP := Kp.mk (show ∀ Y V : List Nat, P ++ natV (Y ++ z :: V) ++ Q = P ++ natV Y ++ (.int .i64 (z : Int) :: (natV V ++ Q)) from fun Y V => by simp [natV])
  clear hz1
  go_upto_region 5 with (fail)
  rw [HQ.out]
  go_region_held3 (fun w' => w'.cell? ⟨gb, off + mid, none⟩ = some (.int .i64 (z : Int)) ∧ w'.cell? ⟨W.heap.size, 0, none⟩ = some (.slice pa n pcap) ∧ w'.cell? ⟨W.heap.size + 1, 0, none⟩ = some (.int .i64 (deep : Int)))
    (first | exact ⟨cz, c3, c5⟩ | exact hS4 | exact hS5 | go_keep)
    ((first
      | (go_at_call 39; (with_reducible refine C1.out.mono ?_); rintro e w4 ⟨v1, T1, Y1, rfl, HM1, HT1, HB1, HG1⟩; obtain ⟨p1, rfl⟩ := kmem_ptr T1 HM1.out; have hS4 : w4.cell? ⟨gb, off + mid, none⟩ = some (.int .i64 (z : Int)) ∧ w4.cell? ⟨W.heap.size, 0, none⟩ = some (.slice pa n pcap) ∧ w4.cell? ⟨W.heap.size + 1, 0, none⟩ = some (.int .i64 (deep : Int)) := HSF.out w4 Y1 _ (by rw [HT1.out.2.2.length_eq]; exact HZ1L.out) HB1.out HG1.out)
      | (go_at_call 39; refine (C2.out w4 Y1 HT1.out.2.2 HB1.out HG1.out).mono ?_; rintro e w5 ⟨v2, T2, Y2, rfl, HM2, HT2, HB2, HG2⟩; obtain ⟨p2, rfl⟩ := kmem_ptr T2 HM2.out; have hS5 : w5.cell? ⟨gb, off + mid, none⟩ = some (.int .i64 (z : Int)) ∧ w5.cell? ⟨W.heap.size, 0, none⟩ = some (.slice pa n pcap) ∧ w5.cell? ⟨W.heap.size + 1, 0, none⟩ = some (.int .i64 (deep : Int)) := HSF.out w5 Y1 (natV Y2 ++ Q) (by rw [HT1.out.2.2.length_eq]; exact HZ1L.out) (by rw [← HAP.out]; exact HB2.out) (grown_trans HG1.out HG2.out))
      | fail))
  all_goals
    have HBF := Kp.mk (show Box (w5.alloc (.cells #[.int .i64 (z : Int), .pointer p1, .pointer p2] 131)) gb (P ++ natV (Y1 ++ z :: Y2) ++ Q).toArray 3 from HB2.out.alloc _)
    have HMF := Kp.mk (show KMem (w5.alloc (.cells #[.int .i64 (z : Int), .pointer p1, .pointer p2] 131)) (.node z T1 T2) (.pointer (some ⟨w5.heap.size, 0, none⟩)) from
      ⟨w5.heap.size, .pointer p1, .pointer p2, rfl, Box.new _ _ _, (KMem.map (fun b cs hx => box_grow hx HG2.out (fun e => by cases e; exact box_box hx HB1.out (by decide) rfl)) T1 _ HM1.out).below (below_alloc (Nat.le_refl _) _), HM2.out.below (below_alloc (Nat.le_refl _) _)⟩)
    have HTF := Kp.mk (show (KT.node z T1 T2).pl.Perm X ∧ KD (fun d i => crd (L.getD i pt0) d) deep (.node z T1 T2) ∧ (Y1 ++ z :: Y2).Perm X from by
      refine ⟨?_, ⟨fun y hy => HKD.out.1 y (HT1.out.1.mem_iff.1 hy), fun y hy => HKD.out.2 y (HT2.out.1.mem_iff.1 hy), HT1.out.2.1, HT2.out.2.1⟩, ?_⟩
      · refine List.Perm.trans ?_ HZX.out
        exact (List.Perm.cons z (HT1.out.1.append HT2.out.1)).trans List.perm_middle.symm
      · exact (HT1.out.2.2.append (HT2.out.2.2.cons z)).trans HZX.out)
    have HGF := Kp.mk (show W.grownBy (w5.alloc (.cells #[.int .i64 (z : Int), .pointer p1, .pointer p2] 131)) (some gb) from
      grown_trans (grown_of_below (r := some gb) HAL.out) (grown_trans (grown_drew HG.out) (grown_trans HG1.out (grown_trans HG2.out (grown_of_below (below_alloc (Nat.le_refl _) _))))))
    clear C1 C2 HSF hS4 hS5 hsl hsl1 cz c3 c5
    go_wp2
    go_ret
    exact ⟨_, .node z T1 T2, Y1 ++ z :: Y2, rfl, HMF, HTF, HBF, HGF⟩

theorem grow_any (gb : Nat) (pa : Option Addr) (n pcap : Nat) (L : List Pt) (hL : L.length = n) (hn : n ≤ 200) : ∀ N, GrowOk gb pa n pcap L N
  | 0 => fun X P Q deep off cap a W hXN _ _ _ _ _ hb _ _ _ => grow_zero gb pa n pcap L X P Q deep off cap a W (List.eq_nil_of_length_eq_zero (by omega)) hb
  | N + 1 => grow_step gb pa n pcap L hL hn N (grow_any gb pa n pcap L hL hn N)

end Go.Proofs.YteeeikninigeoaaGreatDoor

