/- slices.SortFunc on a part of a row of places, by a number and by place. -/
import Derived.Test.YtlmdlholmlbcbaaNrG
namespace Go.Proofs.Ytlmdlholmlbcbaa
set_option linter.unusedVariables false
open Go.RowKit Go.Sort
open Hp (KT KD)

def natV (X : List Nat) : List Value := X.map fun (x : Nat) => Value.int .i64 (x : Int)
theorem natV_len (X : List Nat) : (natV X).length = X.length := by simp [natV]
theorem natV_app (X Y : List Nat) : natV (X ++ Y) = natV X ++ natV Y := by simp [natV]
def encN (m : Nat) (i : Fin (m + 1)) : Value := .int .i64 ((i.val : Nat) : Int)
/-- A comparison of places, of those up to m. -/
def cfN (m : Nat) (cf : Nat → Nat → Int) (a b : Fin (m + 1)) : Int := cf a.val b.val
/-- A comparison as a sort needs it. -/
structure CmpOk (cf : Nat → Nat → Int) : Prop where
  irrefl : ∀ x, ¬ cf x x < 0
  trans : ∀ x y z, cf x y < 0 → cf y z < 0 → cf x z < 0
  ntrans : ∀ x y z, ¬ cf x y < 0 → ¬ cf y z < 0 → ¬ cf x z < 0
theorem cmpK_ok (c : Nat → Int) : CmpOk (cmpK c) where
  irrefl x := by rw [cmpK_neg]; omega
  trans x y z h1 h2 := by rw [cmpK_neg] at *; omega
  ntrans x y z h1 h2 := by rw [cmpK_neg] at *; omega
theorem cmpX_ok (c : Nat → Int) : CmpOk (fun a b => cmpI (c a) (c b)) where
  irrefl x := by unfold cmpI; split <;> omega
  trans x y z h1 h2 := by unfold cmpI at *; split at h1 <;> split at h2 <;> (try split at h1) <;> (try split at h2) <;> (repeat' split) <;> omega
  ntrans x y z h1 h2 := by unfold cmpI at *; split at h1 <;> split at h2 <;> (try split at h1) <;> (try split at h2) <;> (repeat' split) <;> omega
theorem swoN (m : Nat) {cf : Nat → Nat → Int} (h : CmpOk cf) : SWO (ltOf (cfN m cf)) where
  irrefl x := by
    unfold ltOf cfN
    rw [decide_eq_false_iff_not]; exact h.irrefl _
  trans x y z h1 h2 := by
    unfold ltOf cfN at *
    rw [decide_eq_true_eq] at *; exact h.trans _ _ _ h1 h2
  ntrans x y z h1 h2 := by
    unfold ltOf cfN at *
    rw [decide_eq_false_iff_not] at *; exact h.ntrans _ _ _ h1 h2
theorem puts_win {α : Type} [Inhabited α] (enc : α → Value) (d : Array α) (P A Q : List Value) (off : Nat) (hP : P.length = off) (hA : A.length = d.size) : putCells enc off d (P ++ A ++ Q).toArray = (P ++ d.toList.map enc ++ Q).toArray := by
  apply Array.ext_getElem?
  intro k
  unfold putCells
  rw [Array.getElem?_mapIdx]
  simp only [List.getElem?_toArray]
  by_cases h1 : k < off
  · rw [List.getElem?_append_left (by simp; omega), List.getElem?_append_left (by omega), List.getElem?_append_left (by simp; omega), List.getElem?_append_left (by omega), List.getElem?_eq_getElem (by omega)]
    simp only [Option.map_some]
    rw [if_neg (by omega)]
  · by_cases h2 : k < off + d.size
    · rw [List.getElem?_append_left (by simp; omega), List.getElem?_append_right (by omega), List.getElem?_append_left (by simp; omega), List.getElem?_append_right (by omega), hP]
      rw [List.getElem?_eq_getElem (by omega), List.getElem?_map, Array.getElem?_toList, Array.getElem?_eq_getElem (by omega)]
      simp only [Option.map_some]
      rw [if_pos (by omega), getElem!_pos d (k - off) (by omega)]
    · rw [List.getElem?_append_right (by simp; omega), List.getElem?_append_right (by simp; omega)]
      have e : (P ++ A).length = (P ++ d.toList.map enc).length := by simp [hA]
      rw [e]
      cases (Q[k - (P ++ d.toList.map enc).length]?) with
      | none => rfl
      | some y =>
        simp only [Option.map_some]
        rw [if_neg (by omega)]
theorem heap_sorted {α : Type} [Inhabited α] {enc : α → Value} {w : World} {g off n : Nat} {os : Array Obj} {cur : Array Value} {e : TypeId} {fr : Nat × Nat} (d : Array α) (hb : w.heap[g]? = some (.cells cur e fr)) :
    (sortWorld enc w g off n d os).heap[g]? = some (.cells (putCells enc off d cur) e fr) := by
  have hg : g < w.heap.size := (Array.getElem?_eq_some_iff.1 hb).1
  unfold sortWorld
  rw [heap_grow_old _ _ (by simpa using hg)]
  simp [putRow, mapBlock, Sort.ahead, Array.getElem?_modify, hb, onCells]
theorem grown_sorted {α : Type} [Inhabited α] {enc : α → Value} {w : World} {g off n : Nat} {os : Array Obj} (d : Array α) : w.grownBy (sortWorld enc w g off n d os) (some g) := by
  unfold sortWorld
  refine ⟨rfl, rfl, rfl, by simp, fun k hk hne => ?_⟩
  rw [heap_grow_old _ _ (by simpa using hk)]
  have : g ≠ k := fun e => hne (by rw [e])
  simp [putRow, mapBlock, Sort.ahead, Array.getElem?_modify, this]
def toF (m : Nat) (X : List Nat) : List (Fin (m + 1)) := X.map fun x => ⟨min x m, by omega⟩
theorem toF_val {m : Nat} {X : List Nat} (h : ∀ x ∈ X, x < m + 1) : (toF m X).map (fun i => i.val) = X := by
  unfold toF
  rw [List.map_map]
  apply List.ext_getElem
  · simp
  · intro i h1 h2
    simp
    have := h X[i] (List.getElem_mem h2)
    omega
theorem toF_enc {m : Nat} {X : List Nat} (h : ∀ x ∈ X, x < m + 1) : (toF m X).map (encN m) = natV X := by
  have h1 := toF_val h
  have h2 : (toF m X).map (encN m) = ((toF m X).map (fun i => i.val)).map (fun (x : Nat) => Value.int .i64 (x : Int)) := by rw [List.map_map]; rfl
  rw [h2, h1]; rfl

/-- slices.SortFunc on a part of a row. -/
theorem sort_gen (fn : Nat) (cb : Array Value) (cf : Nat → Nat → Int) (hcf : CmpOk cf) (m gb off cap : Nat) (P Q : List Value) (X : List Nat) (w : World) (hX : ∀ x ∈ X, x < m + 1) (hl : X.length ≤ 1000) (hP : P.length = off) (hb : Box w gb (P ++ natV X ++ Q).toArray 3) (eg : ∀ args w, (callFunc fn args).run Try.prog w = .ok (.enter fn args) w)
    (hcmp : ∀ w', w.grownBy w' (some gb) → ∀ x y : Nat, x < m + 1 → y < m + 1 → Calls Try.prog fn (#[.int .i64 x, .int .i64 y] ++ cb) w' fun e w'' => e = .returned (.int .i64 (cf x y)) ∧ ∃ q os, w'' = grow (w'.drewN q) os) :
    Calls Try.prog 65 #[.slice (some ⟨gb, off, none⟩) X.length cap, .func (.func fn) #[] cb] w fun e w' => e = .returned (.tuple #[]) ∧ ∃ Z, Kp (Z.Perm X ∧ ∀ i j, i < j → j < Z.length → ¬ cf (Z.getD j 0) (Z.getD i 0) < 0) ∧ Kp (Box w' gb (P ++ natV Z ++ Q).toArray 3) ∧ Kp (w.grownBy w' (some gb)) := by
  have hs : (toF m X).toArray.size = X.length := by simp [toF]
  have hH : Holds (encN m) w gb off (toF m X).toArray := by
    intro j hj
    rw [hs] at hj
    have hj2 : j < (toF m X).length := by simpa [toF] using hj
    refine ⟨?_, frozen_of_row w gb (off + j) _ _ hb⟩
    rw [Box.cell hb (off + j) (v := encN m ((toF m X)[j])) ?_]
    · rw [getElem!_pos (toF m X).toArray j (by rw [hs]; exact hj)]; rfl
    · rw [List.getElem?_toArray, List.getElem?_append_left (by rw [List.length_append, natV_len]; omega), List.getElem?_append_right (by omega), hP, Nat.add_sub_cancel_left, ← toF_enc hX, List.getElem?_map, List.getElem?_eq_getElem hj2]
      rfl
  have hC : CmpLays1 Try.prog fn cb (encN m) (cfN m cf) gb off (toF m X).toArray.size w := by
    intro k os dk hk x y
    exact hcmp _ (grown_sorted dk) x.val y.val x.isLt y.isLt
  have hS := Try.slices_SortFunc (encN m) (fun _ => rfl) (cfN m cf) (swoN m hcf) fn cb gb off cap (toF m X).toArray w eg hC hH hb.lt (by rw [hs]; omega)
  rw [hs] at hS
  refine hS.mono ?_
  rintro e w' ⟨rfl, d', q, os, hp, hsrt, rfl⟩
  have hsz : d'.size = X.length := by rw [hp.1, hs]
  have hpl : (d'.toList.map fun i => i.val).Perm X := by
    have h1 := hp.2.2
    have e1 : ∀ {α : Type} (d : Array α) (n : Nat), d.size = n → d.extract 0 n = d := fun d n h => by subst h; simp
    rw [e1 d' _ hsz, e1 (toF m X).toArray _ hs] at h1
    have h2 := h1.map (fun i => i.val)
    rwa [show ((toF m X).toArray.toList.map fun i => i.val) = X from toF_val hX] at h2
  refine ⟨rfl, d'.toList.map (fun i => i.val), ⟨⟨hpl, ?_⟩⟩, ⟨?_⟩, ⟨grown_sorted d'⟩⟩
  · intro i j hij hj
    rw [List.length_map, Array.length_toList] at hj
    have h5 := hsrt i j (Nat.zero_le _) hij (by omega)
    unfold ltOf cfN at h5
    rw [decide_eq_false_iff_not, getElem!_pos d' j hj, getElem!_pos d' i (by omega)] at h5
    have e1 : ∀ k (h : k < d'.size), (d'.toList.map fun i => i.val).getD k 0 = d'[k].val := fun k h => by
      rw [getD_at _ _ (by rw [List.length_map, Array.length_toList]; exact h), List.getElem_map, Array.getElem_toList]
    rw [e1 i (by omega), e1 j hj]
    exact h5
  · have h1 := heap_sorted (enc := encN m) (off := off) (n := q) (os := os) d' (show w.heap[gb]? = some (.cells (P ++ natV X ++ Q).toArray 3 (0, 0)) from hb)
    rw [puts_win (encN m) d' P (natV X) Q off hP (by rw [natV_len, hsz])] at h1
    have e2 : d'.toList.map (encN m) = natV (d'.toList.map fun i => i.val) := by
      unfold natV
      rw [List.map_map]; rfl
    rw [e2] at h1
    exact h1

theorem sort_win (fn : Nat) (cb : Array Value) (c : Nat → Int) (m gb off cap : Nat) (P Q : List Value) (X : List Nat) (w : World) (hX : ∀ x ∈ X, x < m + 1) (hl : X.length ≤ 1000) (hP : P.length = off) (hb : Box w gb (P ++ natV X ++ Q).toArray 3) (eg : ∀ args w, (callFunc fn args).run Try.prog w = .ok (.enter fn args) w)
    (hcmp : ∀ w', w.grownBy w' (some gb) → ∀ x y : Nat, x < m + 1 → y < m + 1 → Calls Try.prog fn (#[.int .i64 x, .int .i64 y] ++ cb) w' fun e w'' => e = .returned (.int .i64 (cmpK c x y)) ∧ ∃ q os, w'' = grow (w'.drewN q) os) :
    Calls Try.prog 65 #[.slice (some ⟨gb, off, none⟩) X.length cap, .func (.func fn) #[] cb] w fun e w' => e = .returned (.tuple #[]) ∧ ∃ Z, Kp (Z.Perm X ∧ ∀ i j, i < j → j < Z.length → ¬ cmpK c (Z.getD j 0) (Z.getD i 0) < 0) ∧ Kp (Box w' gb (P ++ natV Z ++ Q).toArray 3) ∧ Kp (w.grownBy w' (some gb)) :=
  sort_gen fn cb (cmpK c) (cmpK_ok c) m gb off cap P Q X w hX hl hP hb eg hcmp

end Go.Proofs.Ytlmdlholmlbcbaa
