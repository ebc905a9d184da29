/- cmp.Compare, cmp.Or; slices.SortFunc on the places of a list of points, by x, y and place. -/
import Derived.Test.YteeeikninigeoaaDoorCmpI
import Derived.Test.YteeeikninigeoaaDoorPts
import Derived.Test.YteeeikninigeoaaDoorSkyP
import Derived.Test.YteeeikninigeoaaDoorShelf
import Derived.StillTailTactics
import Derived.Sort.OwnSortedInts
namespace Go.Proofs.YteeeikninigeoaaDoor
set_option linter.unusedVariables false
open Go.RowKit Go.Sort

set_option maxHeartbeats 1000000 in
theorem or3_any (b : Nat) (a1 a2 a3 : Int) (w : World) (h0 : w.cell? ⟨b, 0, none⟩ = some (.int .i64 a1)) (h1 : w.cell? ⟨b, 1, none⟩ = some (.int .i64 a2)) (h2 : w.cell? ⟨b, 2, none⟩ = some (.int .i64 a3)) :
    Calls Tryd.prog 58 #[.slice (some ⟨b, 0, none⟩) 3 3] w fun e w' => e = .returned (.int .i64 (or3 a1 a2 a3)) ∧ w = w' := by
  have hor : (a1 ≠ 0 ∧ Kp (or3 a1 a2 a3 = a1)) ∨ (a1 = 0 ∧ a2 ≠ 0 ∧ Kp (or3 a1 a2 a3 = a2)) ∨ (a1 = 0 ∧ a2 = 0 ∧ a3 ≠ 0 ∧ Kp (or3 a1 a2 a3 = a3)) ∨ (a1 = 0 ∧ a2 = 0 ∧ a3 = 0 ∧ Kp (or3 a1 a2 a3 = 0)) := by
    unfold or3
    by_cases e1 : a1 = 0
    · by_cases e2 : a2 = 0
      · by_cases e3 : a3 = 0
        · exact .inr (.inr (.inr ⟨e1, e2, e3, ⟨by simp [e1, e2, e3]⟩⟩))
        · exact .inr (.inr (.inl ⟨e1, e2, e3, ⟨by simp [e1, e2]⟩⟩))
      · exact .inr (.inl ⟨e1, e2, ⟨by simp [e1, e2]⟩⟩)
    · exact .inl ⟨e1, ⟨by simp [e1]⟩⟩
  obtain ⟨r, hr⟩ : ∃ r, or3 a1 a2 a3 = r := ⟨_, rfl⟩
  have HR := Kp.mk hr
  rw [hr] at hor ⊢
  have HO := Kp.mk hor
  clear hor hr
  go_enter Tryd.func58, Tryd.ntmps58
  go_wp2
  go_loop [8] (fun i => ∃ k : Nat, k ≤ 3 ∧ i = .int .i64 k ∧ Kp (0 < k → a1 = 0) ∧ Kp (1 < k → a2 = 0) ∧ Kp (2 < k → a3 = 0)) (fun i => 3 - (intOf i).toNat)
  case atStart => exact ⟨0, by omega, rfl, ⟨by omega⟩, ⟨by omega⟩, ⟨by omega⟩⟩
  case round =>
    obtain ⟨k, hk, rfl, K1, K2, K3⟩ := hrel
    rcases (show k = 0 ∨ k = 1 ∨ k = 2 ∨ k = 3 by omega) with rfl | rfl | rfl | rfl
    · by_cases e : a1 = 0
      · have hd : (a1 != 0) = false := by simp [e]
        have HE := Kp.mk e
        clear e
        go_wp2
        go_round
        case rel => exact ⟨1, by omega, rfl, ⟨fun _ => HE.out⟩, ⟨by omega⟩, ⟨by omega⟩⟩
        case measure => simp [intOf]
      · have hd : (a1 != 0) = true := by simpa using e
        have HF := Kp.mk (show a1 = r from by
          rcases HO.out with ⟨_, h⟩ | ⟨h, _⟩ | ⟨h, _⟩ | ⟨h, _⟩
          · exact h.out.symm
          · exact absurd h e
          · exact absurd h e
          · exact absurd h e)
        clear e
        go_wp2
        go_ret
        exact ⟨by rw [← HF.out]; rfl, rfl⟩
    · by_cases e : a2 = 0
      · have hd : (a2 != 0) = false := by simp [e]
        have HE := Kp.mk e
        clear e
        go_wp2
        go_round
        case rel => exact ⟨2, by omega, rfl, ⟨fun _ => K1.out (by omega)⟩, ⟨fun _ => HE.out⟩, ⟨by omega⟩⟩
        case measure => simp [intOf]
      · have hd : (a2 != 0) = true := by simpa using e
        have HF := Kp.mk (show a2 = r from by
          have k1 := K1.out (by omega)
          rcases HO.out with ⟨h, _⟩ | ⟨_, _, h⟩ | ⟨_, h, _⟩ | ⟨_, h, _⟩
          · exact absurd k1 h
          · exact h.out.symm
          · exact absurd h e
          · exact absurd h e)
        clear e
        go_wp2
        go_ret
        exact ⟨by rw [← HF.out]; rfl, rfl⟩
    · by_cases e : a3 = 0
      · have hd : (a3 != 0) = false := by simp [e]
        have HE := Kp.mk e
        clear e
        go_wp2
        go_round
        case rel => exact ⟨3, by omega, rfl, ⟨fun _ => K1.out (by omega)⟩, ⟨fun _ => K2.out (by omega)⟩, ⟨fun _ => HE.out⟩⟩
        case measure => simp [intOf]
      · have hd : (a3 != 0) = true := by simpa using e
        have HF := Kp.mk (show a3 = r from by
          have k1 := K1.out (by omega)
          have k2 := K2.out (by omega)
          rcases HO.out with ⟨h, _⟩ | ⟨_, h, _⟩ | ⟨_, _, _, h⟩ | ⟨_, _, h, _⟩
          · exact absurd k1 h
          · exact absurd k2 h
          · exact h.out.symm
          · exact absurd h e)
        clear e
        go_wp2
        go_ret
        exact ⟨by rw [← HF.out]; rfl, rfl⟩
    · have HF := Kp.mk (show r = 0 from by
        have k1 := K1.out (by omega)
        have k2 := K2.out (by omega)
        have k3 := K3.out (by omega)
        rcases HO.out with ⟨h, _⟩ | ⟨_, h, _⟩ | ⟨_, _, h, _⟩ | ⟨_, _, _, h⟩
        · exact absurd k1 h
        · exact absurd k2 h
        · exact absurd k3 h
        · exact h.out)
      go_wp2
      go_ret
      exact ⟨by rw [HF.out]; rfl, rfl⟩

/-- The comparison of two places. -/
def cmpP (L : List Pt) (a b : Nat) : Int := or3 (cmpI (L.getD a pt0).x (L.getD b pt0).x) (cmpI (L.getD a pt0).y (L.getD b pt0).y) (cmpI a b)
theorem cmpP_neg (L : List Pt) (a b : Nat) : cmpP L a b < 0 ↔ ((L.getD a pt0).x < (L.getD b pt0).x ∨ ((L.getD a pt0).x = (L.getD b pt0).x ∧ ((L.getD a pt0).y < (L.getD b pt0).y ∨ ((L.getD a pt0).y = (L.getD b pt0).y ∧ a < b)))) := by
  unfold cmpP or3 cmpI
  generalize (L.getD a pt0).x = x1
  generalize (L.getD b pt0).x = x2
  generalize (L.getD a pt0).y = y1
  generalize (L.getD b pt0).y = y2
  repeat' split
  all_goals omega
def encF (m : Nat) (i : Fin (m + 1)) : Value := .int .i64 ((i.val : Nat) : Int)
def cfF (m : Nat) (L : List Pt) (a b : Fin (m + 1)) : Int := cmpP L a.val b.val
theorem swoF (m : Nat) (L : List Pt) : SWO (ltOf (cfF m L)) where
  irrefl x := by
    unfold ltOf cfF
    rw [decide_eq_false_iff_not, cmpP_neg]; omega
  trans x y z h1 h2 := by
    unfold ltOf cfF at *
    rw [decide_eq_true_eq, cmpP_neg] at *; omega
  ntrans x y z h1 h2 := by
    unfold ltOf cfF at *
    rw [decide_eq_false_iff_not, cmpP_neg] at *; omega
/-- The places of a list by x and y. -/
structure IsOrder (L : List Pt) (O : List Nat) : Prop where
  perm : O.Perm (List.range L.length)
  up : ∀ i j, i < j → j < O.length → lexLe (L.getD (O.getD i 0) pt0) (L.getD (O.getD j 0) pt0)
theorem IsOrder.len {L : List Pt} {O : List Nat} (h : IsOrder L O) : O.length = L.length := by rw [h.perm.length_eq, List.length_range]
theorem IsOrder.lt {L : List Pt} {O : List Nat} (h : IsOrder L O) (i : Nat) (hi : i < O.length) : O.getD i 0 < L.length := by
  have h1 : O[i] ∈ List.range L.length := h.perm.mem_iff.1 (List.getElem_mem hi)
  rw [getD_at _ _ hi]
  exact List.mem_range.1 h1
theorem IsOrder.nodup {L : List Pt} {O : List Nat} (h : IsOrder L O) : O.Nodup := h.perm.nodup_iff.2 List.nodup_range

theorem putCells_fin {m : Nat} (off : Nat) (d : Array (Fin (m + 1))) (c : Array Value) : putCells (encF m) off d c = putCells (Value.int .i64) off (d.map fun i => ((i.val : Nat) : Int)) c := by
  unfold putCells
  apply Array.ext_getElem?
  intro k
  simp only [Array.getElem?_mapIdx, Array.size_map]
  cases c[k]? with
  | none => rfl
  | some y =>
    simp only [Option.map_some]
    by_cases hr : off ≤ k ∧ k < off + d.size
    · rw [if_pos hr, if_pos hr]
      unfold encF
      rw [getElem!_pos d (k - off) (by omega), getElem!_pos (d.map fun i => ((i.val : Nat) : Int)) (k - off) (by rw [Array.size_map]; omega)]
      simp
    · rw [if_neg hr, if_neg hr]
theorem putRow_fin {m : Nat} (w : World) (blk off : Nat) (d : Array (Fin (m + 1))) : putRow (encF m) w blk off d = putRow (Value.int .i64) w blk off (d.map fun i => ((i.val : Nat) : Int)) := by
  unfold putRow
  exact mapBlock_congr w blk _ _ (fun c e fr _ => putCells_fin off d c)
theorem holds_fin {m : Nat} {w : World} {blk : Nat} {d : Array (Fin (m + 1))} (h : Holds (Value.int .i64) w blk 0 (d.map fun i => ((i.val : Nat) : Int))) : Holds (encF m) w blk 0 d := by
  intro j hj
  have := h j (by rw [Array.size_map]; exact hj)
  rw [getElem!_pos (d.map fun i => ((i.val : Nat) : Int)) j (by rw [Array.size_map]; exact hj)] at this
  unfold encF
  rw [getElem!_pos d j hj]
  simpa using this
/-- The row 0, 1, .., m as an array. -/
def allF (m : Nat) : Array (Fin (m + 1)) := Array.ofFn id
theorem allF_list (m : Nat) : (allF m).toList.map (fun i => i.val) = List.range (m + 1) := by
  apply List.ext_getElem
  · simp [allF]
  · intro i h1 h2
    rw [List.getElem_map]
    simp only [allF, Array.getElem_toList, Array.getElem_ofFn, id, List.getElem_range]

theorem ext_all {α : Type} (d : Array α) (n : Nat) (h : d.size = n) : d.extract 0 n = d := by subst h; simp
/-- slices.SortFunc on a row of all places of the call's own, by a comparison that reads the points. -/
theorem sortPl_own (g : Nat) (cb : Array Value) (L : List Pt) (m : Nat) (B : Nat) (a : Option Addr) (c : Nat) (w : World) (hL : L.length = m + 1) (hm : m ≤ 1000) (eg : ∀ args w, (callFunc g args).run Tryd.prog w = .ok (.enter g args) w)
    (h : w.ownsRow B 3 1 (.slice a (m + 1) c) (m + 1) (ints ((List.range (m + 1)).map Int.ofNat))) (hB : B ≤ w.heap.size)
    (hcmp : ∀ w' gb, a = some ⟨gb, 0, none⟩ → w.grownBy w' (some gb) → ∀ x y : Nat, x < m + 1 → y < m + 1 → Calls Tryd.prog g (#[.int .i64 x, .int .i64 y] ++ cb) w' fun e w'' => e = .returned (.int .i64 (cmpP L x y)) ∧ ∃ q os, w'' = grow (w'.drewN q) os) :
    Calls Tryd.prog 56 #[.slice a (m + 1) c, .func (.func g) #[] cb] w fun e w' => e = .returned (.tuple #[]) ∧ ∃ O, Kp (IsOrder L O) ∧ Kp (w'.ownsRow B 3 1 (.slice a (m + 1) c) (m + 1) (ints (O.map Int.ofNat))) ∧ Kp (w.grownBy w' (blk a)) := by
  obtain ⟨gb, rfl, hg, hg2⟩ := own_some h (by omega)
  rcases h.2 with ⟨hv, _⟩ | ⟨g', cap', cur, hv, hB', hgb, h1, h2, h3, h4⟩
  · cases hv
  simp only [Value.slice.injEq, Option.some.injEq, Addr.mk.injEq, and_true, true_and] at hv
  obtain ⟨rfl, rfl⟩ := hv
  have hd : (allF m).map (fun i => ((i.val : Nat) : Int)) = ((List.range (m + 1)).map Int.ofNat).toArray := by
    apply Array.toList_inj.1
    rw [Array.toList_map, ← allF_list m, List.map_map]
    rfl
  have hs : (allF m).size = m + 1 := by simp [allF]
  have hH : Holds (encF m) w gb 0 (allF m) := holds_fin (by
    rw [hd]
    exact holds_of_blockI hgb (by
      rw [Nat.mul_one] at h4
      rw [List.length_map, List.length_range]
      exact h4))
  have hC : CmpLays1 Tryd.prog g cb (encF m) (cfF m L) gb 0 (allF m).size w := by
    intro k os dk hk x y
    have hgr : w.grownBy (sortWorld (encF m) w gb 0 k dk os) (some gb) := by
      unfold sortWorld
      rw [putRow_fin]
      exact grownBy_sortedI _
    exact hcmp _ gb rfl hgr x.val y.val x.isLt y.isLt
  have hS := Tryd.slices_SortFunc (encF m) (fun _ => rfl) (cfF m L) (swoF m L) g cb gb 0 c (allF m) w eg hC hH hg2 (by rw [hs]; omega)
  rw [hs] at hS
  refine hS.mono ?_
  rintro e w' ⟨rfl, d', q, os, hp, hsrt, rfl⟩
  have hsz : d'.size = m + 1 := by rw [hp.1, hs]
  have hpl : (d'.toList.map fun i => i.val).Perm (List.range (m + 1)) := by
    rw [← allF_list m]
    have := hp.2.2
    rw [ext_all d' _ hsz, ext_all (allF m) _ hs] at this
    exact this.map _
  refine ⟨rfl, d'.toList.map (fun i => i.val), ⟨⟨by rw [hL]; exact hpl, ?_⟩⟩, ⟨?_⟩, ⟨?_⟩⟩
  · intro i j hij hj
    rw [List.length_map, Array.length_toList] at hj
    have h5 := hsrt i j (Nat.zero_le _) hij (by omega)
    unfold ltOf cfF at h5
    rw [decide_eq_false_iff_not, cmpP_neg, getElem!_pos d' j hj, getElem!_pos d' i (by omega)] at h5
    have e1 : ∀ k (h : k < d'.size), (d'.toList.map fun i => i.val).getD k 0 = d'[k].val := fun k h => by
      rw [getD_at _ _ (by rw [List.length_map, Array.length_toList]; exact h), List.getElem_map, Array.getElem_toList]
    rw [e1 i (by omega), e1 j hj]
    unfold lexLe
    omega
  · unfold sortWorld
    rw [putRow_fin]
    have e3 : d'.map (fun i => ((i.val : Nat) : Int)) = ((d'.toList.map fun i => i.val).map Int.ofNat).toArray := by
      apply Array.toList_inj.1
      rw [Array.toList_map, List.map_map]
      rfl
    rw [e3]
    have := ownsRow_sortedI (w := w) (base := B) (g := gb) (cap := c) (n := q) (e := 3) (os := os) (cur := cur) (ss := (List.range (m + 1)).map Int.ofNat) (ts := (d'.toList.map fun i => i.val).map Int.ofNat) (by simp [hsz]) hB' hgb (by simp; omega) h2 h3
    rw [List.length_map, List.length_range] at this
    exact this
  · unfold sortWorld
    rw [putRow_fin]
    exact grownBy_sortedI _

/-- slices.SortFunc on nothing. -/
theorem sort_none (g : Nat) (cb : Array Value) (a : Option Addr) (c : Nat) (w : World) :
    Calls Tryd.prog 56 #[.slice a 0 c, .func (.func g) #[] cb] w fun e w' => e = .returned (.tuple #[]) ∧ Drew w w' := by
  have HL := Kp.mk (show Calls Tryd.prog 73 #[.int .u64 0] w (fun e w' => e = .returned (.int .i64 0) ∧ w' = w) from
    Tryd.bits_Len 0 w (by omega) (by omega))
  go_enter Tryd.func56, Tryd.ntmps56
  go_wp2_with fail
  refine HL.out.mono ?_
  rintro e w' ⟨rfl, rfl⟩
  clear HL
  go_wp2
  go_loop [1, 2] (fun x y => x = .int .i64 0 ∧ y = .int .i64 0) (fun _ _ => 0)
  case atStart => exact ⟨rfl, rfl⟩
  case round =>
    obtain ⟨rfl, rfl⟩ := hrel
    go_wp2
    go_loop [8] (fun x => x = .int .i64 1) (fun _ => 0)
    case atStart => rfl
    case round =>
      obtain rfl := hrel
      go_wp2
      go_end0
      go_wp2
      refine bodyPost_ret (results_none rfl _ _ _) rfl ?_
      go_wp2
      go_end0
      exact ⟨rfl, 0, rfl⟩
/-- slices.SortFunc on a row of all places, however long. -/
theorem sortPl_any (g : Nat) (cb : Array Value) (L : List Pt) (n : Nat) (B : Nat) (a : Option Addr) (c : Nat) (w : World) (hL : L.length = n) (hm : n ≤ 1000) (eg : ∀ args w, (callFunc g args).run Tryd.prog w = .ok (.enter g args) w)
    (h : w.ownsRow B 3 1 (.slice a n c) n (ints ((List.range n).map Int.ofNat))) (hB : B ≤ w.heap.size)
    (hcmp : ∀ w' gb, a = some ⟨gb, 0, none⟩ → w.grownBy w' (some gb) → ∀ x y : Nat, x < n → y < n → Calls Tryd.prog g (#[.int .i64 x, .int .i64 y] ++ cb) w' fun e w'' => e = .returned (.int .i64 (cmpP L x y)) ∧ ∃ q os, w'' = grow (w'.drewN q) os) :
    Calls Tryd.prog 56 #[.slice a n c, .func (.func g) #[] cb] w fun e w' => e = .returned (.tuple #[]) ∧ ∃ O, Kp (IsOrder L O) ∧ Kp (w'.ownsRow B 3 1 (.slice a n c) n (ints (O.map Int.ofNat))) ∧ Kp (w.grownBy w' (blk a)) := by
  rcases n with _ | m
  · refine (sort_none g cb a c w).mono ?_
    rintro e w' ⟨rfl, q, rfl⟩
    obtain rfl : L = [] := List.length_eq_zero_iff.1 hL
    exact ⟨rfl, [], ⟨⟨List.Perm.refl _, fun i j _ hj => absurd hj (by simp)⟩⟩, ⟨own_below h (Drew.below ⟨q, rfl⟩ _)⟩, ⟨⟨rfl, rfl, rfl, Nat.le_refl _, fun _ _ _ => rfl⟩⟩⟩
  · exact sortPl_own g cb L m B a c w hL (by omega) eg h hB hcmp

end Go.Proofs.YteeeikninigeoaaDoor
