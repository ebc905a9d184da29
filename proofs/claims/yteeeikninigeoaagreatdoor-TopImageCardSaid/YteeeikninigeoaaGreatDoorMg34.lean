import Derived.Test.YteeeikninigeoaaGreatDoorMg0
import Derived.Test.YteeeikninigeoaaGreatDoorMg31
import Derived.Test.YteeeikninigeoaaGreatDoorMg33
import Derived.Shelf.SlSortCmp.WholeK
import Derived.Sort.OwnSortedInts
import Derived.Test.YteeeikninigeoaaGreatDoorShelfN
import Derived.Test.YteeeikninigeoaaGreatDoorShelf
/- A row of the call's own of elements of several cells, as the library's sorting sees it. -/
namespace Go.Proofs.YteeeikninigeoaaGreatDoor
set_option linter.unusedVariables false
open Go.RowKit Go.Sort Go.Lib

theorem flatK_flat {α : Type} [Inhabited α] {enc : α → List Value} {k : Nat} (hk : ∀ x, (enc x).length = k) (hp : 0 < k) (d : Array α) : (flatK enc k d).toList = flat enc d.toList := by
  apply List.ext_getElem?
  intro t
  by_cases ht : t < d.size * k
  · have hq : t / k < d.size := Nat.div_lt_of_lt_mul (by rw [Nat.mul_comm]; exact ht)
    have hr : t % k < k := Nat.mod_lt _ hp
    have h1 := flat_get hk d.toList (t / k) (t % k) (by simpa using hq) hr
    rw [show t / k * k + t % k = t by rw [Nat.mul_comm]; exact Nat.div_add_mod t k] at h1
    have h2 := get_flatK enc k d t ht
    rw [getElem!_pos _ t (by rw [size_flatK]; exact ht), getElem!_pos d _ hq, getElem!_pos (enc d[t / k]) _ (by rw [hk]; exact hr)] at h2
    rw [h1, Array.getElem?_toList, Array.getElem?_eq_getElem (by rw [size_flatK]; exact ht), h2, List.getElem?_eq_getElem (by rw [hk]; exact hr)]
    simp only [Array.getElem_toList]
  · rw [List.getElem?_eq_none (by rw [Array.length_toList, size_flatK]; omega), List.getElem?_eq_none (by rw [flat_length hk, Array.length_toList]; omega)]
theorem holds_cells {w : World} {g : Nat} {cur : Array Value} {e : TypeId} {F : Array Value} (hb : w.heap[g]? = some (.cells cur e (0, 0))) (ht : cur.toList.take F.size = F.toList) : Holds id w g 0 F := by
  intro j hj
  refine ⟨?_, by simp [World.frozen?, hb]⟩
  have h1 : (cur.toList.take F.size)[j]? = F.toList[j]? := by rw [ht]
  rw [List.getElem?_take_of_lt hj] at h1
  simp only [World.cell?, hb, Nat.zero_add]
  simp only [Option.isSome_none, Bool.false_eq_true, if_false]
  rw [← Array.getElem?_toList, h1]
  simp [hj]
theorem heap_cells {w : World} {g n : Nat} {os : Array Obj} {cur : Array Value} {e : TypeId} {fr : Nat × Nat} (d : Array Value) (hb : w.heap[g]? = some (.cells cur e fr)) :
    (grow (putRow id (Sort.ahead w n) g 0 d) os).heap[g]? = some (.cells (putCells id 0 d cur) e fr) := by
  have hg : g < w.heap.size := (Array.getElem?_eq_some_iff.1 hb).1
  rw [heap_grow_old _ _ (by simpa using hg)]
  simp [putRow, mapBlock, Sort.ahead, Array.getElem?_modify, hb, onCells]
theorem grownBy_cells {w : World} {g n : Nat} {os : Array Obj} (d : Array Value) : w.grownBy (grow (putRow id (Sort.ahead w n) g 0 d) os) (some g) := by
  refine ⟨rfl, rfl, rfl, by simp, fun k hk hne => ?_⟩
  rw [heap_grow_old _ _ (by simpa using hk)]
  have : g ≠ k := fun e => hne (by rw [e])
  simp [putRow, mapBlock, Sort.ahead, Array.getElem?_modify, this]
theorem take_cells (cur F : Array Value) (h : F.size ≤ cur.size) : (putCells id 0 F cur).toList.take F.size = F.toList := by
  apply List.ext_getElem?
  intro j
  by_cases hj : j < F.size
  · rw [List.getElem?_take_of_lt hj, Array.getElem?_toList]
    simp [putCells, hj, show j < cur.size by omega]
  · rw [List.getElem?_take_eq_none (by omega), List.getElem?_eq_none (by simp; omega)]
theorem own_cells {w : World} {base g cap n m size : Nat} {e : TypeId} {os : Array Obj} {cur : Array Value} (F : Array Value) (hF : F.size = m * size) (hbase : base ≤ g) (hb : w.heap[g]? = some (.cells cur e (0, 0)))
    (h1 : m ≤ cap) (h2 : cap ≤ maxLen) (h3 : cur.size = cap * size) :
    (grow (putRow id (Sort.ahead w n) g 0 F) os).ownsRow base e size (.slice (some ⟨g, 0, none⟩) m cap) m F.toList :=
  ⟨by simp [hF], .inr ⟨g, cap, _, rfl, hbase, heap_cells _ hb, h1, h2, by simp [putCells, h3], by
    rw [← hF]
    exact take_cells cur F (by rw [hF, h3]; exact Nat.mul_le_mul_right _ h1)⟩⟩

theorem ext_arr {α : Type} (d : Array α) (n : Nat) (h : d.size = n) : d.extract 0 n = d := by subst h; simp

end Go.Proofs.YteeeikninigeoaaGreatDoor

/- slices.SortFunc on what was found: the walk. -/
namespace Go.Proofs.YteeeikninigeoaaGreatDoor
set_option linter.unusedVariables false
open Go.RowKit Go.Sort Go.Lib
open Hp (nlt nlt_iff nlt_not)

def encP (q : Int × Int) : List Value := [.int .i64 q.1, .int .i64 q.2]
theorem encP_len (q : Int × Int) : (encP q).length = 2 := rfl
theorem encP_one (q : Int × Int) : ∀ v ∈ encP q, v.oneCell' = true := by
  intro v hv
  simp only [encP, List.mem_cons, List.not_mem_nil, or_false] at hv
  rcases hv with rfl | rfl <;> rfl
def cfP (a b : Int × Int) : Int := cmpN a.1 a.2 b.1 b.2
theorem swoP : SWO (ltOf cfP) where
  irrefl x := by unfold ltOf cfP; rw [decide_eq_false_iff_not, cmpN_neg]; omega
  trans x y z h1 h2 := by unfold ltOf cfP at *; rw [decide_eq_true_eq, cmpN_neg] at *; omega
  ntrans x y z h1 h2 := by unfold ltOf cfP at *; rw [decide_eq_false_iff_not, cmpN_neg] at *; omega
def prF (far : Nat → Int) (p : Nat) : Int × Int := (far p, (p : Int))
theorem flat_pr (far : Nat → Int) (X : List Nat) : flat encP (X.map (prF far)) = flat (fdL far) X := by
  unfold flat
  rw [List.flatMap_map]
  rfl
theorem perm_pr {far : Nat → Int} {X : List Nat} {M : List (Int × Int)} (h : M.Perm (X.map (prF far))) : ∃ X' : List Nat, X'.Perm X ∧ M = X'.map (prF far) := by
  refine ⟨M.map (fun q => q.2.toNat), ?_, ?_⟩
  · have h1 := h.map (fun q => q.2.toNat)
    rw [List.map_map] at h1
    have e : X.map ((fun q : Int × Int => q.2.toNat) ∘ prF far) = X := by
      conv => rhs; rw [← List.map_id X]
      apply List.map_congr_left
      intro x _
      simp [prF]
    rwa [e] at h1
  · rw [List.map_map]
    conv => lhs; rw [← List.map_id M]
    apply List.map_congr_left
    intro q hq
    obtain ⟨x, _, rfl⟩ := List.mem_map.1 (h.mem_iff.1 hq)
    simp [prF]

theorem nodup_ne {N : List Nat} (h : N.Nodup) {i j : Nat} (hi : i < N.length) (hj : j < N.length) (hij : i < j) : N[i] ≠ N[j] := List.pairwise_iff_getElem.1 h i j hi hj hij

set_option maxRecDepth 100000 in
set_option maxHeartbeats 2000000 in
theorem ksort_any (far : Nat → Int) (X : List Nat) (B n c : Nat) (a : Option Addr) (w : World) (hl : X.length = n) (h0 : 0 < n) (hn : n ≤ 1000) (hnd : X.Nodup) (h : w.ownsRow B 99 2 (.slice a n c) n (flat (fdL far) X)) :
    Calls Tryz.prog 41 #[.slice a n c, .func (.func 42) #[] #[]] w fun e w' => e = .returned (.tuple #[]) ∧ ∃ X' : List Nat, Kp (X'.Perm X ∧ X'.Pairwise (fun a b => nlt far a b = true)) ∧ Kp (w'.ownsRow B 99 2 (.slice a n c) n (flat (fdL far) X')) ∧ Kp (w.grownBy w' (blk a)) := by
  obtain ⟨gb, rfl, hg, hg2⟩ := own_some h h0
  rcases h.2 with ⟨hv, _⟩ | ⟨g', cap', cur, hv, hB', hgb, h1, h2, h3, h4⟩
  · cases hv
  simp only [Value.slice.injEq, Option.some.injEq, Addr.mk.injEq, and_true, true_and] at hv
  obtain ⟨rfl, rfl⟩ := hv
  have hs : (X.map (prF far)).toArray.size = n := by simp [hl]
  have hH : HoldsK encP 2 w gb 0 (X.map (prF far)).toArray := holds_cells hgb (by
    rw [flatK_flat encP_len (by omega), size_flatK, hs]
    rw [show (X.map (prF far)).toArray.toList = X.map (prF far) from rfl, flat_pr]
    exact h4)
  have hC : CmpLays Tryz.prog 42 #[] encP 2 cfP gb 0 (X.map (prF far)).toArray.size w := by
    intro m os dk hk x y
    exact order_any x.1 x.2 y.1 y.2 _
  have e14 : ∀ args w, (callFunc 42 args).run Tryz.prog w = .ok (.enter 42 args) w := enters_of Tryz.func42 (by kernel_rfl) rfl
  have hlim : Lib.bitLen n < 4611686018427387904 := Nat.lt_of_le_of_lt (Lib.bitLen_le n 62 (by omega) (by omega)) (by omega)
  have hp := AnyQ.pdqsortCmpFunc_all Tryz.pdqFnd 2 (fun w => by kernel_rfl) (fun w => by kernel_rfl) encP cfP 42 #[] swoP gb 0 c (X.map (prF far)).toArray w e14 hC ⟨encP_len, encP_one, hH, hg2⟩ (n + 1) 0 n (Lib.bitLen n) (X.map (prF far)).toArray w (by omega) rfl (SWK.start hH) (Nat.zero_le _) (by omega) (by omega) hlim (Or.inl rfl)
  rw [hs] at hp
  have HP := Kp.mk (show Calls Tryz.prog 77 #[.slice (some ⟨gb, 0, none⟩) n c, .int .i64 0, .int .i64 (n : Int), .int .i64 (Lib.bitLen n), .func (.func 42) #[] #[]] w _ from hp)
  have HL := Kp.mk (show Calls Tryz.prog 78 #[.int .u64 (n : Int)] w (fun e w' => e = .returned (.int .i64 (Lib.bitLen n)) ∧ w' = w) from by
    have h := Tryz.bits_Len (n : Int) w (by omega) (by omega)
    rwa [Int.toNat_natCast] at h)
  have wr : IntKind.u64.wrap (n : Int) = n := by simp [IntKind.wrap, IntKind.bits, IntKind.signed]; omega
  have hd := pdq_sorts (ltOf cfP) swoP (X.map (prF far)).toArray 0 n (Lib.bitLen n) true true (Nat.zero_le _) (by omega) (Or.inl rfl)
  have HF := Kp.mk (fun (q : Nat) (os : Array Obj) => show ∃ X' : List Nat, Kp (X'.Perm X ∧ X'.Pairwise (fun a b => nlt far a b = true)) ∧ Kp ((sortWorldK encP 2 w gb 0 q (pdq (ltOf cfP) (X.map (prF far)).toArray 0 n (Lib.bitLen n) true true) os).ownsRow B 99 2 (.slice (some ⟨gb, 0, none⟩) n c) n (flat (fdL far) X')) ∧ Kp (w.grownBy (sortWorldK encP 2 w gb 0 q (pdq (ltOf cfP) (X.map (prF far)).toArray 0 n (Lib.bitLen n) true true) os) (blk (some ⟨gb, 0, none⟩))) from by
    generalize pdq (ltOf cfP) (X.map (prF far)).toArray 0 n (Lib.bitLen n) true true = d' at *
    have hsz : d'.size = n := by rw [hd.1.1, hs]
    have hperm : d'.toList.Perm (X.map (prF far)) := by
      have := hd.1.2.2
      rw [ext_arr d' _ hsz, ext_arr (X.map (prF far)).toArray _ hs] at this
      exact this
    obtain ⟨X', hx1, hx2⟩ := perm_pr hperm
    refine ⟨X', ⟨hx1, ?_⟩, ⟨?_⟩, ⟨grownBy_cells _⟩⟩
    · refine List.pairwise_iff_getElem.2 fun i j hi hj hij => ?_
      have hl' : X'.length = n := by rw [hx1.length_eq, hl]
      have h5 := hd.2 i j (Nat.zero_le _) hij (by omega)
      unfold ltOf cfP at h5
      rw [decide_eq_false_iff_not, getElem!_pos d' j (by omega), getElem!_pos d' i (by omega)] at h5
      have e1 : ∀ k (h : k < d'.size) (h2 : k < X'.length), d'[k] = prF far (X'[k]) := fun k h h2 => by
        have : d'.toList[k]'(by rw [Array.length_toList]; exact h) = (X'.map (prF far))[k]'(by rw [List.length_map]; exact h2) := by simp only [hx2]
        rw [List.getElem_map] at this
        rw [← this, Array.getElem_toList]
      rw [e1 j (by omega) hj, e1 i (by omega) hi, cmpN_neg] at h5
      have hne : X'[i] ≠ X'[j] := fun e => by
        have := nodup_ne (hx1.nodup_iff.2 hnd) hi hj hij
        exact this e
      rw [nlt_iff]
      simp only [prF] at h5
      omega
    · have h6 := own_cells (w := w) (base := B) (g := gb) (cap := c) (n := q) (m := n) (size := 2) (e := 99) (os := os) (cur := cur) (flatK encP 2 d') (by rw [size_flatK, hsz]) hB' hgb h1 h2 h3
      rw [flatK_flat encP_len (by omega), hx2, flat_pr] at h6
      exact h6)
  clear h hg hg2 hB' hgb h1 h2 h3 h4 hH hC hp hd hlim hs
  go_enter Tryz.func41, Tryz.ntmps41
  go_wp2_with (first | (go_at_call 78; refine HL.out.mono ?_; rintro e w' ⟨rfl, rfl⟩) | (go_at_call 77; refine HP.out.mono ?_; rintro e w' ⟨rfl, q, os, rfl⟩) | fail)
  go_end0
  exact ⟨rfl, HF.out q os⟩

end Go.Proofs.YteeeikninigeoaaGreatDoor

/- near.Nearest: the walk. -/
namespace Go.Proofs.YteeeikninigeoaaGreatDoor
set_option linter.unusedVariables false
open Go.RowKit
open Hp (nlt Best KT KD HeapF IsNear)

theorem info_kp : (Tryz.prog.info? 92).map (fun i => (i.zero, i.size)) = some (some (.slice none 0 0), 1) := by kernel_rfl
set_option maxHeartbeats 1000000 in
theorem nnear_any (x : Int) (w : World) (h : -1048576 ≤ x ∧ x ≤ 1048576) : Calls Tryz.prog 38 #[.int .i64 x] w fun e w' => e = .returned (.bool true) ∧ w = w' := by
  obtain ⟨h1, h2⟩ := h
  have t1 : decide (x ≥ -1048576) = true := decide_eq_true h1
  have t2 : decide (x ≤ 1048576) = true := decide_eq_true h2
  go_enter Tryz.func38, Tryz.ntmps38
  go_wp2
  go_ret
  exact ⟨by simp, rfl⟩
theorem range_snoc (k : Nat) : natV (List.range k) ++ [.int .i64 (k : Int)] = natV (List.range (k + 1)) := by
  rw [List.range_succ, natV_app]; rfl
theorem best_start {far : Nat → Int} {k n : Nat} {T : KT} {K : List Nat} (hT : T.pl.Perm (List.range n)) (h : Best far k (T.pl ++ []) K) : K.Nodup ∧ K.length = min k n ∧ ∀ out, out.Perm K → out.Pairwise (fun a b => nlt far a b = true) → IsNear far n k out := by
  rw [List.append_nil] at h
  refine ⟨h.nd, by rw [h.len, hT.length_eq, List.length_range], fun out ho hw => Hp.near_of hT h ho hw⟩

theorem heap_nil (far : Nat → Int) : HeapF (hlt far) [] ([] : List Nat).length 0 := fun k h0 hk _ => by simp at hk
theorem own_box {w : World} {B n c g : Nat} {X : List Nat} (h : w.ownsRow B 3 1 (.slice (some ⟨g, 0, none⟩) n c) n (natV X)) (hX : X.length = n) : ∃ Q, Box w g ([] ++ natV X ++ Q).toArray 3 := by
  rcases h.2 with ⟨hv, _⟩ | ⟨g', cap', cur, hv, _, hg, _, _, _, h4⟩
  · cases hv
  · simp only [Value.slice.injEq, Option.some.injEq, Addr.mk.injEq, and_true, true_and] at hv
    obtain ⟨rfl, rfl⟩ := hv
    refine ⟨cur.toList.drop n, ?_⟩
    have e : ([] ++ natV X ++ cur.toList.drop n).toArray = cur := by
      rw [Nat.mul_one] at h4
      rw [List.nil_append, ← h4, List.take_append_drop]
    rw [e]; exact hg

attribute [local irreducible] HeapF
set_option maxRecDepth 100000 in
set_option maxHeartbeats 8000000 in
theorem nearest_any (a : Option Addr) (cap n k : Nat) (x y : Int) (L : List Pt) (w : World) (h : SlF ptL 3 w a n cap L) (hn0 : 0 < n) (hn : n ≤ 150) (hN : ∀ p ∈ L, p.Near) (hx : -1048576 ≤ x ∧ x ≤ 1048576) (hy : -1048576 ≤ y ∧ y ≤ 1048576) (hk0 : 0 < k) (hk : k ≤ 200) :
    Calls Tryz.prog 21 #[.slice a n cap, .int .i64 x, .int .i64 y, .int .i64 (k : Int)] w fun e w' => ∃ oa oc out, e = .returned (.tuple #[.slice oa (min k n) oc, .int .i64 0]) ∧ Kp (IsNear (fun i => fdist (L.getD i pt0) ⟨x, y, 0⟩) n k out) ∧ Kp (w'.ownsRow w.heap.size 3 1 (.slice oa (min k n) oc) (min k n) (natV out)) ∧ Kp (Below w.heap.size w w') := by
  have HL := Kp.mk (h.len ptL_len (by omega))
  have C0 := Kp.mk (gcheck_any a cap n L w h (by omega) hN)
  have CX := Kp.mk (fun W => nnear_any x W hx)
  have CY := Kp.mk (fun W => nnear_any y W hy)
  have H := Kp.mk h
  have HN := Kp.mk hN
  have HQ := Kp.mk (show NearXY (⟨x, y, 0⟩ : Pt) from ⟨hx, hy⟩)
  obtain ⟨far, hfar⟩ : ∃ far : Nat → Int, (fun i => fdist (L.getD i pt0) ⟨x, y, 0⟩) = far := ⟨_, rfl⟩
  have HFAR := Kp.mk hfar
  rw [hfar]
  have tk1 : ¬ ((k : Int) < 0) := by omega
  have tk2 : ((k : Int) == 0) = false := by rw [beq_eq_false_iff_ne]; omega
  have tk3 : ¬ k = 0 := by omega
  obtain ⟨m, hm⟩ : ∃ m, min k n = m := ⟨_, rfl⟩
  have HM := Kp.mk hm
  have hm0 : 0 < m := by omega
  have hmk : m ≤ 150 := by omega
  rw [hm]
  clear h hN hfar hx hy hm
  obtain ⟨B0, hB0⟩ : ∃ B0, w.heap.size = B0 := ⟨_, rfl⟩
  have HB0 := Kp.mk hB0
  rw [hB0]
  clear hB0
  go_enter Tryz.func21, Tryz.ntmps21
  go_wp2_with (first
    | (go_at_call 31; refine C0.out.mono ?_; rintro e w1 ⟨rfl, HB1⟩)
    | (go_at_call 38; with_reducible refine (CX.out _).mono ?_; rintro e w' ⟨rfl, rfl⟩)
    | (go_at_call 38; with_reducible refine (CY.out _).mono ?_; rintro e w' ⟨rfl, rfl⟩)
    | fail)
  clear CX CY C0
  go_loopw [11, 41] (fun v i wr => ∃ (j : Nat) (sa : Option Addr) (sc : Nat), j ≤ n ∧ i = .int .i64 j ∧ v = .slice sa j sc ∧ Kp (wr.ownsRow B0 3 1 (.slice sa j sc) j (natV (List.range j))) ∧ Kp (Below B0 w wr)) (fun _ i _ => n - (intOf i).toNat)
  case atStart => exact ⟨0, none, 0, Nat.zero_le _, rfl, rfl, ⟨World.ownsRow_nil _ _ _ _⟩, ⟨by rw [← HB0.out]; exact HB1.out⟩⟩
  case round =>
    obtain ⟨j, sa, sc, hj, rfl, rfl, HO, HBL⟩ := hrel
    have hBw : B0 ≤ wr.heap.size := by rw [← HB0.out]; exact HBL.out.size
    by_cases hjn : j < n
    · have HS := Kp.mk (range_snoc j)
      go_wp2_with (at_builtin; refine wpList_push tInts rfl _ _ rfl B0 sa j sc _ rfl HO.out 1 1 _ rfl rfl ?d1 (by decide) ?d2 (by decide) hBw ?d4)
      case d1 => simp [Value.oneCell']
      case d2 => omega
      case d4 =>
        intro sa' sc' w2 hown hbel
        have HO2 := Kp.mk (show w2.ownsRow B0 3 1 (.slice sa' (j + 1) sc') (j + 1) (natV (List.range (j + 1))) from by rw [← HS.out]; exact hown)
        have HB2 := Kp.mk (HBL.out.trans hbel)
        clear hown hbel HO HBL HS
        go_wp2
        go_roundw
        case rel => exact ⟨j + 1, sa', sc', by omega, by go_num, rfl, HO2, HB2⟩
        case measure => simp [intOf]; omega
    · obtain rfl : j = n := by omega
      obtain ⟨g, rfl, hgB, hgl⟩ := own_some HO.out hn0
      have hsc := (own_slc HO.out).le
      have hscm := (own_slc HO.out).capm
      obtain ⟨Q, hbx⟩ := own_box HO.out (by simp)
      have hbk : ∀ q, blk a = some q → q < B0 := fun q hq => by
        obtain ⟨q', hq', hlt'⟩ := SlC.lt H.out (by rw [flat_length ptL_len, HL.out]; omega)
        rw [hq] at hq'
        cases hq'
        rw [← HB0.out]; exact hlt'
      have hpa : blk a ≠ some g := fun e => by have := hbk g e; omega
      have hal := below_alloc (Nat.le_refl wr.heap.size) (.cells #[.slice none 0 0] 92)
      have hpts := (H.out.below (by rw [HB0.out]; exact HBL.out)).below hal
      have hx0 := Box.new wr #[.slice none 0 0] 92
      have CG := Kp.mk (grow_any g a j cap L HL.out (by omega) j (List.range j) [] Q 0 0 sc (some ⟨g, 0, none⟩) _ (by simp) (fun z hz => List.mem_range.1 hz) rfl (.inr rfl) (by simpa using hsc) hscm (hbx.below hal) hpts hpa (by simp; omega))
      rw [List.length_range] at CG
      have HX0 := Kp.mk hx0
      have HPT := Kp.mk hpts
      have HBK := Kp.mk (show ∀ q, blk a = some q → q < B0 from hbk)
      have HBW := Kp.mk (HBL.out.trans (hal.mono hBw))
      have HGB := Kp.mk (And.intro hgB hgl)
      obtain ⟨b0, hb0⟩ : ∃ b0, wr.heap.size = b0 := ⟨_, rfl⟩
      rw [hb0] at HX0 hBw HGB
      obtain ⟨w4, hw4⟩ : ∃ w4, wr.alloc (.cells #[.slice none 0 0] 92) = w4 := ⟨_, rfl⟩
      rw [hw4] at CG HX0 HPT HBW
      have HS4 := Kp.mk (show w4.heap.size = b0 + 1 by rw [← hw4, alloc_size, hb0])
      clear hbx hal hpts hx0 hpa hbk HO HBL H hsc hscm hgB hgl HB1
      go_wp2_with fail
      refine CG.out.mono ?_
      rintro e w5 ⟨v, T, Z, rfl, HKM, HT, HBZ, HG5⟩
      clear CG hw4 hb0
      have hne5 : (some g : Option Nat) ≠ some b0 := fun e => by cases e; have := HGB.out.2; omega
      have hx5 := box_grow HX0.out HG5.out hne5
      have hb5 : b0 < w5.heap.size := hx5.lt
      have HPL := Kp.mk (show ∀ q, blk a = some q → q < w5.heap.size ∧ q ≠ b0 from fun q hq => by have := HBK.out q hq; omega)
      have HP5 := Kp.mk (show SlF ptL 3 w5 a j cap L from SlC.keep HPT.out HG5.out (fun q hq => by cases hq; exact fun e => by have := HBK.out _ e; have := HGB.out.1; omega))
      have CSE := Kp.mk (show Calls Tryz.prog 40 #[v, .slice a j cap, .agg #[.int .i64 x, .int .i64 y, .int .i64 0], .int .i64 0, .int .i64 (k : Int), .pointer (some ⟨b0, 0, none⟩)] w5 (fun e w' => e = .returned (.tuple #[]) ∧ ∃ X', Kp (Best far k (T.pl ++ []) X' ∧ HeapF (hlt far) X' X'.length 0) ∧ Kp (KI b0 w5.heap.size far X' w') ∧ Kp (KeepF b0 w5.heap.size w5 w')) from by
        have h := nsearch_any b0 w5.heap.size a j cap k L ⟨x, y, 0⟩ HL.out (by omega) hk0 hk (fun p hp => (HN.out p hp).xy) HQ.out HPL.out T v 0 [] [] w5 HKM.out HP5.out HT.out.2.1 (by rw [List.append_nil]; exact HT.out.1.nodup_iff.2 List.nodup_range) (fun i hi => List.mem_range.1 (HT.out.1.mem_iff.1 hi)) (by rw [HT.out.1.length_eq, List.length_range]; omega)
          ⟨⟨none, 0, hx5, World.ownsRow_nil _ _ _ _⟩, hb5, Nat.le_refl _⟩ (Hp.best_nil _ _) (heap_nil _)
        rw [HFAR.out] at h
        exact h)
      have HTP := Kp.mk HT.out.1
      have HX5 := Kp.mk hx5
      have HB5 := Kp.mk hb5
      clear hne5 hx5 hb5 HKM HT HBZ HP5 HPL HPT
      go_wp2_with fail
      refine CSE.out.mono ?_
      rintro e w6 ⟨rfl, X6, HBT, HK6, HF6⟩
      clear CSE
      obtain ⟨hx6n, hx6l, HOUT⟩ := best_start HTP.out HBT.out.1
      rw [HM.out] at hx6l
      have HOU := Kp.mk HOUT
      obtain ⟨sa6, cap6, hb6, ho6⟩ := HK6.out.at_
      rw [hx6l] at hb6 ho6
      have CSO := Kp.mk (ksort_any far X6 w5.heap.size m cap6 sa6 w6 hx6l hm0 (by omega) hx6n ho6)
      have c6 : w6.cell? ⟨b0, 0, none⟩ = some (.slice sa6 m cap6) := hb6.cell 0 rfl
      have HB6 := Kp.mk hb6
      have HO6 := Kp.mk ho6
      clear hx6n hx6l HOUT hb6 ho6 HBT HK6
      go_wp2_with fail
      refine CSO.out.mono ?_
      rintro e w7 ⟨rfl, O, HPO, HO7, HG7⟩
      have HIN := Kp.mk (HOU.out O HPO.out.1 HPO.out.2)
      have HOL := Kp.mk (show O.length = m by rw [HIN.out.len, HM.out])
      have hx7 := box_grow HB6.out HG7.out (row_box HO6.out HB6.out (by decide))
      have c7 : w7.cell? ⟨b0, 0, none⟩ = some (.slice sa6 m cap6) := hx7.cell 0 rfl
      have HBA := Kp.mk (show Below B0 w w7 from by
        refine HBW.out.trans ?_
        have h1 : Below B0 w4 w5 := below_of_grown HG5.out (by rw [HS4.out]; omega) (fun q hq => by cases hq; exact HGB.out.1)
        have h2 : Below B0 w5 w6 := HF6.out.to hBw (by have := h1.size; rw [HS4.out] at this; omega) (by have := h1.size; rw [HS4.out] at this; omega)
        have h3 : Below B0 w6 w7 := below_of_grown HG7.out (by have := h1.size; have := h2.size; rw [HS4.out] at *; omega) (fun q hq => by have := (own_lt HO6.out q hq).1; have := h1.size; rw [HS4.out] at this; omega)
        exact h1.trans (h2.trans h3))
      clear CSO c6 HB6 HO6 HG7 HF6 HOU HPO hx7 HX5 HB5 HX0 HG5 HBW HTP
      obtain ⟨g7, rfl, _, _⟩ := own_some HO7.out hm0
      have HB7 := Kp.mk (fun (w' : World) (hb : Below w7.heap.size w7 w') (i : Nat) (hi : i < m) => show w'.cell? ⟨g7, i * 2, none⟩ = some (.int .i64 (far (O.getD i 0))) ∧ w'.cell? ⟨g7, i * 2 + 1, none⟩ = some (.int .i64 ((O.getD i 0 : Nat) : Int)) from by
        obtain ⟨d0, d1⟩ := fd_at HO7.out HOL.out i hi
        have hg : g7 < w7.heap.size := (own_lt HO7.out g7 rfl).2
        exact ⟨(hb.cell (p := ⟨g7, i * 2, none⟩) hg).trans d0, (hb.cell (p := ⟨g7, i * 2 + 1, none⟩) hg).trans d1⟩)
      have hmc : m ≤ cap6 := (own_slc HO7.out).le
      go_wp2
      go_loopw [14, 62] (fun v i wr => ∃ (q : Nat) (oa : Option Addr) (oc : Nat), q ≤ m ∧ i = .int .i64 q ∧ v = .slice oa q oc ∧ Kp (wr.ownsRow w7.heap.size 3 1 (.slice oa q oc) q (natV (O.take q))) ∧ Kp (Below w7.heap.size w7 wr)) (fun _ i _ => m - (intOf i).toNat)
      case atStart => exact ⟨0, none, 0, Nat.zero_le _, rfl, rfl, ⟨World.ownsRow_nil _ _ _ _⟩, ⟨Below.refl _ _⟩⟩
      case round =>
        obtain ⟨wo, rfl⟩ : ∃ wo : World, wo = wr := ⟨_, rfl⟩
        obtain ⟨q, oa, oc, hq, rfl, rfl, HOO, HBO⟩ := hrel
        by_cases hqm : q < m
        · obtain ⟨d0, d1⟩ := HB7.out wo HBO.out q hqm
          have HTK := Kp.mk (show natV (O.take q) ++ [.int .i64 ((O.getD q 0 : Nat) : Int)] = natV (O.take (q + 1)) from by
            rw [List.take_succ_eq_append_getElem (by rw [HOL.out]; exact hqm), natV_app, getD_at _ _ (by rw [HOL.out]; exact hqm)]; rfl)
          generalize far (O.getD q 0) = f0 at *
          generalize O.getD q 0 = p0 at *
          have HAL := Kp.mk (below_alloc (Nat.le_refl wo.heap.size) (.cells #[.int .i64 f0, .int .i64 (p0 : Int)] 99))
          have hB7 : w7.heap.size ≤ (wo.alloc (.cells #[.int .i64 f0, .int .i64 (p0 : Int)] 99)).heap.size := Nat.le_trans HBO.out.size HAL.out.size
          have x1 : (wo.alloc (.cells #[.int .i64 f0, .int .i64 (p0 : Int)] 99)).cell? ⟨wo.heap.size, 1, none⟩ = some (.int .i64 (p0 : Int)) := (Box.new wo #[.int .i64 f0, .int .i64 (p0 : Int)] 99).cell 1 rfl
          obtain ⟨w8, hw8⟩ : ∃ w8, wo.alloc (.cells #[.int .i64 f0, .int .i64 (p0 : Int)] 99) = w8 := ⟨_, rfl⟩
          rw [hw8] at x1 hB7 HAL
          go_wp2_with (at_builtin; refine wpList_push tInts rfl _ _ rfl w7.heap.size oa q oc _ rfl (own_below HOO.out HAL.out) 1 1 _ rfl rfl ?d1 (by decide) ?d2 (by decide) hB7 ?d4)
          case d1 => simp [Value.oneCell']
          case d2 => omega
          case d4 =>
            intro sa' sc' w2 hown hbel
            have HO2 := Kp.mk (show w2.ownsRow w7.heap.size 3 1 (.slice sa' (q + 1) sc') (q + 1) (natV (O.take (q + 1))) from by rw [← HTK.out]; exact hown)
            have HB2 := Kp.mk (HBO.out.trans ((HAL.out.mono HBO.out.size).trans hbel))
            clear hown hbel HOO HBO HTK HAL hw8
            go_wp2
            go_roundw
            case rel => exact ⟨q + 1, sa', sc', by omega, by go_num, rfl, HO2, HB2⟩
            case measure => simp [intOf]; omega
        · obtain rfl : q = m := by omega
          have HFO := Kp.mk (show wo.ownsRow B0 3 1 (.slice oa q oc) q (natV O) from by
            have h := HOO.out
            rw [List.take_of_length_le (by rw [HOL.out]; exact Nat.le_refl _)] at h
            exact own_base h (by rw [← HB0.out]; exact HBA.out.size))
          have HFB := Kp.mk (show Below B0 w wo from HBA.out.trans (HBO.out.mono (by rw [← HB0.out]; exact HBA.out.size)))
          clear HOO HBO HB7
          go_wp2
          exact bodyPost_ret (v := .tuple #[.slice oa q oc, .int .i64 0]) (by simp [results, Tryz.results21, go_sem]) rfl ⟨oa, oc, O, rfl, HIN, HFO, HFB⟩

end Go.Proofs.YteeeikninigeoaaGreatDoor

