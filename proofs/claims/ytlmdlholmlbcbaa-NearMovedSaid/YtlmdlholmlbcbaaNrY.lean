/- slices.SortFunc on what was found: the walk. -/
import Derived.Test.YtlmdlholmlbcbaaNrH
import Derived.Test.YtlmdlholmlbcbaaRowC
import Derived.Test.YtlmdlholmlbcbaaShelfN
import Derived.Test.YtlmdlholmlbcbaaShelf
namespace Go.Proofs.Ytlmdlholmlbcbaa
set_option linter.unusedVariables false
open Go.RowKit Go.Sort Go.Lib
open Hp (nlt nlt_iff nlt_not)

def encP (q : Int × Int) : List Value := [.int .i64 q.1, .int .i64 q.2]
theorem encP_len (q : Int × Int) : (encP q).length = 2 := rfl
theorem encP_one (q : Int × Int) : ∀ v ∈ encP q, v.oneCell' = true := by
  intro v hv
  simp only [encP, List.mem_cons, List.not_mem_nil, or_false] at hv
  rcases hv with rfl | rfl <;> rfl
def cfP (a b : Int × Int) : Int := cmpN a.1 a.2 b.1 b.2
theorem swoP : SWO (ltOf cfP) where
  irrefl x := by unfold ltOf cfP; rw [decide_eq_false_iff_not, cmpN_neg]; omega
  trans x y z h1 h2 := by unfold ltOf cfP at *; rw [decide_eq_true_eq, cmpN_neg] at *; omega
  ntrans x y z h1 h2 := by unfold ltOf cfP at *; rw [decide_eq_false_iff_not, cmpN_neg] at *; omega
def prF (far : Nat → Int) (p : Nat) : Int × Int := (far p, (p : Int))
theorem flat_pr (far : Nat → Int) (X : List Nat) : flat encP (X.map (prF far)) = flat (fdL far) X := by
  unfold flat
  rw [List.flatMap_map]
  rfl
theorem perm_pr {far : Nat → Int} {X : List Nat} {M : List (Int × Int)} (h : M.Perm (X.map (prF far))) : ∃ X' : List Nat, X'.Perm X ∧ M = X'.map (prF far) := by
  refine ⟨M.map (fun q => q.2.toNat), ?_, ?_⟩
  · have h1 := h.map (fun q => q.2.toNat)
    rw [List.map_map] at h1
    have e : X.map ((fun q : Int × Int => q.2.toNat) ∘ prF far) = X := by
      conv => rhs; rw [← List.map_id X]
      apply List.map_congr_left
      intro x _
      simp [prF]
    rwa [e] at h1
  · rw [List.map_map]
    conv => lhs; rw [← List.map_id M]
    apply List.map_congr_left
    intro q hq
    obtain ⟨x, _, rfl⟩ := List.mem_map.1 (h.mem_iff.1 hq)
    simp [prF]

theorem nodup_ne {N : List Nat} (h : N.Nodup) {i j : Nat} (hi : i < N.length) (hj : j < N.length) (hij : i < j) : N[i] ≠ N[j] := List.pairwise_iff_getElem.1 h i j hi hj hij

set_option maxRecDepth 100000 in
set_option maxHeartbeats 2000000 in
theorem ksort_any (far : Nat → Int) (X : List Nat) (B n c : Nat) (a : Option Addr) (w : World) (hl : X.length = n) (h0 : 0 < n) (hn : n ≤ 1000) (hnd : X.Nodup) (h : w.ownsRow B 101 2 (.slice a n c) n (flat (fdL far) X)) :
    Calls Try.prog 63 #[.slice a n c, .func (.func 64) #[] #[]] w fun e w' => e = .returned (.tuple #[]) ∧ ∃ X' : List Nat, Kp (X'.Perm X ∧ X'.Pairwise (fun a b => nlt far a b = true)) ∧ Kp (w'.ownsRow B 101 2 (.slice a n c) n (flat (fdL far) X')) ∧ Kp (w.grownBy w' (blk a)) := by
  obtain ⟨gb, rfl, hg, hg2⟩ := own_some h h0
  rcases h.2 with ⟨hv, _⟩ | ⟨g', cap', cur, hv, hB', hgb, h1, h2, h3, h4⟩
  · cases hv
  simp only [Value.slice.injEq, Option.some.injEq, Addr.mk.injEq, and_true, true_and] at hv
  obtain ⟨rfl, rfl⟩ := hv
  have hs : (X.map (prF far)).toArray.size = n := by simp [hl]
  have hH : HoldsK encP 2 w gb 0 (X.map (prF far)).toArray := holds_cells hgb (by
    rw [flatK_flat encP_len (by omega), size_flatK, hs]
    rw [show (X.map (prF far)).toArray.toList = X.map (prF far) from rfl, flat_pr]
    exact h4)
  have hC : CmpLays Try.prog 64 #[] encP 2 cfP gb 0 (X.map (prF far)).toArray.size w := by
    intro m os dk hk x y
    exact order_any x.1 x.2 y.1 y.2 _
  have e14 : ∀ args w, (callFunc 64 args).run Try.prog w = .ok (.enter 64 args) w := enters_of Try.func64 (by kernel_rfl) rfl
  have hlim : Lib.bitLen n < 4611686018427387904 := Nat.lt_of_le_of_lt (Lib.bitLen_le n 62 (by omega) (by omega)) (by omega)
  have hp := AnyQ.pdqsortCmpFunc_all Try.pdqFnd 2 (fun w => by kernel_rfl) (fun w => by kernel_rfl) encP cfP 64 #[] swoP gb 0 c (X.map (prF far)).toArray w e14 hC ⟨encP_len, encP_one, hH, hg2⟩ (n + 1) 0 n (Lib.bitLen n) (X.map (prF far)).toArray w (by omega) rfl (SWK.start hH) (Nat.zero_le _) (by omega) (by omega) hlim (Or.inl rfl)
  rw [hs] at hp
  have HP := Kp.mk (show Calls Try.prog 102 #[.slice (some ⟨gb, 0, none⟩) n c, .int .i64 0, .int .i64 (n : Int), .int .i64 (Lib.bitLen n), .func (.func 64) #[] #[]] w _ from hp)
  have HL := Kp.mk (show Calls Try.prog 103 #[.int .u64 (n : Int)] w (fun e w' => e = .returned (.int .i64 (Lib.bitLen n)) ∧ w' = w) from by
    have h := Try.bits_Len (n : Int) w (by omega) (by omega)
    rwa [Int.toNat_natCast] at h)
  have wr : IntKind.u64.wrap (n : Int) = n := by simp [IntKind.wrap, IntKind.bits, IntKind.signed]; omega
  have hd := pdq_sorts (ltOf cfP) swoP (X.map (prF far)).toArray 0 n (Lib.bitLen n) true true (Nat.zero_le _) (by omega) (Or.inl rfl)
  have HF := Kp.mk (fun (q : Nat) (os : Array Obj) => show ∃ X' : List Nat, Kp (X'.Perm X ∧ X'.Pairwise (fun a b => nlt far a b = true)) ∧ Kp ((sortWorldK encP 2 w gb 0 q (pdq (ltOf cfP) (X.map (prF far)).toArray 0 n (Lib.bitLen n) true true) os).ownsRow B 101 2 (.slice (some ⟨gb, 0, none⟩) n c) n (flat (fdL far) X')) ∧ Kp (w.grownBy (sortWorldK encP 2 w gb 0 q (pdq (ltOf cfP) (X.map (prF far)).toArray 0 n (Lib.bitLen n) true true) os) (blk (some ⟨gb, 0, none⟩))) from by
    generalize pdq (ltOf cfP) (X.map (prF far)).toArray 0 n (Lib.bitLen n) true true = d' at *
    have hsz : d'.size = n := by rw [hd.1.1, hs]
    have hperm : d'.toList.Perm (X.map (prF far)) := by
      have := hd.1.2.2
      rw [ext_arr d' _ hsz, ext_arr (X.map (prF far)).toArray _ hs] at this
      exact this
    obtain ⟨X', hx1, hx2⟩ := perm_pr hperm
    refine ⟨X', ⟨hx1, ?_⟩, ⟨?_⟩, ⟨grownBy_cells _⟩⟩
    · refine List.pairwise_iff_getElem.2 fun i j hi hj hij => ?_
      have hl' : X'.length = n := by rw [hx1.length_eq, hl]
      have h5 := hd.2 i j (Nat.zero_le _) hij (by omega)
      unfold ltOf cfP at h5
      rw [decide_eq_false_iff_not, getElem!_pos d' j (by omega), getElem!_pos d' i (by omega)] at h5
      have e1 : ∀ k (h : k < d'.size) (h2 : k < X'.length), d'[k] = prF far (X'[k]) := fun k h h2 => by
        have : d'.toList[k]'(by rw [Array.length_toList]; exact h) = (X'.map (prF far))[k]'(by rw [List.length_map]; exact h2) := by simp only [hx2]
        rw [List.getElem_map] at this
        rw [← this, Array.getElem_toList]
      rw [e1 j (by omega) hj, e1 i (by omega) hi, cmpN_neg] at h5
      have hne : X'[i] ≠ X'[j] := fun e => by
        have := nodup_ne (hx1.nodup_iff.2 hnd) hi hj hij
        exact this e
      rw [nlt_iff]
      simp only [prF] at h5
      omega
    · have h6 := own_cells (w := w) (base := B) (g := gb) (cap := c) (n := q) (m := n) (size := 2) (e := 101) (os := os) (cur := cur) (flatK encP 2 d') (by rw [size_flatK, hsz]) hB' hgb h1 h2 h3
      rw [flatK_flat encP_len (by omega), hx2, flat_pr] at h6
      exact h6)
  clear h hg hg2 hB' hgb h1 h2 h3 h4 hH hC hp hd hlim hs
  go_enter Try.func63, Try.ntmps63
  go_wp2_with (first | (go_at_call 103; refine HL.out.mono ?_; rintro e w' ⟨rfl, rfl⟩) | (go_at_call 102; refine HP.out.mono ?_; rintro e w' ⟨rfl, q, os, rfl⟩) | fail)
  go_end0
  exact ⟨rfl, HF.out q os⟩

end Go.Proofs.Ytlmdlholmlbcbaa
