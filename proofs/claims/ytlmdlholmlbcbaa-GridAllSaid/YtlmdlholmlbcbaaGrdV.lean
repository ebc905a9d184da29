/- Package grid: the plain facts of Top. -/
import Derived.Test.YtlmdlholmlbcbaaNrP
import Derived.Test.YtlmdlholmlbcbaaPtP
namespace Go.Proofs.Ytlmdlholmlbcbaa
set_option linter.unusedVariables false
open Hp (nlt nlt_iff nlt_not nlt_ord nlt_tot nlt_irr Ord HeapF heap_root)

/-- The heavier a place, the smaller its key. -/
def wtL (L : List Pt) (i : Nat) : Int := - (L.getD i pt0).w
theorem wt_ord (far : Nat → Int) : Ord (nlt far) := by
  refine ⟨fun a b h => ?_, fun a b c h1 h2 => ?_⟩
  · rw [nlt_not]; have := (nlt_iff _ _ _).1 h; omega
  · rw [nlt_not]; have := (nlt_not _ _ _).1 h1; have := (nlt_not _ _ _).1 h2; omega
/-- Out: the first ones of S by a key; X: the others. -/
structure TopInv (far : Nat → Int) (S Out X : List Nat) : Prop where
  nd : S.Nodup
  perm : (Out ++ X).Perm S
  up : Out.Pairwise (fun a b => nlt far a b = true)
  sep : ∀ o ∈ Out, ∀ x ∈ X, nlt far o x = true
theorem top_start {far : Nat → Int} {S X : List Nat} (hS : S.Nodup) (h : X.Perm S) : TopInv far S [] X := ⟨hS, h, List.Pairwise.nil, fun o ho => absurd ho (by simp)⟩
theorem top_perm {far : Nat → Int} {S Out X X' : List Nat} (h : TopInv far S Out X) (hp : X'.Perm X) : TopInv far S Out X' :=
  ⟨h.nd, (hp.append_left Out).trans h.perm, h.up, fun o ho x hx => h.sep o ho x (hp.mem_iff.1 hx)⟩
theorem top_step {far : Nat → Int} {S Out X X' : List Nat} {m : Nat} (h : TopInv far S Out X) (hl : X.length = m + 1) (hh : HeapF (nlt far) X (m + 1) 0) (hp : (X.getD 0 0 :: X').Perm X) : TopInv far S (Out ++ [X.getD 0 0]) X' := by
  have h1 := top_perm h hp
  have hr := heap_root (wt_ord far) hh
  generalize X.getD 0 0 = r at *
  have hnd : (Out ++ r :: X').Nodup := h1.perm.nodup_iff.2 h.nd
  have hnd2 := (List.nodup_append.1 hnd).2.1
  refine ⟨h.nd, ?_, ?_, ?_⟩
  · rw [List.append_assoc]; exact h1.perm
  · rw [List.pairwise_append]
    refine ⟨h.up, List.pairwise_singleton _ _, fun a ha b hb => ?_⟩
    rw [List.mem_singleton.1 hb]
    exact h1.sep a ha r List.mem_cons_self
  · intro o ho x hx
    rcases List.mem_append.1 ho with ho | ho
    · exact h1.sep o ho x (List.mem_cons_of_mem _ hx)
    · rw [List.mem_singleton.1 ho]
      have hxX : x ∈ X := hp.mem_iff.1 (List.mem_cons_of_mem _ hx)
      obtain ⟨k, hk, rfl⟩ := List.getElem_of_mem hxX
      have h2 := hr k (by omega)
      rw [getD_at X 0 hk] at h2
      refine nlt_tot h2 (fun e => ?_)
      have := (List.nodup_cons.1 hnd2).1
      rw [e] at hx
      exact this hx
/-- What Top hands back. -/
structure IsTop (far : Nat → Int) (S : List Nat) (k : Nat) (Out : List Nat) : Prop where
  inv : ∃ X, TopInv far S Out X
  len : Out.length = min k S.length
theorem top_end {far : Nat → Int} {S Out X : List Nat} {k : Nat} (h : TopInv far S Out X) (hk : Out.length ≤ k) (he : ¬ Out.length < k ∨ X.length = 0) : IsTop far S k Out :=
  ⟨⟨X, h⟩, by have := h.perm.length_eq; rw [List.length_append] at this; omega⟩
theorem IsTop.mem {far : Nat → Int} {S Out : List Nat} {k : Nat} (h : IsTop far S k Out) (o : Nat) (ho : o ∈ Out) : o ∈ S := by
  obtain ⟨X, hx⟩ := h.inv
  exact hx.perm.mem_iff.1 (List.mem_append_left _ ho)
theorem IsTop.nodup {far : Nat → Int} {S Out : List Nat} {k : Nat} (h : IsTop far S k Out) : Out.Nodup := by
  obtain ⟨X, hx⟩ := h.inv
  exact (List.nodup_append.1 (hx.perm.nodup_iff.2 hx.nd)).1
theorem IsTop.le {far : Nat → Int} {S Out : List Nat} {k : Nat} (h : IsTop far S k Out) (i j : Nat) (hij : i < j) (hj : j < Out.length) : far (Out.getD i 0) ≤ far (Out.getD j 0) := by
  obtain ⟨X, hx⟩ := h.inv
  have := List.pairwise_iff_getElem.1 hx.up i j (by omega) hj hij
  rw [getD_at Out 0 (by omega), getD_at Out 0 hj]
  rw [nlt_iff] at this; omega
theorem IsTop.rest {far : Nat → Int} {S Out : List Nat} {k : Nat} (h : IsTop far S k Out) (s : Nat) (hs : s ∈ S) (hn : s ∉ Out) (o : Nat) (ho : o ∈ Out) : far o ≤ far s := by
  obtain ⟨X, hx⟩ := h.inv
  have hsx : s ∈ X := by
    rcases List.mem_append.1 (hx.perm.mem_iff.2 hs) with h1 | h1
    · exact absurd h1 hn
    · exact h1
  have := hx.sep o ho s hsx
  rw [nlt_iff] at this; omega

end Go.Proofs.Ytlmdlholmlbcbaa
