/- Package perm: Cycles of an order that may be. -/
import Derived.Test.YtnieacfleabikaaCycP
import Derived.Test.YtnieacfleabikaaHdr
namespace Go.Proofs.Ytnieacfleabikaa
set_option linter.unusedVariables false
open Go.RowKit

/-- The memory of Cycles in the middle of its work. -/
structure CycMem (B n gs sc : Nat) (w0 wr : World) (oa : Option Addr) (oc : Nat) (L : List (Option Addr × Nat × List Int)) (ca : Option Addr) (cc : Nat) (c : List Int) (M : List Int) : Prop where
  hb : Below B w0 wr
  out : wr.ownsRow B 35 1 (.slice oa L.length oc) L.length (hdr L)
  cyc : wr.ownsRow B 3 1 (.slice ca c.length cc) c.length (ints c)
  seen : wr.ownsRow B 86 1 (.slice (some ⟨gs, 0, none⟩) n sc) n (marks n M)
  facts : Facts wr L
  d1 : blk oa ≠ some gs
  d2 : blk ca ≠ some gs
  d3 : ∀ x ∈ L, blk x.1 ≠ some gs
  d4 : ∀ k, blk oa = some k → blk ca ≠ some k
  d5 : ∀ k, blk oa = some k → ∀ x ∈ L, blk x.1 ≠ some k
  d6 : ∀ k, blk ca = some k → ∀ x ∈ L, blk x.1 ≠ some k

variable {B n gs sc : Nat} {w0 wr : World} {oa : Option Addr} {oc : Nat} {L : List (Option Addr × Nat × List Int)} {ca : Option Addr} {cc : Nat} {c : List Int} {M : List Int}

theorem CycMem.mark (h : CycMem B n gs sc w0 wr oa oc L ca cc c M) (j : Nat) : CycMem B n gs sc w0 (wr.setCell ⟨gs, j, none⟩ (.bool true)) oa oc L ca cc c (M ++ [(j : Int)]) := by
  have hg := grown_set wr gs j (.bool true)
  have hB := (h.seen.lt gs rfl).1
  exact ⟨h.hb.setCell (p := ⟨gs, j, none⟩) hB _, own_keep h.out hg (fun k hk => by simp at hk; subst hk; exact h.d1), own_keep h.cyc hg (fun k hk => by simp at hk; subst hk; exact h.d2),
    by rw [← marks_set]; exact (h.seen.stored j (.bool true)).1, facts_keep h.facts hg (fun k hk => by simp at hk; subst hk; exact h.d3), h.d1, h.d2, h.d3, h.d4, h.d5, h.d6⟩

/-- The way has gone on by one. -/
theorem CycMem.push (h : CycMem B n gs sc w0 wr oa oc L ca cc c M) (hne : ∀ x ∈ L, x.2.2 ≠ []) (hB : B ≤ wr.heap.size) (x : Int) {ca' : Option Addr} {cc' : Nat} {wr' : World}
    (hown : wr'.ownsRow B 3 1 (.slice ca' (c.length + 1) cc') (c.length + 1) (ints c ++ [.int .i64 x])) (hg : wr.grownBy wr' (blk ca)) (hno : NewOr wr ca ca') :
    CycMem B n gs sc w0 wr' oa oc L ca' cc' (c ++ [x]) M := by
  have hlt := facts_lt h.facts hne
  refine ⟨h.hb.trans (below_of_grown hg hB (fun k hk => (own_lt h.cyc k hk).1)), own_keep h.out hg (fun k hk he => h.d4 k he hk), ?_, own_keep h.seen hg (fun k hk => ?_), facts_keep h.facts hg h.d6, h.d1, ?_, h.d3, ?_, h.d5, ?_⟩
  · rw [List.length_append, List.length_singleton, ints_append]; exact hown
  · intro he
    simp [blk] at he
    subst he
    exact h.d2 hk
  · rcases hno with e | ⟨g, e, hg2⟩
    · rw [e]; exact h.d2
    · rw [e]
      intro he
      simp at he
      have := (own_lt h.seen gs rfl).2
      omega
  · intro k hk
    rcases hno with e | ⟨g, e, hg2⟩
    · rw [e]; exact h.d4 k hk
    · rw [e]
      intro he
      simp at he
      have := (own_lt h.out k hk).2
      omega
  · intro k hk x hx he
    rcases hno with e | ⟨g, e, hg2⟩
    · rw [e] at hk; exact h.d6 k hk x hx he
    · rw [e] at hk
      simp at hk
      have := hlt x hx k he
      omega

/-- The cycle is put to the others. -/
theorem CycMem.close (h : CycMem B n gs sc w0 wr oa oc L ca cc c M) (hne : ∀ x ∈ L, x.2.2 ≠ []) (hc : c ≠ []) (hB : B ≤ wr.heap.size) {oa' : Option Addr} {oc' : Nat} {wr' : World}
    (hown : wr'.ownsRow B 35 1 (.slice oa' (L.length + 1) oc') (L.length + 1) (hdr L ++ [.slice ca c.length cc])) (hg : wr.grownBy wr' (blk oa)) (hno : NewOr wr oa oa') :
    CycMem B n gs sc w0 wr' oa' oc' (L ++ [(ca, cc, c)]) none 0 [] M := by
  have hlt := facts_lt h.facts hne
  have hc2 : ∀ k, blk ca = some k → k < wr.heap.size := fun k hk => (own_lt h.cyc k hk).2
  have hsl : SlI wr ca cc c := own_slc h.cyc
  refine ⟨h.hb.trans (below_of_grown hg hB (fun k hk => (own_lt h.out k hk).1)), ?_, World.ownsRow_nil _ _ _ _, own_keep h.seen hg (fun k hk => ?_), ?_, ?_, by simp [blk], ?_, by simp [blk], ?_, by simp [blk]⟩
  · rw [List.length_append, List.length_singleton, hdr_append]; exact hown
  · intro he
    simp [blk] at he
    subst he
    exact h.d1 hk
  · intro x hx
    rcases List.mem_append.1 hx with hx | hx
    · exact SlC.keep (h.facts x hx) hg (fun k hk => h.d5 k hk x hx)
    · rw [List.mem_singleton] at hx
      subst hx
      exact SlC.keep hsl hg (fun k hk => h.d4 k hk)
  · rcases hno with e | ⟨g, e, hg2⟩
    · rw [e]; exact h.d1
    · rw [e]
      intro he
      simp at he
      have := (own_lt h.seen gs rfl).2
      omega
  · intro x hx
    rcases List.mem_append.1 hx with hx | hx
    · exact h.d3 x hx
    · rw [List.mem_singleton] at hx; subst hx; exact h.d2
  · intro k hk x hx he
    rcases List.mem_append.1 hx with hx | hx
    · rcases hno with e | ⟨g, e, hg2⟩
      · rw [e] at hk; exact h.d5 k hk x hx he
      · rw [e] at hk
        simp at hk
        have := hlt x hx k he
        omega
    · rw [List.mem_singleton] at hx
      subst hx
      rcases hno with e | ⟨g, e, hg2⟩
      · rw [e] at hk; exact h.d4 k hk he
      · rw [e] at hk
        simp at hk
        have := hc2 k he
        omega

theorem len_flatten (L : List (Option Addr × Nat × List Int)) (h : ∀ x ∈ L, x.2.2 ≠ []) : L.length ≤ (lists L).flatten.length := by
  induction L with
  | nil => simp
  | cons x L ih =>
    have h1 := List.length_pos_iff.2 (h x (by simp))
    have h2 := ih (fun y hy => h y (by simp [hy]))
    simp [lists] at h2 ⊢
    omega
theorem cyc_len {p : List Int} {L : List (Option Addr × Nat × List Int)} (h : Cyc p (lists L)) (hne : ∀ x ∈ L, x.2.2 ≠ []) : L.length ≤ p.length := by
  have h2 := len_flatten L hne
  have h3 : (lists L).flatten.length ≤ (iota p.length).length := h.nd.length_le_of_subset (fun x hx => by
    have := h.rng x hx
    exact List.mem_iff_getElem.2 ⟨x.toNat, by rw [iota_length]; omega, by rw [iota_get]; omega⟩)
  rw [iota_length] at h3
  omega

def lenOf : Value → Nat | .slice _ n _ => n | _ => 0

end Go.Proofs.Ytnieacfleabikaa
