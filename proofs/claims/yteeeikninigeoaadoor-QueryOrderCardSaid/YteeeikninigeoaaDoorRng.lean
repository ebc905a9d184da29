/- A range over a function whose rounds come in a known order: the rule for the loop, out of the iterator's contract and one walk of the body. -/
import Derived.Test.YteeeikninigeoaaDoorKeep
import Derived.RangeFuncNested
import Derived.RangeFuncBound
import Derived.RangeFuncLeaves
import Derived.RangeFuncBox
import Derived.OwnWalkIn
import Derived.TacticsInMore
import Derived.LoopNIn
import Derived.LoopIn
namespace Go.Proofs.YteeeikninigeoaaDoor
set_option linter.unusedVariables false
open Go.RowKit

/-- What an iterator does: rounds 0 to n - 1, round k with the values encs k; Kp is what a round keeps for it. -/
def Gives (P : Program) (g : Nat) (lb : Array Value) (encs : Nat → Array Value) (Kp : World → World → Prop) (n : Nat) (w : World) : Prop :=
  ∀ (l : Nat) (J : Nat → World → Prop) (W : World), Below w.heap.size w W → AbidesFrom W.heap.size J →
    (∀ k W1, k < n → J k W1 → YieldAt Fence.wide 1 P l (encs k) W1 fun e W' => e = .returned (.bool true) ∧ J (k + 1) W' ∧ Kp W1 W') →
    J 0 W → CallsIn Fence.wide 2 P g (#[.func (.yield l) #[] #[]] ++ lb) W fun e W' => (∃ v, e = .returned v) ∧ J n W'

/-- How the body of a round is left. -/
def roundEnd (B : Nat) (Kp : World → World → Prop) (I : Nat → World → Prop) (k : Nat) (W : World) : Exit → Act → World → Prop
  | .normal, _, W' => KeepsFrom B W W' ∧ Kp W W' ∧ I (k + 1) W'
  | _, _, _ => False

theorem range_law {P : Program} {g : Operand} {ps : Array Tmp} {assign body : Code} {Q : Exit → Act → World → Prop} {a : Act} {w : World}
    {gf : Nat} {lb : Array Value} (hg : a.eval g = .func (.func gf) #[] lb) (eg : ∀ args w, (callFunc gf args).run P w = .ok (.enter gf args) w)
    {encs : Nat → Array Value} {Kp : World → World → Prop} {N : Nat} {w0 : World} (hseq : Gives P gf lb encs Kp N w0)
    (hKt : ∀ {A B C : World}, Kp A B → Kp B C → Kp A C) (hKb : ∀ (W : World) (l : Nat) (o o' : Obj), w.heap.size ≤ l → W.heap[l]? = some o → o.isCells = false → Kp W (W.putObj l o'))
    (hb0 : Below w0.heap.size w0 w) (hps : ∀ k, (encs k).size = ps.size)
    (I : Nat → World → Prop) (hI : OwnFrom w.heap.size I) (h0 : I 0 w) (Ax : Nat → Act → World → Prop) (hAx : ∀ k a', OwnFrom w.heap.size (fun (_ : Unit) W => Ax k a' W))
    (hassign : ∀ (l k : Nat) (W : World) (K : Act → World → Prop), k < N → w.heap.size ≤ W.heap.size → I k W → (∀ a' W', KeepsFrom w.heap.size W W' → Kp W W' → I k W' → Ax k a' W' → K a' W') →
      assign.wpIn (Fence.wide.inRound l) 1 P (Exit.then K (fun _ _ _ => False)) { tmps := (ps.zip (encs k)).foldl (fun t (p, v) => t.setIfInBounds p v) a.tmps, defers := [] } W)
    (hbody : ∀ (l k : Nat) (a' : Act) (W : World), k < N → w.heap.size ≤ W.heap.size → I k W → Ax k a' W → body.wpIn (Fence.wide.inRound l) 1 P (roundEnd w.heap.size Kp I k W) a' W)
    (hdone : ∀ (D : Nat) (W : World), w.heap.size ≤ D → I N W → W.heap[D]? = some (.deferred (some [])) → Q .normal { a with defers := { target := .collected D, args := #[] } :: a.defers } W) :
    (Code.rangeFunc g ps assign body).wpIn Fence.wide 3 P Q a w := by
  refine wpIn_rangeFunc fun fn hfn => ?_
  rw [show Fence.wide.round = none from rfl]
  let rc : LoopState → Loop := fun st => { state := st, pending := none, fn, tmps := a.tmps, params := ps, assign, body, defers := w.heap.size }
  have hz : (w.alloc (.deferred (some []))).heap.size = w.heap.size + 1 := alloc_size _ _
  -- the loop's record and the block for what is deferred
  let Bk : LoopState → World → Prop := fun st W => W.heap[w.heap.size + 1]? = some (.loop (rc st)) ∧ W.heap[w.heap.size]? = some (.deferred (some []))
  have hB1 : Bk .ready ((w.alloc (.deferred (some []))).alloc (.loop (rc .ready))) := by
    refine ⟨?_, ?_⟩
    · have := World.alloc_heap_new (w.alloc (.deferred (some []))) (.loop (rc .ready)); rwa [hz] at this
    · exact (Below.heap_alloc _ _ _ (by rw [hz]; omega)).trans (World.alloc_heap_new w _)
  have hput : ∀ (st st' : LoopState) (W : World), Bk st W → Bk st' (W.putObj (w.heap.size + 1) (.loop (rc st'))) := fun st st' W h =>
    ⟨World.putObj_heap_same (Array.getElem?_eq_some_iff.1 h.1).1, (World.putObj_heap_other (by omega)).trans h.2⟩
  have hkeep : ∀ (st : LoopState) (W W' : World), Bk st W → KeepsFrom w.heap.size W W' → Bk st W' := fun st W W' h hk => ⟨hk.same _ _ (by omega) h.1 rfl, hk.same _ _ (Nat.le_refl _) h.2 rfl⟩
  have hle : ∀ (st : LoopState) (W : World), Bk st W → w.heap.size ≤ W.heap.size := fun st W h => by have := (Array.getElem?_eq_some_iff.1 h.2).1; omega
  refine ⟨w.heap.size + 1, [{ target := .collected w.heap.size, args := #[] }], (w.alloc (.deferred (some []))).alloc (.loop (rc .ready)), { target := .fn (.func gf) lb, args := #[.func (.yield (w.heap.size + 1)) #[] #[]] }, (w.alloc (.deferred (some []))).alloc (.loop (rc .ready)), gf, #[.func (.yield (w.heap.size + 1)) #[] #[]] ++ lb, (w.alloc (.deferred (some []))).alloc (.loop (rc .ready)),
    run_enterLoop_outer fn a.tmps ps assign body, ?_, fun _ _ => trivial, ?_, fun h => by simp [Fence.wide] at h, ?_⟩
  · simp only [resolve, hg]; simp [go_sem]
  · simp [invoke, go_sem, eg]
  refine (hseq (w.heap.size + 1) (fun k W => I k W ∧ Bk .ready W) _ ?_ ?_ ?_ ⟨hI.alloc _ (hI.alloc _ h0), hB1⟩).mono ?_
  · exact hb0.trans ((((Below.refl _ w).alloc (Nat.le_refl _) _).alloc (by rw [hz]; omega) _).mono hb0.size)
  · intro k X Y row hs hgr hr
    have hr' : ∀ r, row = some r → w.heap.size ≤ r ∧ ∃ o : Obj, X.heap[r]? = some o ∧ o.isCells = false := fun r e => by
      obtain ⟨h1, o, ho, hw⟩ := hr r e
      rw [alloc_size, alloc_size] at h1
      exact ⟨by omega, o, ho, Obj.not_cells_of_walk hw⟩
    exact ⟨hI k X Y row hs.1 hgr hr', (grownBy_keeps hgr (fun r e => (hr r e).2) hs.2.1 rfl).trans hs.2.1, (grownBy_keeps hgr (fun r e => (hr r e).2) hs.2.2 rfl).trans hs.2.2⟩
  · rintro k W hk ⟨hi, hB⟩
    refine ⟨fn, _, assign, body, run_yield hB.1 (hps k), roundIn_of_wpIn hfn (hassign _ k W _ hk (hle _ _ hB) hi ?_)⟩
    intro a' Wa hka hpa hia hax
    have hBa := hkeep _ _ _ hB hka
    refine ⟨_, run_beginRound hBa.1 rfl, ?_⟩
    have hBb := hput .ready .busy Wa hBa
    have hpb : Kp Wa (Wa.putObj (w.heap.size + 1) (.loop (rc .busy))) := hKb _ _ _ _ (by omega) hBa.1 rfl
    refine wpIn_mono (hbody _ k a' _ hk (hle _ _ hBb) (hI.putObj _ hia (by omega) hBa.1 rfl) ((hAx k a').putObj (s := ()) _ hax (by omega) hBa.1 rfl)) ?_
    rintro e a3 W3 hp
    cases e with
    | normal =>
      obtain ⟨hk3, hp3, hi3⟩ := hp
      have hB3 := hkeep _ _ _ hBb hk3
      refine ⟨_, _, run_endRound none hB3.1, rfl, ⟨hI.putObj _ hi3 (by omega) hB3.1 rfl, hput .busy .ready W3 hB3⟩, hKt hpa (hKt (hKt hpb hp3) (hKb _ _ _ _ (by omega) hB3.1 rfl))⟩
    | _ => exact hp.elim
  · rintro e W2 ⟨⟨v, rfl⟩, hi, hB⟩
    exact ⟨none, _, run_endLoop hB.1 (by simp [rc]), hdone _ _ (Nat.le_refl _) (hI.putObj _ hi (by omega) hB.1 rfl) ((World.putObj_heap_other (by omega)).trans hB.2)⟩

end Go.Proofs.YteeeikninigeoaaDoor
