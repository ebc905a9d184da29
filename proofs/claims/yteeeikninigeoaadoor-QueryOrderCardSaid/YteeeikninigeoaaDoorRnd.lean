/- A region in the body of a loop over a function is walked as anywhere else. -/
import Derived.Test.YteeeikninigeoaaDoorRng
import Derived.OrdersIn
namespace Go.Proofs.YteeeikninigeoaaDoor
set_option linter.unusedVariables false
open Go.RowKit

/-- Only the way on counts. -/
def Ahead (Q : Exit → Act → World → Prop) : Exit → Act → World → Prop
  | .normal, a, w => Q .normal a w
  | _, _, _ => False
theorem Ahead.intro {Q : Exit → Act → World → Prop} {a : Act} {w : World} (h : Q .normal a w) : Ahead Q .normal a w := h
theorem not_lets (Q : Exit → Act → World → Prop) : ¬ LetsOut (Ahead Q) := fun ⟨_, _, h⟩ => h
def noDefer (l : List Oper) : Bool := l.all fun o => match o.op with | .defer _ => false | _ => true
theorem noDefer_at {l : List Oper} (h : noDefer l = true) {o : Oper} (ho : o ∈ l) : ∀ c, o.op ≠ .defer c := fun c e => by
  have := List.all_eq_true.1 h o ho
  rw [e] at this
  cases this

section
variable {P : Program} {l m : Nat} {Q : Exit → Act → World → Prop}
theorem lift_op {o : Oper} {a : Act} {w : World} {K : Act → World → Prop} (hd : ∀ c, o.op ≠ .defer c) (h : o.wp P a w K (Ahead Q)) : o.wpIn (Fence.wide.inRound l) m P a w K Q := by
  refine ⟨fun _ _ => trivial, ?_⟩
  rw [Oper.semAt_eq _ _ _ hd]
  unfold Oper.wp at h
  generalize (execOp a.eval o).run P w = r at h ⊢
  cases r with
  | ok n w' =>
    cases n with
    | value v => exact h
    | skip => exact h
    | defer d => exact h
    | enter f args =>
      refine ⟨fun h => by simp [Fence.wide, Fence.inRound] at h, ?_⟩
      refine CallsIn.inRound l (callsIn_wide.2 (Calls.mono h fun e w'' he => ?_))
      cases e with
      | returned v => exact he
      | panicked c => exact he.elim
      | outgrown => exact (not_lets _ he).elim
    | row row args =>
      refine ⟨fun h => by simp [Fence.wide, Fence.inRound] at h, fun c cs _ => ?_⟩
      obtain ⟨v, w'', hr, hs⟩ := h c cs
      exact ⟨v, w'', hr, stepsIn_wide.2 hs⟩
    | _ => exact h.elim
  | halt x w' => cases x <;> exact h.elim

theorem lift_list {ops : Array Oper} : ∀ (L : List Oper) (a : Act) (w : World), noDefer L = true → wpList P ops (Ahead Q) L a w → wpListIn (Fence.wide.inRound l) m P ops Q L a w
  | [], _, _, _, h => h
  | o :: L, a, w, hd, h => by
    have hd1 := noDefer_at hd (List.mem_cons_self ..)
    have hd2 : noDefer L = true := by simp only [noDefer, List.all_cons, Bool.and_eq_true] at hd; exact hd.2
    unfold wpList at h
    unfold wpListIn
    split
    · rename_i hw
      rw [if_pos hw] at h
      rcases h with h | ⟨_, h⟩
      · exact lift_op hd1 (Oper.wp_mono (fun a' w' h' => h') (Oper.wp_mono (K' := fun a' w' => wpListIn (Fence.wide.inRound l) m P ops Q L a' w') (fun a' w' h' => lift_list L a' w' hd2 h') h))
      · exact (not_lets _ h).elim
    · rename_i hw
      rw [if_neg hw] at h
      exact ⟨fun _ _ => trivial, lift_list L _ _ hd2 h⟩

theorem lift_any {md : Region.Mode} {ops : Array Oper} (hd : noDefer ops.toList = true) : ∀ (fuel : Nat) (listed : Array Bool) (a : Act) (w : World), wpAny P md ops (Ahead Q) fuel listed a w → wpAnyIn (Fence.wide.inRound l) m P md ops Q fuel listed a w
  | 0, _, _, _, h => h
  | fuel + 1, listed, a, w, h => by
    refine ⟨h.1, fun i hi => ?_⟩
    have h2 := h.2 i hi
    unfold wpOp at h2
    unfold wpOpIn
    split
    · rename_i e; rw [e] at h2; exact lift_any hd fuel _ _ _ h2
    · rename_i o e
      rw [e] at h2
      dsimp only at h2
      have ho : ∀ c, o.op ≠ .defer c := noDefer_at hd (by obtain ⟨hlt, rfl⟩ := Array.getElem?_eq_some_iff.1 e; simp)
      split
      · rename_i hw
        rw [if_pos hw] at h2
        rcases h2 with h2 | ⟨_, h2⟩
        · exact lift_op ho (Oper.wp_mono (fun a' w' h' => lift_any hd fuel _ a' w' h') h2)
        · exact (not_lets _ h2).elim
      · rename_i hw
        rw [if_neg hw] at h2
        exact ⟨fun _ _ => trivial, lift_any hd fuel _ _ _ h2⟩

theorem round_list {id : Nat} {L : List Oper} {a : Act} {w : World} (hd : noDefer L = true) (h : wpList P L.toArray (Ahead Q) L a w) : (Code.region id L.toArray false).wpIn (Fence.wide.inRound l) m P Q a w :=
  wpIn_region_lit (lift_list L a w hd h)
theorem round_any {id : Nat} {L : List Oper} {a : Act} {w : World} (hm : P.follows .mixedOrders = true) (hd : noDefer L = true)
    (h : wpAny P .any L.toArray (Ahead Q) L.toArray.size (Array.replicate L.toArray.size false) a w.drew) : (Code.region id L.toArray true).wpIn (Fence.wide.inRound l) m P Q a w :=
  wpIn_region_any hm (lift_any (by simpa using hd) _ _ _ _ h)
theorem round_held {id N : Nat} {L : List Oper} {a : Act} {w : World} (S : World → Prop) (hm : P.follows .mixedOrders = true) (hd : noDefer L = true) (hN : L.length = N) (hS : S w.drew)
    (h : S w.drew → wpAnyH P .any L.toArray (Ahead Q) S N (Array.replicate N false) a w.drew) : (Code.region id L.toArray true).wpIn (Fence.wide.inRound l) m P Q a w := by
  subst hN
  exact round_any hm hd (wpAny_of_held _ _ _ _ (by simpa using h hS))
end

end Go.Proofs.YteeeikninigeoaaDoor
