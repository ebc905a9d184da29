/- Laws of the walk's list as steps of a region that draws. -/
import Derived.Test.YteeeikninigeoaaDoorMem
namespace Go.Proofs.YteeeikninigeoaaDoor
set_option linter.unusedVariables false
open Go.RowKit

def OnlyK (K : Act → World → Prop) : Exit → Act → World → Prop
  | .normal, a, w => K a w
  | _, _, _ => False
theorem onlyK_lets (K : Act → World → Prop) : ¬ LetsOut (OnlyK K) := fun ⟨_, _, h⟩ => h
theorem wp_onlyK {P : Program} {o : Oper} {a : Act} {w : World} {K : Act → World → Prop} {Q : Exit → Act → World → Prop} (h : o.wp P a w K (OnlyK K)) : o.wp P a w K Q := by
  unfold Oper.wp at h ⊢
  generalize (execOp a.eval o).run P w = r at h ⊢
  cases r with
  | ok n w' =>
    cases n with
    | value v => exact h
    | skip => exact h
    | defer d => exact h
    | enter f args =>
      refine Calls.mono h fun e w'' he => ?_
      cases e with
      | returned v => exact he
      | panicked c => exact he.elim
      | outgrown => exact (onlyK_lets _ he).elim
    | row row args => exact h
    | _ => exact h.elim
  | halt x w' => cases x <;> exact h.elim
/-- A law of the list, for one operation, as a step. -/
theorem step_of_list {P : Program} {ops : Array Oper} {o : Oper} {a : Act} {K : Act → World → Prop} {Q : Exit → Act → World → Prop} {E : Prop} {W : World} (hgd : o.guard = none) (h : wpList P ops (OnlyK K) [o] a W) :
    if Region.wanted o (yielded ops a.tmps) = true then Oper.wp P o a W K Q else E := by
  have hw : Region.wanted o (yielded ops a.tmps) = true := by simp [Region.wanted, hgd]
  rw [if_pos hw]
  unfold wpList at h
  rw [if_pos hw] at h
  rcases h with h | ⟨_, h⟩
  · exact wp_onlyK h
  · exact absurd h (onlyK_lets K)
theorem step_cat {P : Program} {t e : TypeId} {size bytes : Nat} {z : Value} (T : ElemTy P t e size bytes z)
    {ops : Array Oper} {o : Oper} {a : Act} {K : Act → World → Prop} {Q : Exit → Act → World → Prop} {E : Prop} {w : World} (hgd : o.guard = none) (s x : Operand)
    (ho : o.op = .call { callee := .builtin .append, args := #[s, x], argTypes := #[t, t] })
    (B : Nat) (sa : Option Addr) (n cap : Nat) (xs : List Value) (hs : a.eval s = .slice sa n cap) (hown : w.ownsRow B e size (.slice sa n cap) n xs)
    (xa : Option Addr) (m c : Nat) (cs : List Value) (hx : a.eval x = .slice xa m c) (hsl : SlC w xa m c size cs) (h1 : ∀ u ∈ cs, u.oneCell' = true)
    (hbytes : (n + m) * bytes ≤ 140737488355328) (hbp : 0 < bytes) (hB : B ≤ w.heap.size)
    (h : ∀ sa' cap' w', w'.ownsRow B e size (.slice sa' (n + m) cap') (n + m) (xs ++ cs) → w.grownBy w' (blk sa) → NewOr w sa sa' → K (a.put o.dst (.slice sa' (n + m) cap')) w') :
    if Region.wanted o (yielded ops a.tmps) = true then Oper.wp P o a w K Q else E :=
  step_of_list hgd (wpList_catS T hgd s x ho B sa n cap xs hs hown xa m c cs hx hsl h1 hbytes hbp hB h)

/-- 'append(nil, x...)' as a step. -/
theorem step_cat0 {P : Program} {t e : TypeId} {size bytes : Nat} {z : Value} (T : ElemTy P t e size bytes z)
    {ops : Array Oper} {o : Oper} {a : Act} {K : Act → World → Prop} {Q : Exit → Act → World → Prop} {E : Prop} {w : World} (hgd : o.guard = none) (s x : Operand)
    (ho : o.op = .call { callee := .builtin .append, args := #[s, x], argTypes := #[t, t] })
    (B : Nat) (hs : a.eval s = .slice none 0 0)
    (xa : Option Addr) (m c : Nat) (cs : List Value) (hx : a.eval x = .slice xa m c) (hsl : SlC w xa m c size cs) (h1 : ∀ u ∈ cs, u.oneCell' = true)
    (hbytes : m * bytes ≤ 140737488355328) (hbp : 0 < bytes) (hB : B ≤ w.heap.size)
    (h : ∀ sa' cap' w', w'.ownsRow B e size (.slice sa' m cap') m cs → w.grownBy w' none → K (a.put o.dst (.slice sa' m cap')) w') :
    if Region.wanted o (yielded ops a.tmps) = true then Oper.wp P o a w K Q else E :=
  step_of_list hgd (wpList_catS T hgd s x ho B none 0 0 [] hs (World.ownsRow_nil _ _ _ _) xa m c cs hx hsl h1 (by rw [Nat.zero_add]; exact hbytes) hbp hB (by
    intro sa' cap' w' h1 h2 _
    rw [Nat.zero_add] at h1 ⊢
    exact h sa' cap' w' h1 h2))

end Go.Proofs.YteeeikninigeoaaDoor
