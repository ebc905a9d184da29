/- A method's call through an interface value, as a step of the walk. -/
import Derived.Test.YtlmdlholmlbcbaaMem
namespace Go.Proofs.Ytlmdlholmlbcbaa
set_option linter.unusedVariables false
open Go.RowKit

theorem run_invoke {P : Program} {o : Oper} {a : Act} {w : World} (r : Operand) (name : String) (xs : Array Operand) (ts : Array TypeId) (ho : o.op = .call { callee := .invoke r name, args := xs, argTypes := ts }) {n : Next}
    (hr : (callMethod (a.eval r) name (xs.map a.eval)).run P w = .ok n w) : (execOp a.eval o).run P w = .ok n w := by
  have e : (invoke (.fn (.method name) #[]) (#[a.eval r] ++ xs.map a.eval)).run P w = .ok n w := by
    have h0 : (#[a.eval r] ++ xs.map a.eval)[0]? = some (a.eval r) := by
      rw [Array.getElem?_append_left (by simp)]; rfl
    have h1 : (#[a.eval r] ++ xs.map a.eval).extract 1 (#[a.eval r] ++ xs.map a.eval).size = xs.map a.eval := by
      rw [Array.extract_append]; simp
    simp only [invoke, h0, h1]
    exact hr
  unfold execOp
  simp only [ho, resolve, Sem.run_bind, Sem.run_pure, Result.andThen_ok]
  exact e
theorem wpList_invoke {P : Program} {ops : Array Oper} {rest : List Oper} {o : Oper} {a : Act} {Q : Exit → Act → World → Prop} {w : World} (H : Value) (args : Array Value) (r : Operand) (name : String) (xs : Array Operand) (ts : Array TypeId)
    (ho : o.op = .call { callee := .invoke r name, args := xs, argTypes := ts }) (hw : Region.wanted o (yielded ops a.tmps) = true) (hH : a.eval r = H) (hx : xs.map a.eval = args) (f : FuncId) (vs : Array Value) (hr : (callMethod H name args).run P w = .ok (.enter f vs) w) {R : Ending → World → Prop} (hc : Calls P f vs w R)
    (hk : ∀ e w', R e w' → ∃ v, e = .returned v ∧ wpList P ops Q rest (a.put o.dst v) w') : wpList P ops Q (o :: rest) a w := by
  subst hH; subst hx
  unfold wpList
  rw [if_pos hw]
  refine .inl ?_
  unfold Oper.wp
  rw [run_invoke r name xs ts ho hr]
  refine hc.mono fun e w' h => ?_
  obtain ⟨v, rfl, h2⟩ := hk e w' h
  exact h2

end Go.Proofs.Ytlmdlholmlbcbaa
