/- The laws' own behind: the list and the replies behind operations. -/
import Derived.Test.YtnieacfleabikaaSegO
namespace Go.Proofs.Ytnieacfleabikaa
set_option linter.unusedVariables false
open Go.RowKit

theorem opL_one (o : SOp) : ∀ u ∈ opL o, u.oneCell' = true := by
  intro u hu
  simp only [opL, List.mem_cons, List.not_mem_nil, or_false] at hu
  rcases hu with rfl | rfl | rfl | rfl <;> rfl

/-- The works that came in. -/
theorem works_in {w : World} {a : Option Addr} {len cap : Nat} {zs : List Int} (h : IsFlat 4 w a len cap zs) : ∃ L : List Wk, SlF wkL 4 w a len cap L ∧ (∀ x ∈ L, x.Wf) ∧ len ≤ maxLen := by
  obtain ⟨h1, h2, h3, h4⟩ := flat_slc (by omega) h
  have key : ∀ (n : Nat) (zs : List Int), zs.length = n * 4 → (∀ n ∈ zs, (Lit.int .i64 n).wf = true) → ∃ L : List Wk, flat wkL L = ints zs ∧ ∀ x ∈ L, x.Wf := by
    intro n
    induction n with
    | zero =>
      intro zs hz _
      obtain rfl : zs = [] := List.length_eq_zero_iff.1 (by omega)
      exact ⟨[], rfl, by simp⟩
    | succ n ih =>
      intro zs hz hw
      match zs, hz, hw with
      | a :: b :: c :: d :: zs, hz, hw =>
        obtain ⟨L, hL, hwL⟩ := ih zs (by simp at hz; omega) (fun n hn => hw n (by simp [hn]))
        refine ⟨⟨a, b, c, d⟩ :: L, ?_, fun x hx => ?_⟩
        · have : flat wkL (⟨a, b, c, d⟩ :: L) = wkL ⟨a, b, c, d⟩ ++ flat wkL L := by simp [flat]
          rw [this, hL]; rfl
        · rcases List.mem_cons.1 hx with rfl | hx
          · exact ⟨hw a (by simp), hw b (by simp), hw c (by simp), hw d (by simp)⟩
          · exact hwL x hx
      | [], hz, _ => simp at hz
      | [_], hz, _ => simp at hz; omega
      | [_, _], hz, _ => simp at hz; omega
      | [_, _, _], hz, _ => simp at hz; omega
  obtain ⟨L, hL, hw⟩ := key len zs h4 h2
  exact ⟨L, by unfold SlF; rw [hL]; exact h1, hw, h3⟩

set_option maxRecDepth 100000 in
set_option maxHeartbeats 2000000 in
theorem behind_any (a oa : Option Addr) (cap oc n m : Nat) (l : List Int) (ops : List SOp) (w : World) (h : SlI w a cap l) (hl : l.length = n) (ho : SlF opL 4 w oa m oc ops) (hn0 : 0 < n) (hn : n ≤ 300) (hm : m ≤ 300) (hb : ∀ x ∈ l, x.natAbs ≤ 1048576) (hk : ∀ o ∈ ops, o.Ok n) :
    Calls Try.prog 30 #[.slice a n cap, .slice oa m oc] w fun e w' => ∃ ea ec ra rc, e = .returned (.tuple #[.slice ea n ec, .slice ra m rc, .bool true]) ∧ Kp (w'.ownsRow w.heap.size 3 1 (.slice ea n ec) n (ints (runD l ops m))) ∧ Kp (SlF repL 2 w' ra m rc (repsK l ops m)) ∧ Below w.heap.size w w' := by
  have H := Kp.mk h
  have HL := Kp.mk hl
  have HO := Kp.mk ho
  have HB := Kp.mk hb
  have HK := Kp.mk hk
  clear h hl ho hb hk
  go_enter Try.func30, Try.ntmps30
  go_wp2_with fail
  refine (copied_n _ _ _ _ _ H.out HL.out (by omega)).mono ?_
  rintro e w1 ⟨c1, d1, rfl, h1, hb1⟩
  have H1 := Kp.mk h1
  have HO1 := Kp.mk (HO.out.below hb1)
  clear h1
  go_wp2_with (at_builtin; refine wpList_cat tOps rfl _ _ rfl w1.heap.size none 0 0 [] rfl (World.ownsRow_nil _ _ _ _) _ _ _ _ rfl HO1.out (flat_one opL_one ops) ?c1 (by decide) (Nat.le_refl _) ?c2)
  case c1 => omega
  case c2 =>
    intro xa xc w2 hown hb2
    have HX := Kp.mk (show SlF opL 4 w2 xa m xc ops from own_slc hown)
    have hb02 := below_step hb1 hb2
    clear hown
    go_wp2_with fail
    refine (play_any c1 xa d1 xc n m l ops w2 (H1.out.below hb2) HL.out HX.out hn0 hn hm HB.out HK.out).mono ?_
    rintro e w3 ⟨ra, rc, ea, ec, rfl, HR, HE, hb3⟩
    go_wp2
    refine bodyPost_ret (v := .tuple #[.slice ea n ec, .slice ra m rc, .bool true]) (by simp [results, Try.results30, go_sem]) rfl ?_
    exact ⟨ea, ec, ra, rc, rfl, ⟨own_base HE.out hb02.size⟩, HR, below_step hb02 hb3⟩

/-- How great a number can have become. -/
theorem runD_bd {l : List Int} {ops : List SOp} {n : Nat} (hb : ∀ x ∈ l, x.natAbs ≤ 1048576) (hk : ∀ o ∈ ops, o.Ok n) (k : Nat) (hkl : k ≤ ops.length) : ∀ x ∈ runD l ops k, x.natAbs ≤ 1048576 * (k + 1) := by
  induction k with
  | zero => unfold runD; intro x hx; have := hb x hx; omega
  | succ k ih =>
    have ho := hk _ (List.getElem_mem (show k < ops.length by omega))
    have := upd_bd (o := ops.getD k op0) (K := 1048576) (ih (by omega)) (by rw [getD_at _ _ (by omega)]; have := ho.a1; have := ho.a2; omega) 0
    unfold runD
    intro x hx
    have := this x hx
    omega

end Go.Proofs.Ytnieacfleabikaa
