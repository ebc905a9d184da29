import Derived.Test.YtladgklnacihkaaGreatMg0
import Derived.Test.YtladgklnacihkaaGreatMg2
/- A method's call through an interface value, as a step of the walk. -/
namespace Go.Proofs.YtladgklnacihkaaGreat
set_option linter.unusedVariables false
open Go.RowKit

theorem run_invoke {P : Program} {o : Oper} {a : Act} {w : World} (r : Operand) (name : String) (xs : Array Operand) (ts : Array TypeId) (ho : o.op = .call { callee := .invoke r name, args := xs, argTypes := ts }) {n : Next}
    (hr : (callMethod (a.eval r) name (xs.map a.eval)).run P w = .ok n w) : (execOp a.eval o).run P w = .ok n w := by
  have e : (invoke (.fn (.method name) #[]) (#[a.eval r] ++ xs.map a.eval)).run P w = .ok n w := by
    have h0 : (#[a.eval r] ++ xs.map a.eval)[0]? = some (a.eval r) := by
      rw [Array.getElem?_append_left (by simp)]; rfl
    have h1 : (#[a.eval r] ++ xs.map a.eval).extract 1 (#[a.eval r] ++ xs.map a.eval).size = xs.map a.eval := by
      rw [Array.extract_append]; simp
    simp only [invoke, h0, h1]
    exact hr
  unfold execOp
  simp only [ho, resolve, Sem.run_bind, Sem.run_pure, Result.andThen_ok]
  exact e
theorem wpList_invoke {P : Program} {ops : Array Oper} {rest : List Oper} {o : Oper} {a : Act} {Q : Exit → Act → World → Prop} {w : World} (H : Value) (args : Array Value) (r : Operand) (name : String) (xs : Array Operand) (ts : Array TypeId)
    (ho : o.op = .call { callee := .invoke r name, args := xs, argTypes := ts }) (hw : Region.wanted o (yielded ops a.tmps) = true) (hH : a.eval r = H) (hx : xs.map a.eval = args) (f : FuncId) (vs : Array Value) (hr : (callMethod H name args).run P w = .ok (.enter f vs) w) {R : Ending → World → Prop} (hc : Calls P f vs w R)
    (hk : ∀ e w', R e w' → ∃ v, e = .returned v ∧ wpList P ops Q rest (a.put o.dst v) w') : wpList P ops Q (o :: rest) a w := by
  subst hH; subst hx
  unfold wpList
  rw [if_pos hw]
  refine .inl ?_
  unfold Oper.wp
  rw [run_invoke r name xs ts ho hr]
  refine hc.mono fun e w' h => ?_
  obtain ⟨v, rfl, h2⟩ := hk e w' h
  exact h2

end Go.Proofs.YtladgklnacihkaaGreat

/- Package container/heap: the walks of up and down, over whatever tells and swaps. -/
namespace Go.Proofs.YtladgklnacihkaaGreat
set_option linter.unusedVariables false
open Go.RowKit
open Hp (Ord swp par HeapF UpInv DownInv)

/-- What the methods of an interface value do, by a predicate of the world. -/
structure HpOps (H : Value) (lt : Nat → Nat → Bool) (I : List Nat → World → Prop) : Prop where
  less : ∀ (X : List Nat) (W : World) (i j : Nat), I X W → i < X.length → j < X.length → ∃ f vs, (callMethod H "Less" #[.int .i64 (i : Int), .int .i64 (j : Int)]).run Tryz.prog W = .ok (.enter f vs) W ∧ Calls Tryz.prog f vs W fun e w' => e = .returned (.bool (lt (X.getD i 0) (X.getD j 0))) ∧ Kp (I X w')
  swap : ∀ (X : List Nat) (W : World) (i j : Nat), I X W → i < X.length → j < X.length → ∃ f vs, (callMethod H "Swap" #[.int .i64 (i : Int), .int .i64 (j : Int)]).run Tryz.prog W = .ok (.enter f vs) W ∧ Calls Tryz.prog f vs W fun e w' => e = .returned (.tuple #[]) ∧ Kp (I (swp X i j) w')
  len : ∀ (X : List Nat) (W : World), I X W → ∃ f vs, (callMethod H "Len" #[]).run Tryz.prog W = .ok (.enter f vs) W ∧ Calls Tryz.prog f vs W fun e w' => e = .returned (.int .i64 (X.length : Int)) ∧ Kp (I X w')

attribute [local irreducible] UpInv DownInv HeapF swp
set_option maxRecDepth 100000 in
set_option maxHeartbeats 4000000 in
theorem hup_any (H : Value) (lt : Nat → Nat → Bool) (I : List Nat → World → Prop) (O : Ord lt) (hO : HpOps H lt I) (X : List Nat) (n j : Nat) (w : World) (hI : I X w) (hX : X.length = n) (hn : n ≤ 1000) (hu : UpInv lt X n j) (hj : j < n) :
    Calls Tryz.prog 132 #[H, .int .i64 (j : Int)] w fun e w' => e = .returned (.tuple #[]) ∧ ∃ X', Kp (X'.Perm X ∧ HeapF lt X' n 0) ∧ Kp (I X' w') := by
  have HI := Kp.mk hI
  have HU := Kp.mk hu
  have HO := Kp.mk hO
  have HX := Kp.mk hX
  clear hI hu hO hX
  go_enter Tryz.func132, Tryz.ntmps132
  go_wp2
  go_loopw [1] (fun v wr => ∃ (q : Nat) (Y : List Nat), q < n ∧ v = .int .i64 q ∧ Kp (Y.Perm X) ∧ Kp (UpInv lt Y n q) ∧ Kp (I Y wr)) (fun v _ => (intOf v).toNat)
  case atStart => exact ⟨j, X, hj, rfl, ⟨List.Perm.refl _⟩, HU, HI⟩
  case round =>
    clear HI HU
    obtain ⟨q, Y, hq, rfl, HP, HU, HI⟩ := hrel
    have HYL := Kp.mk (show Y.length = n by rw [HP.out.length_eq]; exact HX.out)
    by_cases h0 : q = 0
    · subst h0
      have HE := Kp.mk (Hp.up_end HU.out (.inl rfl))
      go_wp2
      go_end0
      exact ⟨rfl, Y, ⟨HP.out, HE.out⟩, HI⟩
    · obtain ⟨p, hp⟩ : ∃ p, par q = p := ⟨_, rfl⟩
      have hpq : p < q := by unfold par at hp; omega
      have e1 : IntKind.i64.wrap ((q : Int) - 1) = (q : Int) - 1 := IntWalk.i64_in _ (by omega)
      have e2 : IntKind.i64.wrap (((q : Int) - 1).tdiv 2) = (p : Int) := by
        rw [show (q : Int) - 1 = ((q - 1 : Nat) : Int) by omega, show ((q - 1 : Nat) : Int).tdiv 2 = (((q - 1) / 2 : Nat) : Int) from (Int.ofNat_tdiv _ _).symm]
        rw [show (q - 1) / 2 = p from hp]
        exact IntWalk.i64_in _ (by omega)
      have t1 : ((p : Int) == (q : Int)) = false := by rw [beq_eq_false_iff_ne]; omega
      obtain ⟨f, vs, hr, hc⟩ := HO.out.less Y wr q p HI.out (by rw [HYL.out]; exact hq) (by rw [HYL.out]; omega)
      obtain ⟨b, hb⟩ : ∃ b, lt (Y.getD q 0) (Y.getD p 0) = b := ⟨_, rfl⟩
      rw [hb] at hc
      have HC := Kp.mk hc
      have HR := Kp.mk hr
      have HPP := Kp.mk hp
      have HBV := Kp.mk hb
      clear hc hr hp hb
      cases b with
      | false =>
        have HE := Kp.mk (Hp.up_end HU.out (.inr (by rw [HPP.out]; exact HBV.out)))
        go_wp2_with (refine wpList_invoke H #[.int .i64 (q : Int), .int .i64 (p : Int)] _ _ _ _ rfl ?a11 (by rfl) ?a12 f vs HR.out HC.out ?a13)
        case a12 => first | rfl | go_simp
        case a13 =>
          rintro e w' rfl HI2
          refine ⟨_, rfl, ?_⟩
          go_wp2
          go_end0
          exact ⟨rfl, Y, ⟨HP.out, HE.out⟩, HI2⟩
      | true =>
        have HUS := Kp.mk (Hp.up_step O HYL.out HU.out (by omega) hq HPP.out HBV.out)
        go_wp2_with (refine wpList_invoke H #[.int .i64 (q : Int), .int .i64 (p : Int)] _ _ _ _ rfl ?a21 (by rfl) ?a22 f vs HR.out HC.out ?a23)
        case a22 => first | rfl | go_simp
        case a23 =>
          rintro e w2 rfl HI2
          refine ⟨_, rfl, ?_⟩
          obtain ⟨f2, vs2, hr2, hc2⟩ := HO.out.swap Y w2 p q HI2.out (by rw [HYL.out]; omega) (by rw [HYL.out]; exact hq)
          have HC2 := Kp.mk hc2
          have HR2 := Kp.mk hr2
          have HPS := Kp.mk ((Hp.swp_perm Y p q (by rw [HYL.out]; omega) (by rw [HYL.out]; exact hq)).trans HP.out)
          clear hc2 hr2 HC HR
          go_wp2_with (refine wpList_invoke H #[.int .i64 (p : Int), .int .i64 (q : Int)] _ _ _ _ rfl ?a31 (by rfl) ?a32 f2 vs2 HR2.out HC2.out ?a33)
          case a32 => first | rfl | go_simp
          case a33 =>
            rintro e w3 rfl HI3
            refine ⟨_, rfl, ?_⟩
            go_wp2
            go_roundw
            case rel => exact ⟨p, swp Y p q, by omega, rfl, HPS, HUS, HI3⟩
            case measure => simp [intOf]; omega

set_option maxRecDepth 100000 in
set_option maxHeartbeats 8000000 in
theorem hdown_any (H : Value) (lt : Nat → Nat → Bool) (I : List Nat → World → Prop) (O : Ord lt) (hO : HpOps H lt I) (X : List Nat) (n lo : Nat) (w : World) (hI : I X w) (hX : n ≤ X.length) (hn : n ≤ 1000) (hu : DownInv lt X n lo lo) (hlo : lo ≤ n) :
    Calls Tryz.prog 38 #[H, .int .i64 (lo : Int), .int .i64 (n : Int)] w fun e w' => (∃ r, e = .returned (.bool r)) ∧ ∃ X', Kp (X'.Perm X ∧ HeapF lt X' n lo ∧ ∀ k, n ≤ k → X'.getD k 0 = X.getD k 0) ∧ Kp (I X' w') := by
  have HI := Kp.mk hI
  have HU := Kp.mk hu
  have HO := Kp.mk hO
  have HX := Kp.mk hX
  clear hI hu hO hX
  go_enter Tryz.func38, Tryz.ntmps38
  go_wp2
  go_loopw [7] (fun v wr => ∃ (i : Nat) (Y : List Nat), i ≤ n ∧ lo ≤ i ∧ v = .int .i64 i ∧ Kp (Y.Perm X ∧ ∀ k, n ≤ k → Y.getD k 0 = X.getD k 0) ∧ Kp (DownInv lt Y n lo i) ∧ Kp (I Y wr)) (fun v _ => n - (intOf v).toNat)
  case atStart => exact ⟨lo, X, hlo, Nat.le_refl _, rfl, ⟨List.Perm.refl _, fun k _ => rfl⟩, HU, HI⟩
  case round =>
    clear HI HU
    obtain ⟨i, Y, hi, hli, rfl, HP, HU, HI⟩ := hrel
    have HYL := Kp.mk (show n ≤ Y.length by rw [HP.out.1.length_eq]; exact HX.out)
    have e1 : IntKind.i64.wrap (2 * (i : Int)) = 2 * (i : Int) := IntWalk.i64_in _ (by omega)
    have e2 : IntKind.i64.wrap (2 * (i : Int) + 1) = 2 * (i : Int) + 1 := IntWalk.i64_in _ (by omega)
    have e3 : IntKind.i64.wrap (2 * (i : Int) + 1 + 1) = 2 * (i : Int) + 2 := by rw [show 2 * (i : Int) + 1 + 1 = 2 * (i : Int) + 2 by omega]; exact IntWalk.i64_in _ (by omega)
    by_cases h1 : n ≤ 2 * i + 1
    · have t1 : decide (2 * (i : Int) + 1 ≥ n) = true := decide_eq_true (by omega)
      have HE := Kp.mk (Hp.down_end HU.out (fun k k0 kn kp => by unfold par at kp; omega))
      go_wp2
      go_ret
      exact ⟨⟨_, rfl⟩, Y, ⟨HP.out.1, HE.out, HP.out.2⟩, HI⟩
    · have t1 : decide (2 * (i : Int) + 1 ≥ n) = false := decide_eq_false (by omega)
      have t2 : decide (2 * (i : Int) + 1 < 0) = false := decide_eq_false (by omega)
      have irr : ∀ a, lt a a = false := fun a => by
        cases h : lt a a with
        | false => rfl
        | true => have := O.asym _ _ h; rw [h] at this; exact this
      by_cases h2 : n ≤ 2 * i + 2
      · have t3 : decide (2 * (i : Int) + 2 < n) = false := decide_eq_false (by omega)
        have HMIN := Kp.mk (show ∀ k, 0 < k → k < n → par k = i → lt (Y.getD k 0) (Y.getD (2 * i + 1) 0) = false from fun k k0 kn kp => by
          have : k = 2 * i + 1 := by unfold par at kp; omega
          subst this; exact irr _)
        clear irr
        obtain ⟨fA, vsA, hrA, hcA⟩ := HO.out.less Y wr (2 * i + 1) i HI.out (by have := HYL.out; omega) (by have := HYL.out; omega)
        obtain ⟨bA, hbA⟩ : ∃ b, lt (Y.getD (2 * i + 1) 0) (Y.getD i 0) = b := ⟨_, rfl⟩
        rw [hbA] at hcA
        have HCA := Kp.mk (show Calls Tryz.prog fA vsA wr (fun e w' => e = .returned (.bool bA) ∧ Kp (I Y w')) from hcA)
        have HRA := Kp.mk (show (callMethod H "Less" #[.int .i64 (2 * (i : Int) + 1), .int .i64 (i : Int)]).run Tryz.prog wr = .ok (.enter fA vsA) wr from by rw [show (2 * (i : Int) + 1) = ((2 * i + 1 : Nat) : Int) by omega]; exact hrA)
        have HBVA := Kp.mk hbA
        clear hcA hrA hbA
        cases bA with
        | false =>
          have HE := Kp.mk (Hp.down_end HU.out (fun k k0 kn kp => O.tr _ _ _ (HMIN.out k k0 kn kp) HBVA.out))
          go_wp2_with (refine wpList_invoke H #[.int .i64 (2 * (i : Int) + 1), .int .i64 (i : Int)] _ _ _ _ rfl ?xA1 (by rfl) ?xA2 fA vsA HRA.out HCA.out ?xA3)
          case xA2 => first | rfl | go_simp
          case xA3 =>
            rintro e w5 rfl HI5
            refine ⟨_, rfl, ?_⟩
            go_wp2
            go_ret
            exact ⟨⟨_, rfl⟩, Y, ⟨HP.out.1, HE.out, HP.out.2⟩, HI5⟩
        | true =>
          have HUS := Kp.mk (Hp.down_step O HYL.out HU.out (by omega) (by omega) (by unfold par; omega) HBVA.out HMIN.out)
          have HPS := Kp.mk (show (swp Y i (2 * i + 1)).Perm X ∧ ∀ k, n ≤ k → (swp Y i (2 * i + 1)).getD k 0 = X.getD k 0 from
            ⟨(Hp.swp_perm Y i (2 * i + 1) (by have := HYL.out; omega) (by have := HYL.out; omega)).trans HP.out.1, fun k hk => by
              rw [Hp.swp_get Y i (2 * i + 1) k (by have := HYL.out; omega) (by have := HYL.out; omega), if_neg (by omega), if_neg (by omega)]; exact HP.out.2 k hk⟩)
          go_wp2_with (refine wpList_invoke H #[.int .i64 (2 * (i : Int) + 1), .int .i64 (i : Int)] _ _ _ _ rfl ?yA1 (by rfl) ?yA2 fA vsA HRA.out HCA.out ?yA3)
          case yA2 => first | rfl | go_simp
          case yA3 =>
            rintro e w5 rfl HI5
            refine ⟨_, rfl, ?_⟩
            obtain ⟨gA, usA, hsA, hdA⟩ := HO.out.swap Y w5 i (2 * i + 1) HI5.out (by have := HYL.out; omega) (by have := HYL.out; omega)
            have HDA := Kp.mk hdA
            have HSA := Kp.mk (show (callMethod H "Swap" #[.int .i64 (i : Int), .int .i64 (2 * (i : Int) + 1)]).run Tryz.prog w5 = .ok (.enter gA usA) w5 from by rw [show (2 * (i : Int) + 1) = ((2 * i + 1 : Nat) : Int) by omega]; exact hsA)
            clear hdA hsA HCA HRA
            go_wp2_with (refine wpList_invoke H #[.int .i64 (i : Int), .int .i64 (2 * (i : Int) + 1)] _ _ _ _ rfl ?zA1 (by rfl) ?zA2 gA usA HSA.out HDA.out ?zA3)
            case zA2 => first | rfl | go_simp
            case zA3 =>
              rintro e w6 rfl HI6
              refine ⟨_, rfl, ?_⟩
              go_wp2
              go_roundw
              case rel => exact ⟨2 * i + 1, swp Y i (2 * i + 1), by omega, by omega, by first | rfl | (congr 1; omega), HPS, HUS, HI6⟩
              case measure => simp [intOf]; omega
      · have t3 : decide (2 * (i : Int) + 2 < n) = true := decide_eq_true (by omega)
        obtain ⟨f0, vs0, hr0, hc0⟩ := HO.out.less Y wr (2 * i + 2) (2 * i + 1) HI.out (by have := HYL.out; omega) (by have := HYL.out; omega)
        obtain ⟨b0, hb0⟩ : ∃ b, lt (Y.getD (2 * i + 2) 0) (Y.getD (2 * i + 1) 0) = b := ⟨_, rfl⟩
        rw [hb0] at hc0
        have HC0 := Kp.mk (show Calls Tryz.prog f0 vs0 wr (fun e w' => e = .returned (.bool b0) ∧ Kp (I Y w')) from hc0)
        have HR0 := Kp.mk (show (callMethod H "Less" #[.int .i64 (2 * (i : Int) + 2), .int .i64 (2 * (i : Int) + 1)]).run Tryz.prog wr = .ok (.enter f0 vs0) wr from by
          rw [show 2 * (i : Int) + 2 = ((2 * i + 2 : Nat) : Int) by omega, show 2 * (i : Int) + 1 = ((2 * i + 1 : Nat) : Int) by omega]; exact hr0)
        clear hc0 hr0
        cases b0 with
        | false =>
          have HMIN := Kp.mk (show ∀ k, 0 < k → k < n → par k = i → lt (Y.getD k 0) (Y.getD (2 * i + 1) 0) = false from fun k k0 kn kp => by
            rcases (show k = 2 * i + 1 ∨ k = 2 * i + 2 by unfold par at kp; omega) with e | e
            · subst e; exact irr _
            · subst e; exact hb0)
          clear irr hb0
          go_wp2_with (refine wpList_invoke H #[.int .i64 (2 * (i : Int) + 2), .int .i64 (2 * (i : Int) + 1)] _ _ _ _ rfl ?u1 (by rfl) ?u2 f0 vs0 HR0.out HC0.out ?u3)
          case u2 => first | rfl | go_simp
          case u3 =>
            rintro e w4 rfl HI4
            refine ⟨_, rfl, ?_⟩
            obtain ⟨fB, vsB, hrB, hcB⟩ := HO.out.less Y w4 (2 * i + 1) i HI4.out (by have := HYL.out; omega) (by have := HYL.out; omega)
            obtain ⟨bB, hbB⟩ : ∃ b, lt (Y.getD (2 * i + 1) 0) (Y.getD i 0) = b := ⟨_, rfl⟩
            rw [hbB] at hcB
            have HCB := Kp.mk (show Calls Tryz.prog fB vsB w4 (fun e w' => e = .returned (.bool bB) ∧ Kp (I Y w')) from hcB)
            have HRB := Kp.mk (show (callMethod H "Less" #[.int .i64 (2 * (i : Int) + 1), .int .i64 (i : Int)]).run Tryz.prog w4 = .ok (.enter fB vsB) w4 from by rw [show (2 * (i : Int) + 1) = ((2 * i + 1 : Nat) : Int) by omega]; exact hrB)
            have HBVB := Kp.mk hbB
            clear hcB hrB hbB
            cases bB with
            | false =>
              have HE := Kp.mk (Hp.down_end HU.out (fun k k0 kn kp => O.tr _ _ _ (HMIN.out k k0 kn kp) HBVB.out))
              go_wp2_with (refine wpList_invoke H #[.int .i64 (2 * (i : Int) + 1), .int .i64 (i : Int)] _ _ _ _ rfl ?xB1 (by rfl) ?xB2 fB vsB HRB.out HCB.out ?xB3)
              case xB2 => first | rfl | go_simp
              case xB3 =>
                rintro e w5 rfl HI5
                refine ⟨_, rfl, ?_⟩
                go_wp2
                go_ret
                exact ⟨⟨_, rfl⟩, Y, ⟨HP.out.1, HE.out, HP.out.2⟩, HI5⟩
            | true =>
              have HUS := Kp.mk (Hp.down_step O HYL.out HU.out (by omega) (by omega) (by unfold par; omega) HBVB.out HMIN.out)
              have HPS := Kp.mk (show (swp Y i (2 * i + 1)).Perm X ∧ ∀ k, n ≤ k → (swp Y i (2 * i + 1)).getD k 0 = X.getD k 0 from
                ⟨(Hp.swp_perm Y i (2 * i + 1) (by have := HYL.out; omega) (by have := HYL.out; omega)).trans HP.out.1, fun k hk => by
                  rw [Hp.swp_get Y i (2 * i + 1) k (by have := HYL.out; omega) (by have := HYL.out; omega), if_neg (by omega), if_neg (by omega)]; exact HP.out.2 k hk⟩)
              go_wp2_with (refine wpList_invoke H #[.int .i64 (2 * (i : Int) + 1), .int .i64 (i : Int)] _ _ _ _ rfl ?yB1 (by rfl) ?yB2 fB vsB HRB.out HCB.out ?yB3)
              case yB2 => first | rfl | go_simp
              case yB3 =>
                rintro e w5 rfl HI5
                refine ⟨_, rfl, ?_⟩
                obtain ⟨gB, usB, hsB, hdB⟩ := HO.out.swap Y w5 i (2 * i + 1) HI5.out (by have := HYL.out; omega) (by have := HYL.out; omega)
                have HDB := Kp.mk hdB
                have HSB := Kp.mk (show (callMethod H "Swap" #[.int .i64 (i : Int), .int .i64 (2 * (i : Int) + 1)]).run Tryz.prog w5 = .ok (.enter gB usB) w5 from by rw [show (2 * (i : Int) + 1) = ((2 * i + 1 : Nat) : Int) by omega]; exact hsB)
                clear hdB hsB HCB HRB
                go_wp2_with (refine wpList_invoke H #[.int .i64 (i : Int), .int .i64 (2 * (i : Int) + 1)] _ _ _ _ rfl ?zB1 (by rfl) ?zB2 gB usB HSB.out HDB.out ?zB3)
                case zB2 => first | rfl | go_simp
                case zB3 =>
                  rintro e w6 rfl HI6
                  refine ⟨_, rfl, ?_⟩
                  go_wp2
                  go_roundw
                  case rel => exact ⟨2 * i + 1, swp Y i (2 * i + 1), by omega, by omega, by first | rfl | (congr 1; omega), HPS, HUS, HI6⟩
                  case measure => simp [intOf]; omega
        | true =>
          have HMIN := Kp.mk (show ∀ k, 0 < k → k < n → par k = i → lt (Y.getD k 0) (Y.getD (2 * i + 2) 0) = false from fun k k0 kn kp => by
            rcases (show k = 2 * i + 1 ∨ k = 2 * i + 2 by unfold par at kp; omega) with e | e
            · subst e; exact O.asym _ _ hb0
            · subst e; exact irr _)
          clear irr hb0
          go_wp2_with (refine wpList_invoke H #[.int .i64 (2 * (i : Int) + 2), .int .i64 (2 * (i : Int) + 1)] _ _ _ _ rfl ?v1 (by rfl) ?v2 f0 vs0 HR0.out HC0.out ?v3)
          case v2 => first | rfl | go_simp
          case v3 =>
            rintro e w4 rfl HI4
            refine ⟨_, rfl, ?_⟩
            obtain ⟨fC, vsC, hrC, hcC⟩ := HO.out.less Y w4 (2 * i + 2) i HI4.out (by have := HYL.out; omega) (by have := HYL.out; omega)
            obtain ⟨bC, hbC⟩ : ∃ b, lt (Y.getD (2 * i + 2) 0) (Y.getD i 0) = b := ⟨_, rfl⟩
            rw [hbC] at hcC
            have HCC := Kp.mk (show Calls Tryz.prog fC vsC w4 (fun e w' => e = .returned (.bool bC) ∧ Kp (I Y w')) from hcC)
            have HRC := Kp.mk (show (callMethod H "Less" #[.int .i64 (2 * (i : Int) + 2), .int .i64 (i : Int)]).run Tryz.prog w4 = .ok (.enter fC vsC) w4 from by rw [show (2 * (i : Int) + 2) = ((2 * i + 2 : Nat) : Int) by omega]; exact hrC)
            have HBVC := Kp.mk hbC
            clear hcC hrC hbC
            cases bC with
            | false =>
              have HE := Kp.mk (Hp.down_end HU.out (fun k k0 kn kp => O.tr _ _ _ (HMIN.out k k0 kn kp) HBVC.out))
              go_wp2_with (refine wpList_invoke H #[.int .i64 (2 * (i : Int) + 2), .int .i64 (i : Int)] _ _ _ _ rfl ?xC1 (by rfl) ?xC2 fC vsC HRC.out HCC.out ?xC3)
              case xC2 => first | rfl | go_simp
              case xC3 =>
                rintro e w5 rfl HI5
                refine ⟨_, rfl, ?_⟩
                go_wp2
                go_ret
                exact ⟨⟨_, rfl⟩, Y, ⟨HP.out.1, HE.out, HP.out.2⟩, HI5⟩
            | true =>
              have HUS := Kp.mk (Hp.down_step O HYL.out HU.out (by omega) (by omega) (by unfold par; omega) HBVC.out HMIN.out)
              have HPS := Kp.mk (show (swp Y i (2 * i + 2)).Perm X ∧ ∀ k, n ≤ k → (swp Y i (2 * i + 2)).getD k 0 = X.getD k 0 from
                ⟨(Hp.swp_perm Y i (2 * i + 2) (by have := HYL.out; omega) (by have := HYL.out; omega)).trans HP.out.1, fun k hk => by
                  rw [Hp.swp_get Y i (2 * i + 2) k (by have := HYL.out; omega) (by have := HYL.out; omega), if_neg (by omega), if_neg (by omega)]; exact HP.out.2 k hk⟩)
              go_wp2_with (refine wpList_invoke H #[.int .i64 (2 * (i : Int) + 2), .int .i64 (i : Int)] _ _ _ _ rfl ?yC1 (by rfl) ?yC2 fC vsC HRC.out HCC.out ?yC3)
              case yC2 => first | rfl | go_simp
              case yC3 =>
                rintro e w5 rfl HI5
                refine ⟨_, rfl, ?_⟩
                obtain ⟨gC, usC, hsC, hdC⟩ := HO.out.swap Y w5 i (2 * i + 2) HI5.out (by have := HYL.out; omega) (by have := HYL.out; omega)
                have HDC := Kp.mk hdC
                have HSC := Kp.mk (show (callMethod H "Swap" #[.int .i64 (i : Int), .int .i64 (2 * (i : Int) + 2)]).run Tryz.prog w5 = .ok (.enter gC usC) w5 from by rw [show (2 * (i : Int) + 2) = ((2 * i + 2 : Nat) : Int) by omega]; exact hsC)
                clear hdC hsC HCC HRC
                go_wp2_with (refine wpList_invoke H #[.int .i64 (i : Int), .int .i64 (2 * (i : Int) + 2)] _ _ _ _ rfl ?zC1 (by rfl) ?zC2 gC usC HSC.out HDC.out ?zC3)
                case zC2 => first | rfl | go_simp
                case zC3 =>
                  rintro e w6 rfl HI6
                  refine ⟨_, rfl, ?_⟩
                  go_wp2
                  go_roundw
                  case rel => exact ⟨2 * i + 2, swp Y i (2 * i + 2), by omega, by omega, by first | rfl | (congr 1; omega), HPS, HUS, HI6⟩
                  case measure => simp [intOf]; omega

end Go.Proofs.YtladgklnacihkaaGreat

/- Package container/heap: the walks of Push, Pop and Init, over whatever tells and swaps. -/
namespace Go.Proofs.YtladgklnacihkaaGreat
set_option linter.unusedVariables false
open Go.RowKit
open Hp (Ord swp par HeapF UpInv DownInv)

/-- What Push and Pop of an interface value do. -/
structure HpEnds (H : Value) (enc : Nat → Value) (ok : Nat → Prop) (I : List Nat → World → Prop) : Prop where
  push : ∀ (X : List Nat) (W : World) (x : Nat), I X W → ok x → X.length ≤ 200 → ∃ f vs, (callMethod H "Push" #[enc x]).run Tryz.prog W = .ok (.enter f vs) W ∧ Calls Tryz.prog f vs W fun e w' => e = .returned (.tuple #[]) ∧ Kp (I (X ++ [x]) w')
  pop : ∀ (X : List Nat) (W : World) (x : Nat), I (X ++ [x]) W → ∃ f vs, (callMethod H "Pop" #[]).run Tryz.prog W = .ok (.enter f vs) W ∧ Calls Tryz.prog f vs W fun e w' => e = .returned (enc x) ∧ Kp (I X w')

theorem last_split (X : List Nat) (m : Nat) (h : X.length = m + 1) : X.take m ++ [X.getD m 0] = X := by
  rw [getD_at X 0 (by omega)]
  have := List.take_succ_eq_append_getElem (l := X) (i := m) (by omega)
  rw [← this, List.take_of_length_le (by omega)]
theorem heap_take {lt : Nat → Nat → Bool} {X : List Nat} {m : Nat} (h : HeapF lt X m 0) : HeapF lt (X.take m) m 0 := by
  intro k h0 hk hl
  have g : ∀ j, j < m → (X.take m).getD j 0 = X.getD j 0 := fun j hj => by
    simp only [List.getD, List.getElem?_take_of_lt hj]
  rw [g k hk, g (par k) (by unfold par; omega)]
  exact h k h0 hk hl

attribute [local irreducible] UpInv DownInv HeapF swp
set_option maxRecDepth 100000 in
set_option maxHeartbeats 4000000 in
theorem hpush_any (H : Value) (lt : Nat → Nat → Bool) (enc : Nat → Value) (ok : Nat → Prop) (I : List Nat → World → Prop) (O : Ord lt) (hO : HpOps H lt I) (hE : HpEnds H enc ok I) (X : List Nat) (n x : Nat) (w : World) (hI : I X w) (hx : ok x) (hX : X.length = n) (hn : n ≤ 200) (hh : HeapF lt X n 0) :
    Calls Tryz.prog 109 #[H, enc x] w fun e w' => e = .returned (.tuple #[]) ∧ ∃ X', Kp (X'.Perm (X ++ [x]) ∧ HeapF lt X' (n + 1) 0) ∧ Kp (I X' w') := by
  obtain ⟨f, vs, hr, hc⟩ := hE.push X w x hI hx (by omega)
  have HO := Kp.mk hO
  have HXL := Kp.mk (show (X ++ [x]).length = n + 1 by simp [hX])
  have HU := Kp.mk (Hp.push_up (x := x) hX hh)
  have HR := Kp.mk hr
  have HC := Kp.mk hc
  clear hO hE hX hh hr hc hI hx
  obtain ⟨v, hv⟩ : ∃ v, enc x = v := ⟨_, rfl⟩
  rw [hv] at HR ⊢
  clear hv
  obtain ⟨Y, hY⟩ : ∃ Y, X ++ [x] = Y := ⟨_, rfl⟩
  rw [hY] at HXL HU HC ⊢
  clear hY
  go_enter Tryz.func109, Tryz.ntmps109
  go_wp2_with (refine wpList_invoke H #[v] _ _ _ _ rfl ?a11 (by rfl) ?a12 f vs HR.out HC.out ?a13)
  case a12 => first | rfl | go_simp
  case a13 =>
    rintro e w1 rfl HI1
    refine ⟨_, rfl, ?_⟩
    obtain ⟨f2, vs2, hr2, hc2⟩ := HO.out.len Y w1 HI1.out
    rw [HXL.out] at hc2
    have HR2 := Kp.mk hr2
    have HC2 := Kp.mk hc2
    clear hr2 hc2 HR HC
    have e1 : IntKind.i64.wrap ((n : Int) + 1 - 1) = (n : Int) := by rw [show (n : Int) + 1 - 1 = n by omega]; exact IntWalk.i64_in _ (by omega)
    go_wp2_with (refine wpList_invoke H #[] _ _ _ _ rfl ?a21 (by rfl) ?a22 f2 vs2 HR2.out HC2.out ?a23)
    case a22 => first | rfl | go_simp
    case a23 =>
      rintro e w2 rfl HI2
      refine ⟨_, rfl, ?_⟩
      have CU := Kp.mk (hup_any H lt I O HO.out Y (n + 1) n w2 HI2.out HXL.out (by omega) HU.out (by omega))
      go_wp2_with fail
      refine CU.out.mono ?_
      rintro e w3 ⟨rfl, X', HP, HI3⟩
      go_wp2
      go_end0
      exact ⟨rfl, X', HP, HI3⟩

set_option maxRecDepth 100000 in
set_option maxHeartbeats 4000000 in
theorem hpop_any (H : Value) (lt : Nat → Nat → Bool) (enc : Nat → Value) (ok : Nat → Prop) (I : List Nat → World → Prop) (O : Ord lt) (hO : HpOps H lt I) (hE : HpEnds H enc ok I) (X : List Nat) (m : Nat) (w : World) (hI : I X w) (hX : X.length = m + 1) (hn : m ≤ 900) (hh : HeapF lt X (m + 1) 0) :
    Calls Tryz.prog 21 #[H] w fun e w' => e = .returned (enc (X.getD 0 0)) ∧ ∃ X', Kp ((X.getD 0 0 :: X').Perm X ∧ HeapF lt X' m 0) ∧ Kp (I X' w') := by
  have HO := Kp.mk hO
  have HE := Kp.mk hE
  have HXL := Kp.mk hX
  have HD := Kp.mk (Hp.pop_down hX hh)
  obtain ⟨f, vs, hr, hc⟩ := hO.len X w hI
  rw [hX] at hc
  have HR := Kp.mk hr
  have HC := Kp.mk hc
  have HSP := Kp.mk (Hp.swp_perm X 0 m (by omega) (by omega))
  have HSL := Kp.mk (Hp.swp_length X 0 m)
  have HSM := Kp.mk (show (swp X 0 m).getD m 0 = X.getD 0 0 by rw [Hp.swp_get X 0 m m (by omega) (by omega), if_pos rfl])
  clear hO hE hX hh hr hc hI
  obtain ⟨x0, hx0⟩ : ∃ x0, X.getD 0 0 = x0 := ⟨_, rfl⟩
  rw [hx0] at HSM ⊢
  clear hx0
  have e1 : IntKind.i64.wrap ((m : Int) + 1 - 1) = (m : Int) := by rw [show (m : Int) + 1 - 1 = m by omega]; exact IntWalk.i64_in _ (by omega)
  go_enter Tryz.func21, Tryz.ntmps21
  go_wp2_with (refine wpList_invoke H #[] _ _ _ _ rfl ?a11 (by rfl) ?a12 f vs HR.out HC.out ?a13)
  case a12 => first | rfl | go_simp
  case a13 =>
    rintro e w1 rfl HI1
    refine ⟨_, rfl, ?_⟩
    obtain ⟨f2, vs2, hr2, hc2⟩ := HO.out.swap X w1 0 m HI1.out (by rw [HXL.out]; omega) (by rw [HXL.out]; omega)
    have HR2 := Kp.mk (show (callMethod H "Swap" #[.int .i64 0, .int .i64 (m : Int)]).run Tryz.prog w1 = .ok (.enter f2 vs2) w1 from hr2)
    have HC2 := Kp.mk hc2
    clear hr2 hc2 HR HC
    go_wp2_with (refine wpList_invoke H #[.int .i64 0, .int .i64 (m : Int)] _ _ _ _ rfl ?a21 (by rfl) ?a22 f2 vs2 HR2.out HC2.out ?a23)
    case a22 => first | rfl | go_simp
    case a23 =>
      rintro e w2 rfl HI2
      refine ⟨_, rfl, ?_⟩
      have CD := Kp.mk (hdown_any H lt I O HO.out (swp X 0 m) m 0 w2 HI2.out (by rw [HSL.out, HXL.out]; omega) (by omega) HD.out (Nat.zero_le _))
      clear HR2 HC2
      go_wp2_with fail
      refine CD.out.mono ?_
      rintro e w3 ⟨⟨rb, rfl⟩, Y, HP, HI3⟩
      have HYL := Kp.mk (show Y.length = m + 1 by rw [HP.out.1.length_eq, HSL.out, HXL.out])
      have HY := Kp.mk (show Y.take m ++ [x0] = Y by
        have h1 := last_split Y m HYL.out
        rwa [HP.out.2.2 m (Nat.le_refl _), HSM.out] at h1)
      have HI4 := HI3.out
      rw [← HY.out] at HI4
      obtain ⟨f4, vs4, hr4, hc4⟩ := HE.out.pop (Y.take m) w3 x0 HI4
      have HR4 := Kp.mk hr4
      have HC4 := Kp.mk hc4
      have HPP := Kp.mk (show (x0 :: Y.take m).Perm X ∧ HeapF lt (Y.take m) m 0 from by
        refine ⟨?_, heap_take HP.out.2.1⟩
        refine List.Perm.trans ?_ (HP.out.1.trans HSP.out)
        have h1 : (x0 :: Y.take m).Perm (Y.take m ++ [x0]) := (List.perm_append_singleton x0 (Y.take m)).symm
        rwa [HY.out] at h1)
      clear hr4 hc4 CD HI4 HI3 HP HY
      go_wp2_with (refine wpList_invoke H #[] _ _ _ _ rfl ?a41 (by rfl) ?a42 f4 vs4 HR4.out HC4.out ?a43)
      case a42 => first | rfl | go_simp
      case a43 =>
        rintro e w5 rfl HI5
        refine ⟨_, rfl, ?_⟩
        go_wp2
        go_ret
        exact ⟨rfl, _, HPP, HI5⟩

set_option maxRecDepth 100000 in
set_option maxHeartbeats 4000000 in
theorem hinit_any (H : Value) (lt : Nat → Nat → Bool) (I : List Nat → World → Prop) (O : Ord lt) (hO : HpOps H lt I) (X : List Nat) (n : Nat) (w : World) (hI : I X w) (hX : X.length = n) (hn : n ≤ 900) :
    Calls Tryz.prog 19 #[H] w fun e w' => e = .returned (.tuple #[]) ∧ ∃ X', Kp (X'.Perm X ∧ HeapF lt X' n 0) ∧ Kp (I X' w') := by
  have HO := Kp.mk hO
  have HXL := Kp.mk hX
  obtain ⟨f, vs, hr, hc⟩ := hO.len X w hI
  rw [hX] at hc
  have HR := Kp.mk hr
  have HC := Kp.mk hc
  have HN := Kp.mk (Hp.heap_none (lt := lt) X n)
  clear hO hX hr hc hI
  obtain ⟨q, hq⟩ : ∃ q, n / 2 = q := ⟨_, rfl⟩
  have hqn : q ≤ n := by omega
  have HQ := Kp.mk (show (n : Int) / 2 = (q : Int) by omega)
  rw [hq] at HN
  clear hq
  go_enter Tryz.func19, Tryz.ntmps19
  go_wp2_with (refine wpList_invoke H #[] _ _ _ _ rfl ?a11 (by rfl) ?a12 f vs HR.out HC.out ?a13)
  case a12 => first | rfl | go_simp
  case a13 =>
    rintro e w1 rfl HI1
    refine ⟨_, rfl, ?_⟩
    go_wp2
    go_loopw [3] (fun v wr => ∃ (i : Nat) (Y : List Nat), i ≤ n ∧ v = .int .i64 ((i : Int) - 1) ∧ Kp (Y.Perm X ∧ HeapF lt Y n i) ∧ Kp (I Y wr)) (fun v _ => (intOf v + 1).toNat)
    case atStart => exact ⟨q, X, hqn, by rw [HQ.out], ⟨List.Perm.refl _, HN.out⟩, HI1⟩
    case round =>
      clear HI1 HN
      obtain ⟨i, Y, hi, rfl, HP, HI⟩ := hrel
      by_cases h0 : i = 0
      · subst h0
        have t1 : decide ((((0 : Nat) : Int) - 1) ≥ 0) = false := by decide
        go_wp2
        go_end0
        exact ⟨rfl, Y, HP, HI⟩
      · obtain ⟨j, rfl⟩ : ∃ j, i = j + 1 := ⟨i - 1, by omega⟩
        have HV := Kp.mk (show (((j + 1 : Nat) : Int) - 1) = (j : Int) by omega)
        rw [HV.out]
        have t1 : decide ((j : Int) ≥ 0) = true := decide_eq_true (by omega)
        have e4 : IntKind.i64.wrap ((j : Int) - 1) = (j : Int) - 1 := IntWalk.i64_in _ (by omega)
        have CD := Kp.mk (hdown_any H lt I O HO.out Y n j wr HI.out (by rw [HP.out.1.length_eq, HXL.out]; exact Nat.le_refl _) (by omega) (Hp.down_start HP.out.2) (by omega))
        go_wp2_with fail
        refine CD.out.mono ?_
        rintro e w3 ⟨⟨rb, rfl⟩, Z, HPZ, HI3⟩
        have HP3 := Kp.mk (show Z.Perm X ∧ HeapF lt Z n j from ⟨HPZ.out.1.trans HP.out.1, HPZ.out.2.1⟩)
        go_wp2
        go_roundw
        case rel => exact ⟨j, Z, by omega, rfl, HP3, HI3⟩
        case measure => simp [intOf]

end Go.Proofs.YtladgklnacihkaaGreat

