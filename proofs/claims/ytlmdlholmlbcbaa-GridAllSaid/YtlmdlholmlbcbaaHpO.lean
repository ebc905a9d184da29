/- Package container/heap: the walks of Push, Pop and Init, over whatever tells and swaps. -/
import Derived.Test.YtlmdlholmlbcbaaHpW
namespace Go.Proofs.Ytlmdlholmlbcbaa
set_option linter.unusedVariables false
open Go.RowKit
open Hp (Ord swp par HeapF UpInv DownInv)

/-- What Push and Pop of an interface value do. -/
structure HpEnds (H : Value) (enc : Nat → Value) (ok : Nat → Prop) (I : List Nat → World → Prop) : Prop where
  push : ∀ (X : List Nat) (W : World) (x : Nat), I X W → ok x → X.length ≤ 200 → ∃ f vs, (callMethod H "Push" #[enc x]).run Try.prog W = .ok (.enter f vs) W ∧ Calls Try.prog f vs W fun e w' => e = .returned (.tuple #[]) ∧ Kp (I (X ++ [x]) w')
  pop : ∀ (X : List Nat) (W : World) (x : Nat), I (X ++ [x]) W → ∃ f vs, (callMethod H "Pop" #[]).run Try.prog W = .ok (.enter f vs) W ∧ Calls Try.prog f vs W fun e w' => e = .returned (enc x) ∧ Kp (I X w')

theorem last_split (X : List Nat) (m : Nat) (h : X.length = m + 1) : X.take m ++ [X.getD m 0] = X := by
  rw [getD_at X 0 (by omega)]
  have := List.take_succ_eq_append_getElem (l := X) (i := m) (by omega)
  rw [← this, List.take_of_length_le (by omega)]
theorem heap_take {lt : Nat → Nat → Bool} {X : List Nat} {m : Nat} (h : HeapF lt X m 0) : HeapF lt (X.take m) m 0 := by
  intro k h0 hk hl
  have g : ∀ j, j < m → (X.take m).getD j 0 = X.getD j 0 := fun j hj => by
    simp only [List.getD, List.getElem?_take_of_lt hj]
  rw [g k hk, g (par k) (by unfold par; omega)]
  exact h k h0 hk hl

attribute [local irreducible] UpInv DownInv HeapF swp
set_option maxRecDepth 100000 in
set_option maxHeartbeats 4000000 in
theorem hpush_any (H : Value) (lt : Nat → Nat → Bool) (enc : Nat → Value) (ok : Nat → Prop) (I : List Nat → World → Prop) (O : Ord lt) (hO : HpOps H lt I) (hE : HpEnds H enc ok I) (X : List Nat) (n x : Nat) (w : World) (hI : I X w) (hx : ok x) (hX : X.length = n) (hn : n ≤ 200) (hh : HeapF lt X n 0) :
    Calls Try.prog 100 #[H, enc x] w fun e w' => e = .returned (.tuple #[]) ∧ ∃ X', Kp (X'.Perm (X ++ [x]) ∧ HeapF lt X' (n + 1) 0) ∧ Kp (I X' w') := by
  obtain ⟨f, vs, hr, hc⟩ := hE.push X w x hI hx (by omega)
  have HO := Kp.mk hO
  have HXL := Kp.mk (show (X ++ [x]).length = n + 1 by simp [hX])
  have HU := Kp.mk (Hp.push_up (x := x) hX hh)
  have HR := Kp.mk hr
  have HC := Kp.mk hc
  clear hO hE hX hh hr hc hI hx
  obtain ⟨v, hv⟩ : ∃ v, enc x = v := ⟨_, rfl⟩
  rw [hv] at HR ⊢
  clear hv
  obtain ⟨Y, hY⟩ : ∃ Y, X ++ [x] = Y := ⟨_, rfl⟩
  rw [hY] at HXL HU HC ⊢
  clear hY
  go_enter Try.func100, Try.ntmps100
  go_wp2_with (refine wpList_invoke H #[v] _ _ _ _ rfl ?a11 (by rfl) ?a12 f vs HR.out HC.out ?a13)
  case a12 => first | rfl | go_simp
  case a13 =>
    rintro e w1 rfl HI1
    refine ⟨_, rfl, ?_⟩
    obtain ⟨f2, vs2, hr2, hc2⟩ := HO.out.len Y w1 HI1.out
    rw [HXL.out] at hc2
    have HR2 := Kp.mk hr2
    have HC2 := Kp.mk hc2
    clear hr2 hc2 HR HC
    have e1 : IntKind.i64.wrap ((n : Int) + 1 - 1) = (n : Int) := by rw [show (n : Int) + 1 - 1 = n by omega]; exact IntWalk.i64_in _ (by omega)
    go_wp2_with (refine wpList_invoke H #[] _ _ _ _ rfl ?a21 (by rfl) ?a22 f2 vs2 HR2.out HC2.out ?a23)
    case a22 => first | rfl | go_simp
    case a23 =>
      rintro e w2 rfl HI2
      refine ⟨_, rfl, ?_⟩
      have CU := Kp.mk (hup_any H lt I O HO.out Y (n + 1) n w2 HI2.out HXL.out (by omega) HU.out (by omega))
      go_wp2_with fail
      refine CU.out.mono ?_
      rintro e w3 ⟨rfl, X', HP, HI3⟩
      go_wp2
      go_end0
      exact ⟨rfl, X', HP, HI3⟩

set_option maxRecDepth 100000 in
set_option maxHeartbeats 4000000 in
theorem hpop_any (H : Value) (lt : Nat → Nat → Bool) (enc : Nat → Value) (ok : Nat → Prop) (I : List Nat → World → Prop) (O : Ord lt) (hO : HpOps H lt I) (hE : HpEnds H enc ok I) (X : List Nat) (m : Nat) (w : World) (hI : I X w) (hX : X.length = m + 1) (hn : m ≤ 900) (hh : HeapF lt X (m + 1) 0) :
    Calls Try.prog 82 #[H] w fun e w' => e = .returned (enc (X.getD 0 0)) ∧ ∃ X', Kp ((X.getD 0 0 :: X').Perm X ∧ HeapF lt X' m 0) ∧ Kp (I X' w') := by
  have HO := Kp.mk hO
  have HE := Kp.mk hE
  have HXL := Kp.mk hX
  have HD := Kp.mk (Hp.pop_down hX hh)
  obtain ⟨f, vs, hr, hc⟩ := hO.len X w hI
  rw [hX] at hc
  have HR := Kp.mk hr
  have HC := Kp.mk hc
  have HSP := Kp.mk (Hp.swp_perm X 0 m (by omega) (by omega))
  have HSL := Kp.mk (Hp.swp_length X 0 m)
  have HSM := Kp.mk (show (swp X 0 m).getD m 0 = X.getD 0 0 by rw [Hp.swp_get X 0 m m (by omega) (by omega), if_pos rfl])
  clear hO hE hX hh hr hc hI
  obtain ⟨x0, hx0⟩ : ∃ x0, X.getD 0 0 = x0 := ⟨_, rfl⟩
  rw [hx0] at HSM ⊢
  clear hx0
  have e1 : IntKind.i64.wrap ((m : Int) + 1 - 1) = (m : Int) := by rw [show (m : Int) + 1 - 1 = m by omega]; exact IntWalk.i64_in _ (by omega)
  go_enter Try.func82, Try.ntmps82
  go_wp2_with (refine wpList_invoke H #[] _ _ _ _ rfl ?a11 (by rfl) ?a12 f vs HR.out HC.out ?a13)
  case a12 => first | rfl | go_simp
  case a13 =>
    rintro e w1 rfl HI1
    refine ⟨_, rfl, ?_⟩
    obtain ⟨f2, vs2, hr2, hc2⟩ := HO.out.swap X w1 0 m HI1.out (by rw [HXL.out]; omega) (by rw [HXL.out]; omega)
    have HR2 := Kp.mk (show (callMethod H "Swap" #[.int .i64 0, .int .i64 (m : Int)]).run Try.prog w1 = .ok (.enter f2 vs2) w1 from hr2)
    have HC2 := Kp.mk hc2
    clear hr2 hc2 HR HC
    go_wp2_with (refine wpList_invoke H #[.int .i64 0, .int .i64 (m : Int)] _ _ _ _ rfl ?a21 (by rfl) ?a22 f2 vs2 HR2.out HC2.out ?a23)
    case a22 => first | rfl | go_simp
    case a23 =>
      rintro e w2 rfl HI2
      refine ⟨_, rfl, ?_⟩
      have CD := Kp.mk (hdown_any H lt I O HO.out (swp X 0 m) m 0 w2 HI2.out (by rw [HSL.out, HXL.out]; omega) (by omega) HD.out (Nat.zero_le _))
      clear HR2 HC2
      go_wp2_with fail
      refine CD.out.mono ?_
      rintro e w3 ⟨⟨rb, rfl⟩, Y, HP, HI3⟩
      have HYL := Kp.mk (show Y.length = m + 1 by rw [HP.out.1.length_eq, HSL.out, HXL.out])
      have HY := Kp.mk (show Y.take m ++ [x0] = Y by
        have h1 := last_split Y m HYL.out
        rwa [HP.out.2.2 m (Nat.le_refl _), HSM.out] at h1)
      have HI4 := HI3.out
      rw [← HY.out] at HI4
      obtain ⟨f4, vs4, hr4, hc4⟩ := HE.out.pop (Y.take m) w3 x0 HI4
      have HR4 := Kp.mk hr4
      have HC4 := Kp.mk hc4
      have HPP := Kp.mk (show (x0 :: Y.take m).Perm X ∧ HeapF lt (Y.take m) m 0 from by
        refine ⟨?_, heap_take HP.out.2.1⟩
        refine List.Perm.trans ?_ (HP.out.1.trans HSP.out)
        have h1 : (x0 :: Y.take m).Perm (Y.take m ++ [x0]) := (List.perm_append_singleton x0 (Y.take m)).symm
        rwa [HY.out] at h1)
      clear hr4 hc4 CD HI4 HI3 HP HY
      go_wp2_with (refine wpList_invoke H #[] _ _ _ _ rfl ?a41 (by rfl) ?a42 f4 vs4 HR4.out HC4.out ?a43)
      case a42 => first | rfl | go_simp
      case a43 =>
        rintro e w5 rfl HI5
        refine ⟨_, rfl, ?_⟩
        go_wp2
        go_ret
        exact ⟨rfl, _, HPP, HI5⟩

set_option maxRecDepth 100000 in
set_option maxHeartbeats 4000000 in
theorem hinit_any (H : Value) (lt : Nat → Nat → Bool) (I : List Nat → World → Prop) (O : Ord lt) (hO : HpOps H lt I) (X : List Nat) (n : Nat) (w : World) (hI : I X w) (hX : X.length = n) (hn : n ≤ 900) :
    Calls Try.prog 80 #[H] w fun e w' => e = .returned (.tuple #[]) ∧ ∃ X', Kp (X'.Perm X ∧ HeapF lt X' n 0) ∧ Kp (I X' w') := by
  have HO := Kp.mk hO
  have HXL := Kp.mk hX
  obtain ⟨f, vs, hr, hc⟩ := hO.len X w hI
  rw [hX] at hc
  have HR := Kp.mk hr
  have HC := Kp.mk hc
  have HN := Kp.mk (Hp.heap_none (lt := lt) X n)
  clear hO hX hr hc hI
  obtain ⟨q, hq⟩ : ∃ q, n / 2 = q := ⟨_, rfl⟩
  have hqn : q ≤ n := by omega
  have HQ := Kp.mk (show (n : Int) / 2 = (q : Int) by omega)
  rw [hq] at HN
  clear hq
  go_enter Try.func80, Try.ntmps80
  go_wp2_with (refine wpList_invoke H #[] _ _ _ _ rfl ?a11 (by rfl) ?a12 f vs HR.out HC.out ?a13)
  case a12 => first | rfl | go_simp
  case a13 =>
    rintro e w1 rfl HI1
    refine ⟨_, rfl, ?_⟩
    go_wp2
    go_loopw [3] (fun v wr => ∃ (i : Nat) (Y : List Nat), i ≤ n ∧ v = .int .i64 ((i : Int) - 1) ∧ Kp (Y.Perm X ∧ HeapF lt Y n i) ∧ Kp (I Y wr)) (fun v _ => (intOf v + 1).toNat)
    case atStart => exact ⟨q, X, hqn, by rw [HQ.out], ⟨List.Perm.refl _, HN.out⟩, HI1⟩
    case round =>
      clear HI1 HN
      obtain ⟨i, Y, hi, rfl, HP, HI⟩ := hrel
      by_cases h0 : i = 0
      · subst h0
        have t1 : decide ((((0 : Nat) : Int) - 1) ≥ 0) = false := by decide
        go_wp2
        go_end0
        exact ⟨rfl, Y, HP, HI⟩
      · obtain ⟨j, rfl⟩ : ∃ j, i = j + 1 := ⟨i - 1, by omega⟩
        have HV := Kp.mk (show (((j + 1 : Nat) : Int) - 1) = (j : Int) by omega)
        rw [HV.out]
        have t1 : decide ((j : Int) ≥ 0) = true := decide_eq_true (by omega)
        have e4 : IntKind.i64.wrap ((j : Int) - 1) = (j : Int) - 1 := IntWalk.i64_in _ (by omega)
        have CD := Kp.mk (hdown_any H lt I O HO.out Y n j wr HI.out (by rw [HP.out.1.length_eq, HXL.out]; exact Nat.le_refl _) (by omega) (Hp.down_start HP.out.2) (by omega))
        go_wp2_with fail
        refine CD.out.mono ?_
        rintro e w3 ⟨⟨rb, rfl⟩, Z, HPZ, HI3⟩
        have HP3 := Kp.mk (show Z.Perm X ∧ HeapF lt Z n j from ⟨HPZ.out.1.trans HP.out.1, HPZ.out.2.1⟩)
        go_wp2
        go_roundw
        case rel => exact ⟨j, Z, by omega, rfl, HP3, HI3⟩
        case measure => simp [intOf]

end Go.Proofs.Ytlmdlholmlbcbaa
