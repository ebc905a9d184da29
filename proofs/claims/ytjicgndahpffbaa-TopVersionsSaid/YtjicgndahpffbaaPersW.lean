/- versionsOf, and plain laws of versions. -/
import Derived.Test.YtjicgndahpffbaaPersO
namespace Go.Proofs.Ytjicgndahpffbaa
set_option linter.unusedVariables false
open Go.RowKit

/-- Version number j. -/
def vAt (l : List Int) (cs : List Chg) (j : Nat) : List Int := (valK l cs j).getD j []
theorem valK_getD (l : List Int) (cs : List Chg) (m j : Nat) (h : j ≤ m) : (valK l cs m).getD j [] = vAt l cs j := by
  induction m with
  | zero => obtain rfl : j = 0 := by omega
            rfl
  | succ m ih =>
    by_cases hj : j = m + 1
    · subst hj; rfl
    · rw [← ih (by omega)]
      simp only [valK]
      simp only [List.getD_eq_getElem?_getD]
      rw [List.getElem?_append_left (by rw [valK_length]; omega)]
theorem vAt_zero (l : List Int) (cs : List Chg) : vAt l cs 0 = l := rfl
theorem vAt_succ (l : List Int) (cs : List Chg) (k : Nat) (hs : (cs.getD k ch0).src ≤ k) (hw : (cs.getD k ch0).wi ≤ k) :
    vAt l cs (k + 1) = if (cs.getD k ch0).kind = 1 then (vAt l cs (cs.getD k ch0).src).set (cs.getD k ch0).at_ (cs.getD k ch0).amt else (vAt l cs (cs.getD k ch0).src).take (cs.getD k ch0).at_ ++ (vAt l cs (cs.getD k ch0).wi).drop (cs.getD k ch0).at_ := by
  rw [← valK_getD l cs k _ hs, ← valK_getD l cs k _ hw]
  unfold vAt
  simp only [valK]
  rw [List.getD_eq_getElem?_getD (l := _ ++ _), List.getElem?_append_right (by rw [valK_length]; omega), valK_length]
  simp
theorem valK_take (l : List Int) (cs : List Chg) (m j : Nat) (h : j ≤ m) (hm : m ≤ cs.length) : valK l (cs.take m) j = valK l cs j := by
  induction j with
  | zero => rfl
  | succ j ih =>
    have e : (cs.take m).getD j ch0 = cs.getD j ch0 := by
      rw [getD_at _ _ (by rw [List.length_take]; omega), getD_at _ _ (by omega), List.getElem_take]
    simp only [valK, ih (by omega), e]
theorem vAt_take (l : List Int) (cs : List Chg) (m j : Nat) (h : j ≤ m) (hm : m ≤ cs.length) : vAt l (cs.take m) j = vAt l cs j := by
  unfold vAt
  rw [valK_take l cs m j h hm]
theorem vAt_length (l : List Int) (cs : List Chg) (n : Nat) (hl : l.length = n) (hok : ∀ j (h : j < cs.length), cs[j].Ok j n) : ∀ (N k : Nat), k ≤ N → k ≤ cs.length → (vAt l cs k).length = n := by
  intro N
  induction N with
  | zero => intro k hk _; obtain rfl : k = 0 := by omega
            exact hl
  | succ N ih =>
    intro k hk hkl
    cases k with
    | zero => exact hl
    | succ k =>
      have e : cs.getD k ch0 = cs[k]'(by omega) := getD_at _ _ (by omega)
      have ho := hok k (by omega)
      have h1 := ih _ (show cs[k].src ≤ N by have := ho.s; omega) (by have := ho.s; omega)
      have h2 := ih _ (show cs[k].wi ≤ N by have := ho.w; omega) (by have := ho.w; omega)
      rw [vAt_succ l cs k (by rw [e]; exact ho.s) (by rw [e]; exact ho.w), e]
      have := ho.a
      split
      · rw [List.length_set, h1]
      · rw [List.length_append, List.length_take, List.length_drop, h1, h2]; omega
attribute [irreducible] vAt

set_option maxRecDepth 100000 in
set_option maxHeartbeats 2000000 in
theorem versionsOf_any (a ca : Option Addr) (cap cc n m : Nat) (l : List Int) (cs : List Chg) (w : World) (h : SlI w a cap l) (hl : l.length = n) (hcs : SlF chL 5 w ca m cc cs) (hn0 : 0 < n) (hn : n ≤ 300) (hm : m ≤ 60) (hok : ∀ j (h : j < cs.length), cs[j].Ok j n) :
    Calls Try.prog 47 #[.slice a n cap, .slice ca m cc] w fun e w' => ∃ va vc, e = .returned (.tuple #[.slice va (m + 1) vc, .bool true]) ∧ Kp (RowsI w' va (m + 1) vc (valK l cs m)) ∧ Kp (Below w.heap.size w w') := by
  have H := Kp.mk h
  have HL := Kp.mk hl
  have HO := Kp.mk hcs
  have HK := Kp.mk hok
  have HV0 := Kp.mk (valK_getD l cs m 0 (by omega))
  have HVL := Kp.mk (valK_length l cs m)
  clear h hl hcs hok
  go_enter Try.func47, Try.ntmps47
  go_wp2_with fail
  refine (copied_n _ _ _ _ _ H.out HL.out (by omega)).mono ?_
  rintro e w1 ⟨c1, d1, rfl, h1, hb1⟩
  have H1 := Kp.mk h1
  have HO1 := Kp.mk (HO.out.below hb1)
  have H01 := Kp.mk (H.out.below hb1)
  clear h1
  go_wp2_with (at_builtin; refine wpList_cat tChs rfl _ _ rfl w1.heap.size none 0 0 [] rfl (World.ownsRow_nil _ _ _ _) _ _ _ _ rfl HO1.out (flat_one chL_one cs) ?c1 (by decide) (Nat.le_refl _) ?c2)
  case c1 => omega
  case c2 =>
    intro xa xc w2 hown hb2
    have HX := Kp.mk (show SlF chL 5 w2 xa m xc cs from own_slc hown)
    have hb02 := below_step hb1 hb2
    have H02 := Kp.mk (H01.out.below hb2)
    clear hown
    go_wp2_with fail
    refine (pPlay_any c1 xa d1 xc n m l cs w2 (by have := H1.out.below hb2; unfold SlI at this; rw [HL.out] at this; exact this) HL.out HX.out hn0 hn hm HK.out).mono ?_
    rintro e w3 ⟨ra, rc, va, vc, rfl, HR, HB3⟩
    have H03 := Kp.mk (H02.out.below HB3.out)
    obtain ⟨vb, vo, ga, gc, rfl, y0, hs0⟩ := HR.out.at 0 (by rw [HVL.out]; omega)
    have e0 : (valK l cs m)[0]'(by rw [HVL.out]; omega) = l := by
      have := HV0.out
      rw [getD_at _ _ (by rw [HVL.out]; omega), vAt_zero] at this
      exact this
    rw [e0, HL.out, Nat.add_zero] at y0
    rw [e0] at hs0
    have HS0 := Kp.mk hs0
    clear hs0 e0
    go_wp2_with fail
    refine (sameInts_same ga a gc cap n l l w3 HS0.out H03.out HL.out HL.out rfl (by omega)).mono ?_
    rintro e w4 ⟨rfl, hb4⟩
    have HF := Kp.mk (HR.out.below hb4)
    have HBF := Kp.mk (below_step (below_step hb02 HB3.out) hb4)
    go_wp2
    refine bodyPost_ret (v := .tuple #[.slice (some ⟨vb, vo, none⟩) (m + 1) vc, .bool true]) (by simp [results, Try.results47, go_sem]) rfl ?_
    exact ⟨_, vc, rfl, HF, HBF⟩

end Go.Proofs.Ytjicgndahpffbaa
