/- TopVersions: plain. -/
import Derived.Test.YtjicgndahpffbaaPersW
import Derived.Test.YtjicgndahpffbaaSegY
import Derived.Test.YtjicgndahpffbaaStep
import Derived.Test.YtjicgndahpffbaaTopK
namespace Go.Proofs.Ytjicgndahpffbaa
set_option linter.unusedVariables false
open Go.RowKit

theorem info_op : (Try.prog.info? 86).map (fun i => (i.zero, i.size, i.bytes)) = some (some (.agg #[.int .i64 0, .int .i64 0, .int .i64 0, .int .i64 0]), 4, 32) := by kernel_rfl
theorem tOps : ElemTy Try.prog 80 86 4 32 (.agg #[.int .i64 0, .int .i64 0, .int .i64 0, .int .i64 0]) :=
  ⟨Try.underlying80, by obtain ⟨i0, hi, h0, h1, h2⟩ := info_parts info_op; exact ⟨i0, hi, h0, h1, h2⟩, rfl, by decide⟩
theorem opL_one (o : SOp) : ∀ u ∈ opL o, u.oneCell' = true := by
  intro u hu
  simp only [opL, List.mem_cons, List.not_mem_nil, or_false] at hu
  rcases hu with rfl | rfl | rfl | rfl <;> rfl
def atW (p : Nat) (x : Wk) : Nat := (pick x.a p).toNat
def byW (x : Wk) : Int := pick x.amt 1000
def tcs (L : List Wk) (p k : Nat) : List Chg := (List.range k).map fun i => ⟨1, i, atW p (L.getD i wk0), byW (L.getD i wk0), 0⟩
def tops (L : List Wk) (p k : Nat) : List SOp := (List.range k).map fun i => ⟨2, atW p (L.getD i wk0), atW p (L.getD i wk0), byW (L.getD i wk0)⟩
theorem tcs_length (L : List Wk) (p k : Nat) : (tcs L p k).length = k := by simp [tcs]
theorem tops_length (L : List Wk) (p k : Nat) : (tops L p k).length = k := by simp [tops]
theorem tcs_succ (L : List Wk) (p k : Nat) : tcs L p (k + 1) = tcs L p k ++ [⟨1, k, atW p (L.getD k wk0), byW (L.getD k wk0), 0⟩] := by
  rw [tcs, List.range_succ, List.map_append]; rfl
theorem tops_succ (L : List Wk) (p k : Nat) : tops L p (k + 1) = tops L p k ++ [⟨2, atW p (L.getD k wk0), atW p (L.getD k wk0), byW (L.getD k wk0)⟩] := by
  rw [tops, List.range_succ, List.map_append]; rfl
theorem atW_lt (p : Nat) (x : Wk) (hp : 0 < p) : atW p x < p := by
  have h := pick_bd x.a p (by omega)
  unfold atW
  omega
theorem tcs_at (L : List Wk) (p k i : Nat) (h : i < k) : (tcs L p k).getD i ch0 = ⟨1, i, atW p (L.getD i wk0), byW (L.getD i wk0), 0⟩ := by
  rw [getD_at _ _ (by rw [tcs_length]; exact h)]
  simp [tcs]
theorem tops_at (L : List Wk) (p k i : Nat) (h : i < k) : (tops L p k).getD i op0 = ⟨2, atW p (L.getD i wk0), atW p (L.getD i wk0), byW (L.getD i wk0)⟩ := by
  rw [getD_at _ _ (by rw [tops_length]; exact h)]
  simp [tops]
theorem tcs_ok (L : List Wk) (p k : Nat) (hp : 0 < p) : ∀ j (h : j < (tcs L p k).length), (tcs L p k)[j].Ok j p := by
  intro j h
  have e := tcs_at L p k j (by rw [tcs_length] at h; exact h)
  rw [getD_at _ _ h] at e
  rw [e]
  exact ⟨.inl rfl, Nat.le_refl _, atW_lt p _ hp, Nat.zero_le _⟩
theorem tops_ok (L : List Wk) (p k : Nat) (hp : 0 < p) : ∀ o ∈ tops L p k, o.Ok p := by
  intro o ho
  obtain ⟨i, _, rfl⟩ := List.mem_map.1 ho
  have h1 := atW_lt p (L.getD i wk0) hp
  have h2 := pick_bd (L.getD i wk0).amt 1000 (by omega)
  refine ⟨by dsimp only; omega, by dsimp only; omega, Nat.le_refl _, h1, ?_, ?_⟩ <;> simp only [byW] <;> omega
theorem upd_set (a : Nat) (y : Int) (D : List Int) : ∀ i, upd ⟨2, a, a, y⟩ i D = if a < i then D else D.set (a - i) y := by
  induction D with
  | nil => intro i; simp [upd]
  | cons x D ih =>
    intro i
    unfold upd
    rw [ih (i + 1)]
    by_cases h1 : a < i
    · rw [inn_no (o := ⟨2, a, a, y⟩) (i := i) (by dsimp only; omega), if_pos h1, if_pos (show a < i + 1 by omega)]; simp
    · rw [if_neg h1]
      by_cases h2 : a = i
      · subst h2
        rw [inn_yes (o := ⟨2, a, a, y⟩) (i := a) (by dsimp only; omega), if_pos (show a < a + 1 by omega)]
        simp [SOp.act]
      · rw [inn_no (o := ⟨2, a, a, y⟩) (i := i) (by dsimp only; omega), if_neg (show ¬ a < i + 1 by omega)]
        rw [show a - i = (a - (i + 1)) + 1 by omega]
        simp
theorem ver_run (l : List Int) (L : List Wk) (p m k : Nat) (h : k ≤ m) : vAt l (tcs L p m) k = runD l (tops L p m) k := by
  induction k with
  | zero => rw [vAt_zero]; unfold runD; rfl
  | succ k ih =>
    have e := tcs_at L p m k (by omega)
    rw [vAt_succ _ _ _ (by rw [e]; exact Nat.le_refl _) (by rw [e]; exact Nat.zero_le _), e]
    simp only [if_pos]
    rw [ih (by omega), runD, tops_at L p m k (by omega), upd_set, if_neg (by omega)]
    rfl
theorem runD_take (l : List Int) (ops : List SOp) (m k : Nat) (h : k ≤ m) (hm : m ≤ ops.length) : runD l (ops.take m) k = runD l ops k := by
  induction k with
  | zero => unfold runD; rfl
  | succ k ih =>
    rw [runD, runD, ih (by omega), getD_at _ _ (by rw [List.length_take]; omega), getD_at _ _ (by omega), List.getElem_take]
attribute [irreducible] tcs tops atW byW

end Go.Proofs.Ytjicgndahpffbaa
