import Derived.Test.YtdegnnbffehmnaaMGr
import Derived.Test.YtdegnnbffehmnaaSkyP
/- Package sky: Under. -/
namespace Go.Proofs.Ytdegnnbffehmnaa
set_option linter.unusedVariables false
open Go.RowKit

/-- How many points stand under one. -/
def undN (L : List Pt) (p : Pt) : Nat := L.countP fun q => decide (Above p q)
theorem und_eq (L : List Pt) (p : Pt) (h : ∀ q ∈ L, q.Near) : (cntR L (-1048576) (-1048576) p.x p.y : Int) - (cntR L p.x p.y p.x p.y : Nat) = (undN L p : Nat) := by
  have : cntR L (-1048576) (-1048576) p.x p.y = cntR L p.x p.y p.x p.y + undN L p := by
    unfold cntR undN
    induction L with
    | nil => rfl
    | cons q L ih =>
      have hq := h q (by simp)
      have ih' := ih (fun r hr => h r (by simp [hr]))
      have key : (if inR (-1048576) (-1048576) p.x p.y q = true then 1 else 0) = (if inR p.x p.y p.x p.y q = true then 1 else 0) + (if decide (Above p q) = true then 1 else 0) := by
        unfold Pt.Near at hq
        by_cases hA : Above p q
        · rw [decide_eq_true hA]
          unfold Above at hA
          simp only [inR, decide_eq_true_eq, if_true]
          split <;> split <;> omega
        · rw [decide_eq_false hA]
          unfold Above at hA
          simp only [inR, decide_eq_true_eq, Bool.false_eq_true, if_false]
          split <;> split <;> omega
      rw [List.countP_cons, List.countP_cons, List.countP_cons, ih', key]
      omega
  omega
theorem countP_more {α : Type} (P Q : α → Bool) (L : List α) (h : ∀ q ∈ L, P q = true → Q q = true) : L.countP P ≤ L.countP Q := List.countP_mono_left h
theorem countP_lt {α : Type} (P Q : α → Bool) (L : List α) (h : ∀ q ∈ L, P q = true → Q q = true) (b : α) (hb : b ∈ L) (h1 : Q b = true) (h2 : P b = false) : L.countP P < L.countP Q := by
  induction L with
  | nil => simp at hb
  | cons x L ih =>
    have hx := h x (by simp)
    have hle := countP_more P Q L (fun q hq => h q (by simp [hq]))
    rw [List.countP_cons, List.countP_cons]
    rcases List.mem_cons.1 hb with rfl | hb
    · rw [h1, h2]; simp; omega
    · have := ih (fun q hq => h q (by simp [hq])) hb
      cases hP : P x
      · cases Q x <;> simp <;> omega
      · rw [hx hP]; simp; omega
theorem above_not (p : Pt) : ¬ Above p p := by unfold Above; omega
theorem und_lt (L : List Pt) (p : Pt) (hp : p ∈ L) : undN L p < L.length := by
  have h := countP_lt (fun q => decide (Above p q)) (fun _ => true) L (fun _ _ _ => rfl) p hp rfl (decide_eq_false (above_not p))
  have e : L.countP (fun _ => true) = L.length := List.countP_eq_length.2 (fun _ _ => rfl)
  unfold undN; omega
theorem und_more (L : List Pt) (p q : Pt) (hq : q ∈ L) (h : Above p q) : undN L q < undN L p := by
  unfold undN
  refine countP_lt _ _ L (fun r _ hr => ?_) q hq (decide_eq_true h) (decide_eq_false (above_not q))
  rw [decide_eq_true_eq] at *
  unfold Above at *
  omega
theorem und_one (L : List Pt) (p q : Pt) (hq : q ∈ L) (h : Above p q) : 1 ≤ undN L p := by
  have := und_more L p q hq h
  omega
theorem cntR_len (L : List Pt) (X0 Y0 X1 Y1 : Int) : cntR L X0 Y0 X1 Y1 ≤ L.length := by unfold cntR; exact List.countP_le_length
attribute [irreducible] undN
attribute [local irreducible] cntR

set_option maxRecDepth 100000 in
set_option maxHeartbeats 2000000 in
theorem under_any (a : Option Addr) (cap n i : Nat) (L : List Pt) (w : World) (h : SlF ptL 3 w a n cap L) (hn : n ≤ 150) (hN : ∀ p ∈ L, p.Near) (hi : i < n) :
    Calls Try.prog 27 #[.slice a n cap, .int .i64 i] w fun e w' => e = .returned (.tuple #[.int .i64 (undN L (L.getD i pt0) : Nat), .int .i64 0]) ∧ Below w.heap.size w w' := by
  have hl := h.len ptL_len (by omega)
  have H := Kp.mk h
  have HN := Kp.mk hN
  have CC := Kp.mk (gcheck_any a cap n L w h hn hN)
  have HE := Kp.mk (und_eq L (L.getD i pt0) hN)
  have HLL := Kp.mk hl
  have hub : undN L (L.getD i pt0) < L.length := und_lt L _ (by rw [getD_at _ _ (by omega)]; exact List.getElem_mem _)
  obtain ⟨u, hu⟩ : ∃ u, u = undN L (L.getD i pt0) := ⟨_, rfl⟩
  rw [← hu] at HE hub ⊢
  generalize hp : L.getD i pt0 = p at *
  have HP := Kp.mk hp
  have hiz : (i : Int) < n := by omega
  have hin : ¬ (i : Int) < 0 := by omega
  have hiz2 : ¬ (n : Int) ≤ i := by omega
  have hcl1 := cntR_len L (-1048576) (-1048576) p.x p.y
  have hcl2 := cntR_len L p.x p.y p.x p.y
  have ew : IntKind.i64.wrap ((cntR L (-1048576) (-1048576) p.x p.y : Int) - (cntR L p.x p.y p.x p.y : Nat)) = (u : Int) := by rw [HE.out]; exact IntWalk.i64_in _ (by omega)
  have HEW := Kp.mk ew
  clear h hN hl hu hp hub hcl1 hcl2 ew HE
  go_enter Try.func27, Try.ntmps27
  go_wp2_with fail
  refine CC.out.mono ?_
  rintro e w1 ⟨rfl, HB1⟩
  have H1 := Kp.mk (H.out.below HB1.out)
  obtain ⟨pb, po, rfl, hpb, cp⟩ := H1.out.at ptL_len (by omega) i (by rw [HLL.out]; omega)
  rw [← getD_at L pt0 (by rw [HLL.out]; omega), HP.out] at cp
  have p0 : w1.cell? ⟨pb, po + i * 3, none⟩ = some (.int .i64 p.x) := cp 0 (by omega)
  have p1 : w1.cell? ⟨pb, po + i * 3 + 1, none⟩ = some (.int .i64 p.y) := cp 1 (by omega)
  have p2 : w1.cell? ⟨pb, po + i * 3 + 2, none⟩ = some (.int .i64 p.w) := cp 2 (by omega)
  have hbel : Below w1.heap.size w1 (w1.alloc (.cells #[.int .i64 p.x, .int .i64 p.y, .int .i64 p.w] 36)) := below_alloc (Nat.le_refl _) _
  have HX := Kp.mk (Box.new w1 #[.int .i64 p.x, .int .i64 p.y, .int .i64 p.w] 36)
  have H2 := Kp.mk (SlF.below H1.out hbel)
  have HB2 := Kp.mk (below_step HB1.out hbel)
  have c0 : (w1.alloc (.cells #[.int .i64 p.x, .int .i64 p.y, .int .i64 p.w] 36)).cell? ⟨w1.heap.size, 0, none⟩ = some (.int .i64 p.x) := HX.out.cell 0 rfl
  have c1 : (w1.alloc (.cells #[.int .i64 p.x, .int .i64 p.y, .int .i64 p.w] 36)).cell? ⟨w1.heap.size, 1, none⟩ = some (.int .i64 p.y) := HX.out.cell 1 rfl
  have C1 := Kp.mk (gcount_all _ cap n L (-1048576) (-1048576) p.x p.y _ H2.out hn HN.out)
  obtain ⟨u1, hu1⟩ : ∃ u, u = cntR L (-1048576) (-1048576) p.x p.y := ⟨_, rfl⟩
  obtain ⟨u2, hu2⟩ : ∃ u, u = cntR L p.x p.y p.x p.y := ⟨_, rfl⟩
  rw [← hu1] at HEW C1
  rw [← hu2] at HEW
  have HU2 := Kp.mk hu2
  clear cp hbel CC H hu1 hu2
  go_wp2_with fail
  refine C1.out.mono ?_
  rintro e w3 ⟨rfl, hb3⟩
  have H3 := Kp.mk (SlF.below H2.out hb3)
  have HB3 := Kp.mk (below_step HB2.out hb3)
  have HX3 := Kp.mk (HX.out.below hb3)
  have d0 : w3.cell? ⟨w1.heap.size, 0, none⟩ = some (.int .i64 p.x) := HX3.out.cell 0 rfl
  have d1 : w3.cell? ⟨w1.heap.size, 1, none⟩ = some (.int .i64 p.y) := HX3.out.cell 1 rfl
  have C2 := Kp.mk (gcount_all _ cap n L p.x p.y p.x p.y _ H3.out hn HN.out)
  rw [← HU2.out] at C2
  clear C1 hb3 c0 c1 p0 p1 p2 H1 H2 HB1 HB2 HX
  go_wp2_with fail
  refine C2.out.mono ?_
  rintro e w4 ⟨rfl, hb4⟩
  have HB4 := Kp.mk (below_step HB3.out hb4)
  have ew := HEW.out
  clear hb4 C2 HU2
  go_wp2
  refine bodyPost_ret (v := .tuple #[.int .i64 u, .int .i64 0]) (by simp [results, Try.results27, go_sem]) rfl ?_
  exact ⟨rfl, HB4.out⟩

end Go.Proofs.Ytdegnnbffehmnaa

