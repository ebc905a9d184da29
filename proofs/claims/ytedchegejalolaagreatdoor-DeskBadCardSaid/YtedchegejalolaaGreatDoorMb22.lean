import Derived.Test.YtedchegejalolaaGreatDoorMb21
import Derived.Test.YtedchegejalolaaGreatDoorMb0
import Derived.Test.YtedchegejalolaaGreatDoorMb14
/- Package grid: Count. -/
namespace Go.Proofs.YtedchegejalolaaGreatDoor
set_option linter.unusedVariables false
open Go.RowKit

theorem past_true (y v : Int) : past y true v = decide (y < v) := by unfold past; simp
theorem past_false (y v : Int) : past y false v = decide (y ≤ v) := by
  unfold past
  by_cases h1 : y < v
  · simp [h1]; omega
  · by_cases h2 : v = y
    · simp [h2]
    · simp [h1, h2]; omega
theorem map_range_getD (L : List Pt) : (List.range L.length).map (fun i => L.getD i pt0) = L := by
  apply List.ext_getElem
  · simp
  · intro i h1 h2
    rw [List.getElem_map, List.getElem_range, getD_at _ _ h2]
/-- What Count computes is how many points stand in the rectangle. -/
theorem count_eq {n : Nat} {L : List Pt} {O : List Nat} (hO : IsOrder L O) (hn : L.length = n) (X0 Y0 X1 Y1 : Int) (p b : Nat) (hp : colAt L O n X0 false = p) (hb : colAt L O n X1 true = b) :
    max (0 : Int) ((cntY L O p (max p b) Y1 true : Nat) - (cntY L O p (max p b) Y0 false : Nat)) = (cntR L X0 Y0 X1 Y1 : Nat) := by
  have hol := hO.len
  have hpn : p ≤ n := by rw [← hp]; exact colAt_le _ _ _ _ _
  have hbn : b ≤ n := by rw [← hb]; exact colAt_le _ _ _ _ _
  obtain ⟨S, hS⟩ : ∃ S, S = O.map (fun i => L.getD i pt0) := ⟨_, rfl⟩
  have hSL : S.length = n := by rw [hS, List.length_map]; omega
  have hSg : ∀ i (h : i < S.length), S[i] = L.getD (O.getD i 0) pt0 := fun i h => by
    simp only [hS, List.getElem_map]
    rw [getD_at O 0 (by omega)]
  have hSP : S.Perm L := by
    have := hO.perm.map (fun i => L.getD i pt0)
    rw [map_range_getD] at this
    rw [hS]; exact this
  have hM : ∀ a c, (S.take c).drop a = ((O.take c).drop a).map (fun i => L.getD i pt0) := fun a c => by
    rw [hS, ← List.map_take, ← List.map_drop]
  have e1 : cntY L O p (max p b) Y1 true = ((S.take (max p b)).drop p).countP (fun q => decide (q.y ≤ Y1)) := by
    unfold cntY
    rw [hM, List.countP_map]
    apply List.countP_congr
    intro i _
    rw [past_true]
    simp
  have e2 : cntY L O p (max p b) Y0 false = ((S.take (max p b)).drop p).countP (fun q => decide (q.y < Y0)) := by
    unfold cntY
    rw [hM, List.countP_map]
    apply List.countP_congr
    intro i _
    rw [past_false]
    simp
  have hrc := range_cnt S X0 X1 p b (fun i j hij hj => by
      rw [hSg i (by omega), hSg j hj]
      have := hO.up i j hij (by omega)
      unfold lexLe at this; omega) (by omega) (by omega)
    (fun i hi hip => by
      rw [hSg i hi]
      have := fstIdx_before (fun k => past X0 false (L.getD (O.getD k 0) pt0).x) n i (by unfold colAt at hp; omega)
      rw [past_false] at this
      simpa using this)
    (fun h => by
      rw [hSg p h]
      have := fstIdx_at (fun k => past X0 false (L.getD (O.getD k 0) pt0).x) n (by unfold colAt at hp; omega)
      unfold colAt at hp
      rw [hp, past_false] at this
      simpa using this)
    (fun i hi hip => by
      rw [hSg i hi]
      have := fstIdx_before (fun k => past X1 true (L.getD (O.getD k 0) pt0).x) n i (by unfold colAt at hb; omega)
      rw [past_true] at this
      simpa using this)
    (fun h => by
      rw [hSg b h]
      have := fstIdx_at (fun k => past X1 true (L.getD (O.getD k 0) pt0).x) n (by unfold colAt at hb; omega)
      unfold colAt at hb
      rw [hb, past_true] at this
      simpa using this) (fun q => decide (Y0 ≤ q.y ∧ q.y ≤ Y1))
  rw [e1, e2, two_cnt, hrc, hSP.countP_eq]
  unfold cntR
  congr 2
  funext q
  unfold inR
  rw [Bool.eq_iff_iff]
  simp
  omega
theorem cntY_le (L : List Pt) (O : List Nat) (a b : Nat) (y : Int) (at' : Bool) : cntY L O a b y at' ≤ b := by
  unfold cntY
  refine Nat.le_trans List.countP_le_length ?_
  simp only [List.length_drop, List.length_take]
  omega
attribute [local irreducible] cntR cntY colAt

set_option maxRecDepth 100000 in
set_option maxHeartbeats 2000000 in
theorem gcount_any (a : Option Addr) (cap n : Nat) (L : List Pt) (X0 Y0 X1 Y1 : Int) (w : World) (h : SlF ptL 3 w a n cap L) (h0 : 0 < n) (hn : n ≤ 150) (hN : ∀ p ∈ L, p.Near) :
    Calls Tryz.prog 44 #[.slice a n cap, .agg #[.int .i64 X0, .int .i64 Y0, .int .i64 X1, .int .i64 Y1]] w fun e w' => e = .returned (.tuple #[.int .i64 (cntR L X0 Y0 X1 Y1 : Nat), .int .i64 0]) ∧ Below w.heap.size w w' := by
  obtain ⟨m, rfl⟩ : ∃ m, n = m + 1 := ⟨n - 1, by omega⟩
  have HA := Kp.mk (below_alloc (Nat.le_refl w.heap.size) (.cells #[.int .i64 X0, .int .i64 Y0, .int .i64 X1, .int .i64 Y1] 80))
  have HBX := Kp.mk (Box.new w #[.int .i64 X0, .int .i64 Y0, .int .i64 X1, .int .i64 Y1] 80)
  have H1 := Kp.mk (SlF.below h HA.out)
  have CC := Kp.mk (gcheck_any a cap (m + 1) L _ H1.out hn hN)
  have hm0 : ¬ (m : Int) + 1 = 0 := by omega
  have hm1 : ((m : Int) + 1 == 0) = false := by simpa using hm0
  clear h hN
  go_enter Tryz.func44, Tryz.ntmps44
  go_wp2_with fail
  refine CC.out.mono ?_
  rintro e w1 ⟨rfl, HB1⟩
  have H2 := Kp.mk (SlF.below H1.out HB1.out)
  have HX1 := Kp.mk (HBX.out.below HB1.out)
  have HBB1 := Kp.mk (below_step HA.out HB1.out)
  clear CC H1 HBX HA HB1
  go_wp2_with fail
  refine (gbuild_any a cap (m + 1) L w1 H2.out hn).mono ?_
  rintro e w2 ⟨g, oa, oc, O, va, v, vc, V, wa, wc, R, rfl, HI, HF, HB2, _⟩
  have HX2 := Kp.mk (HX1.out.below HB2.out)
  have HBB2 := Kp.mk (below_step HBB1.out HB2.out)
  have x0 := (HX2.out.cell 0 rfl)
  have x1 := (HX2.out.cell 1 rfl)
  have x2 := (HX2.out.cell 2 rfl)
  have x3 := (HX2.out.cell 3 rfl)
  clear HX1 H2 HBB1 HB2
  have CO := Kp.mk (columns_any X0 Y0 X1 Y1 w2 HI.out.to0 HF.out (by omega))
  have HCE := Kp.mk (fun p b hp hb => count_eq HF.out.ord HF.out.len X0 Y0 X1 Y1 p b hp hb)
  obtain ⟨p, hp⟩ : ∃ p, colAt L O (m + 1) X0 false = p := ⟨_, rfl⟩
  obtain ⟨b, hb⟩ : ∃ b, colAt L O (m + 1) X1 true = b := ⟨_, rfl⟩
  have hpn : p ≤ m + 1 := by rw [← hp]; exact colAt_le _ _ _ _ _
  have hbn : b ≤ m + 1 := by rw [← hb]; exact colAt_le _ _ _ _ _
  have HEQ := Kp.mk (HCE.out p b hp hb)
  rw [hp, hb] at CO
  obtain ⟨q, hq⟩ : ∃ q, max p b = q := ⟨_, rfl⟩
  rw [hq] at CO HEQ
  have hpq : p ≤ q := by omega
  have hqn : q ≤ m + 1 := by omega
  clear hp hb hq HCE hpn hbn
  go_wp2_with fail
  refine CO.out.mono ?_
  rintro e w3 ⟨rfl, hb3⟩
  have HI3 := Kp.mk (HI.out.below hb3)
  have HX3 := Kp.mk (HX2.out.below hb3)
  have HBB3 := Kp.mk (below_step HBB2.out hb3)
  have r1 := later_cell (show w3.cell? ⟨w.heap.size, 1, none⟩ = some (.int .i64 Y0) from HX3.out.cell 1 rfl)
  have r3 := later_cell (show w3.cell? ⟨w.heap.size, 3, none⟩ = some (.int .i64 Y1) from HX3.out.cell 3 rfl)
  have C1 := Kp.mk (fun x : Later w3 => gbelow_any p q Y1 true x.val (HI3.out.below x.le) HF.out hn hpq hqn)
  have C2 := Kp.mk (fun x : Later w3 => gbelow_any p q Y0 false x.val (HI3.out.below x.le) HF.out hn hpq hqn)
  generalize hu1 : cntY L O p q Y1 true = u1 at *
  generalize hu2 : cntY L O p q Y0 false = u2 at *
  have hl1 : u1 ≤ 1000 := by rw [← hu1]; exact Nat.le_trans (cntY_le _ _ _ _ _ _) (by omega)
  have hl2 : u2 ≤ 1000 := by rw [← hu2]; exact Nat.le_trans (cntY_le _ _ _ _ _ _) (by omega)
  have ew : IntKind.i64.wrap ((u1 : Int) - u2) = (u1 : Int) - u2 := IntWalk.i64_in _ (by omega)
  obtain ⟨c, hc⟩ : ∃ c, c = cntR L X0 Y0 X1 Y1 := ⟨_, rfl⟩
  rw [← hc] at HEQ
  have HC := Kp.mk hc
  clear hc
  clear hu1 hu2 CO HI HX2 hb3 x0 x1 x2 x3 HBB2
  go_wp2
  refine region_later (by kernel_rfl) (by kernel_rfl) ?_
  iterate 16 (go_big_quiet_step ((go_at_call 69; first | (with_reducible exact q_later (C1.out _)) | (with_reducible exact q_later (C2.out _)))))
  refine wpQuiet_nil ?_
  rintro w' ⟨xl, rfl⟩
  have HB5 := Kp.mk (below_step HBB3.out xl.le)
  clear r1 r3 C1 C2
  go_wp2
  refine bodyPost_ret (v := .tuple #[.int .i64 (max (0 : Int) ((u1 : Int) - u2)), .int .i64 0]) (by simp [results, Tryz.results44, go_sem]) rfl ?_
  exact ⟨by rw [HEQ.out, HC.out], HB5.out⟩

end Go.Proofs.YtedchegejalolaaGreatDoor

/- Package grid: the plain facts of Report and Kth. -/
namespace Go.Proofs.YtedchegejalolaaGreatDoor
set_option linter.unusedVariables false
open Go.RowKit

/-- Whether a place of a list stands in a rectangle. -/
def inL (L : List Pt) (X0 Y0 X1 Y1 : Int) (i : Nat) : Bool := inR X0 Y0 X1 Y1 (L.getD i pt0)
theorem inL_iff (L : List Pt) (X0 Y0 X1 Y1 : Int) (i : Nat) : inL L X0 Y0 X1 Y1 i = true ↔ (X0 ≤ (L.getD i pt0).x ∧ (L.getD i pt0).x ≤ X1 ∧ Y0 ≤ (L.getD i pt0).y ∧ (L.getD i pt0).y ≤ Y1) := by
  unfold inL inR; rw [decide_eq_true_eq]
/-- What is reported: each place in the rectangle, once. -/
structure IsRep (L : List Pt) (X0 Y0 X1 Y1 : Int) (out : List Nat) : Prop where
  perm : out.Perm ((List.range L.length).filter (inL L X0 Y0 X1 Y1))
theorem IsRep.mem {L : List Pt} {X0 Y0 X1 Y1 : Int} {out : List Nat} (h : IsRep L X0 Y0 X1 Y1 out) (i : Nat) : i ∈ out ↔ (i < L.length ∧ inL L X0 Y0 X1 Y1 i = true) := by
  rw [h.perm.mem_iff, List.mem_filter, List.mem_range]
theorem IsRep.nodup {L : List Pt} {X0 Y0 X1 Y1 : Int} {out : List Nat} (h : IsRep L X0 Y0 X1 Y1 out) : out.Nodup := h.perm.nodup_iff.2 (List.nodup_range.filter _)
theorem IsRep.len {L : List Pt} {X0 Y0 X1 Y1 : Int} {out : List Nat} (h : IsRep L X0 Y0 X1 Y1 out) : out.length = cntR L X0 Y0 X1 Y1 := by
  rw [h.perm.length_eq, ← List.countP_eq_length_filter]
  unfold cntR
  conv => rhs; rw [← map_range_getD L, List.countP_map]
  rfl
theorem rep_eq {n : Nat} {L : List Pt} {O : List Nat} (hO : IsOrder L O) (hn : L.length = n) (X0 Y0 X1 Y1 : Int) (p b q : Nat) (hp : colAt L O n X0 false = p) (hb : colAt L O n X1 true = b) (hq : max p b = q) :
    IsRep L X0 Y0 X1 Y1 (((O.take q).drop p).filter (inL L X0 Y0 X1 Y1)) := by
  have hol := hO.len
  have hpn : p ≤ n := by rw [← hp]; exact colAt_le _ _ _ _ _
  have hbn : b ≤ n := by rw [← hb]; exact colAt_le _ _ _ _ _
  have e1 : O = O.take p ++ ((O.take q).drop p ++ O.drop q) := by
    have h1 := List.take_append_drop q O
    have h2 := List.take_append_drop p (O.take q)
    rw [List.take_take, Nat.min_eq_left (by omega)] at h2
    rw [← List.append_assoc, h2, h1]
  have f1 : (O.take p).filter (inL L X0 Y0 X1 Y1) = [] := by
    rw [List.filter_eq_nil_iff]
    intro i hi
    obtain ⟨k, hk, rfl⟩ := List.getElem_of_mem hi
    rw [List.length_take] at hk
    have := fstIdx_before (fun k => past X0 false (L.getD (O.getD k 0) pt0).x) n k (by unfold colAt at hp; omega)
    rw [past_false, decide_eq_false_iff_not] at this
    rw [List.getElem_take, inL_iff, ← getD_at O 0 (by omega)]
    omega
  have f2 : (O.drop q).filter (inL L X0 Y0 X1 Y1) = [] := by
    rw [List.filter_eq_nil_iff]
    intro i hi
    obtain ⟨k, hk, rfl⟩ := List.getElem_of_mem hi
    rw [List.length_drop] at hk
    have h1 := fstIdx_at (fun k => past X1 true (L.getD (O.getD k 0) pt0).x) n (by unfold colAt at hb; omega)
    unfold colAt at hb
    rw [hb, past_true, decide_eq_true_eq] at h1
    have h2 : (L.getD (O.getD b 0) pt0).x ≤ (L.getD (O.getD (q + k) 0) pt0).x := by
      rcases Nat.lt_or_ge b (q + k) with h | h
      · have := hO.up b (q + k) h (by omega)
        unfold lexLe at this; omega
      · rw [show q + k = b by omega]; exact Int.le_refl _
    rw [List.getElem_drop, inL_iff, ← getD_at O 0 (by omega)]
    omega
  have e2 : O.filter (inL L X0 Y0 X1 Y1) = ((O.take q).drop p).filter (inL L X0 Y0 X1 Y1) := by
    conv => lhs; rw [e1]
    rw [List.filter_append, List.filter_append, f1, f2, List.nil_append, List.append_nil]
  refine ⟨?_⟩
  rw [← e2]
  exact hO.perm.filter _

/-- p is the kth of those in a rectangle by their y (those of the same y in whatever order). -/
structure KthOf (L : List Pt) (X0 Y0 X1 Y1 : Int) (k p : Nat) : Prop where
  lt : p < L.length
  inn : inL L X0 Y0 X1 Y1 p = true
  lo : cntR L X0 Y0 X1 ((L.getD p pt0).y - 1) ≤ k
  hi : k < cntR L X0 Y0 X1 (L.getD p pt0).y
theorem cntR_mono (L : List Pt) (X0 Y0 X1 : Int) {u v : Int} (h : u ≤ v) : cntR L X0 Y0 X1 u ≤ cntR L X0 Y0 X1 v := by
  unfold cntR
  refine List.countP_mono_left fun p _ hp => ?_
  unfold inR at *
  rw [decide_eq_true_eq] at *
  omega
theorem KthOf.mono {L : List Pt} {X0 Y0 X1 Y1 : Int} {k k' p p' : Nat} (h : KthOf L X0 Y0 X1 Y1 k p) (h' : KthOf L X0 Y0 X1 Y1 k' p') (hk : k ≤ k') : (L.getD p pt0).y ≤ (L.getD p' pt0).y := by
  have h1 := h.lo
  have h2 := h'.hi
  apply Int.not_lt.1
  intro hc
  have := cntR_mono L X0 Y0 X1 (show (L.getD p' pt0).y ≤ (L.getD p pt0).y - 1 by omega)
  omega

end Go.Proofs.YtedchegejalolaaGreatDoor

/- Package query: what is meant: the plain facts. -/
namespace Go.Proofs.YtedchegejalolaaGreatDoor
set_option linter.unusedVariables false
open Go.RowKit

def opB (o a b : Bool) : Bool := if o = true then a || b else a && b
/-- Which points an expression means. -/
def Ex.sem (L : List Pt) : Ex → Nat → Bool
  | .inn a b c d, i => inL L a b c d i
  | .hv x, i => decide ((L.getD i pt0).w ≥ x)
  | .not p, i => !p.sem L i
  | .two o p q, i => opB o (p.sem L i) (q.sem L i)
  | .three o p q r, i => opB o (opB o (p.sem L i) (q.sem L i)) (r.sem L i)
/-- Of so many parts, taken together. -/
def accS (o : Bool) (S : Nat → Nat → Bool) : Nat → Nat → Bool
  | 0, i => S 0 i
  | j + 1, i => opB o (accS o S j i) (S (j + 1) i)
theorem Ex.sem_eq (L : List Pt) (x : Ex) : ∃ S : Nat → Nat → Bool, (∀ j (h : j < x.parts.length), S j = x.parts[j].sem L) ∧ (x.kind = 1 → x.sem L = inL L x.rx0 x.ry0 x.rx1 x.ry1) ∧ (x.kind = 2 → x.sem L = fun i => decide ((L.getD i pt0).w ≥ x.wt)) ∧ (x.kind = 5 → x.sem L = fun i => !S 0 i) ∧ (x.kind = 3 → x.sem L = accS false S (x.parts.length - 1)) ∧ (x.kind = 4 → x.sem L = accS true S (x.parts.length - 1)) := by
  cases x with
  | inn a b c d => exact ⟨fun _ _ => false, fun j h => absurd h (by simp [Ex.parts]), fun _ => rfl, fun h => absurd h (by simp [Ex.kind]), fun h => absurd h (by simp [Ex.kind]), fun h => absurd h (by simp [Ex.kind]), fun h => absurd h (by simp [Ex.kind])⟩
  | hv y => exact ⟨fun _ _ => false, fun j h => absurd h (by simp [Ex.parts]), fun h => absurd h (by simp [Ex.kind]), fun _ => rfl, fun h => absurd h (by simp [Ex.kind]), fun h => absurd h (by simp [Ex.kind]), fun h => absurd h (by simp [Ex.kind])⟩
  | not p =>
    refine ⟨fun _ => p.sem L, fun j h => ?_, fun h => absurd h (by simp [Ex.kind]), fun h => absurd h (by simp [Ex.kind]), fun _ => rfl, fun h => absurd h (by simp [Ex.kind]), fun h => absurd h (by simp [Ex.kind])⟩
    have hj : j = 0 := by have h' := h; simp [Ex.parts] at h'; exact h'
    subst hj; rfl
  | two o p q =>
    refine ⟨fun j => match j with | 0 => p.sem L | _ => q.sem L, fun j h => ?_, fun h => ?_, fun h => ?_, fun h => ?_, fun h => ?_, fun h => ?_⟩
    · rcases (show j = 0 ∨ j = 1 by simp [Ex.parts] at h; omega) with rfl | rfl <;> rfl
    · cases o <;> simp [Ex.kind, Ex.ok] at h
    · cases o <;> simp [Ex.kind, Ex.ok] at h
    · cases o <;> simp [Ex.kind, Ex.ok] at h
    · cases o
      · rfl
      · simp [Ex.kind, Ex.ok] at h
    · cases o
      · simp [Ex.kind, Ex.ok] at h
      · rfl
  | three o p q r =>
    refine ⟨fun j => match j with | 0 => p.sem L | 1 => q.sem L | _ => r.sem L, fun j h => ?_, fun h => ?_, fun h => ?_, fun h => ?_, fun h => ?_, fun h => ?_⟩
    · rcases (show j = 0 ∨ j = 1 ∨ j = 2 by simp [Ex.parts] at h; omega) with rfl | rfl | rfl <;> rfl
    · cases o <;> simp [Ex.kind, Ex.ok] at h
    · cases o <;> simp [Ex.kind, Ex.ok] at h
    · cases o <;> simp [Ex.kind, Ex.ok] at h
    · cases o
      · rfl
      · simp [Ex.kind, Ex.ok] at h
    · cases o
      · simp [Ex.kind, Ex.ok] at h
      · rfl

/-- A row of bools that tells a function. -/
structure Tells (f : Nat → Bool) (n : Nat) (T : List Bool) : Prop where
  len : T.length = n
  is_ : ∀ p, p < n → T.getD p false = f p
theorem tells_start (n : Nat) : Tells (fun _ => false) n (List.replicate n false) := ⟨by simp, fun p hp => by simp [List.getD, hp]⟩
theorem Tells.congr {f g : Nat → Bool} {n : Nat} {T : List Bool} (h : Tells f n T) (hg : ∀ p, p < n → f p = g p) : Tells g n T := ⟨h.len, fun p hp => by rw [h.is_ p hp, hg p hp]⟩
theorem Tells.set {f : Nat → Bool} {n i : Nat} {T : List Bool} (h : Tells f n T) (b : Bool) (hi : i < n) : Tells (fun p => if p = i then b else f p) n (T.set i b) := by
  refine ⟨by rw [List.length_set]; exact h.len, fun p hp => ?_⟩
  have h1 := h.is_ p hp
  simp only [List.getD, List.getElem?_set] at h1 ⊢
  by_cases e : i = p
  · subst e; simp [h.len, hp]
  · rw [if_neg e, if_neg (fun e' => e e'.symm)]; exact h1
/-- The first i are told by f, the others by g. -/
def upto (i : Nat) (f g : Nat → Bool) (p : Nat) : Bool := if p < i then f p else g p
theorem upto_step {f g : Nat → Bool} {n i : Nat} {T : List Bool} (h : Tells (upto i f g) n T) (hi : i < n) : Tells (upto (i + 1) f g) n (T.set i (f i)) :=
  (h.set (f i) hi).congr fun p hp => by
    unfold upto
    by_cases e : p = i
    · subst e; simp
    · rw [if_neg e]
      by_cases e2 : p < i
      · rw [if_pos e2, if_pos (by omega)]
      · rw [if_neg e2, if_neg (by omega)]
theorem upto_zero {f g : Nat → Bool} {n : Nat} {T : List Bool} (h : Tells g n T) : Tells (upto 0 f g) n T := h.congr fun p hp => by unfold upto; rw [if_neg (by omega)]
theorem upto_all {f g : Nat → Bool} {n : Nat} {T : List Bool} (h : Tells (upto n f g) n T) : Tells f n T := h.congr fun p hp => by unfold upto; rw [if_pos hp]
theorem upto_at (f g : Nat → Bool) (i : Nat) : upto i f g i = g i := by unfold upto; rw [if_neg (by omega)]
theorem tells_cell {f : Nat → Bool} {w : World} {B g c n p : Nat} {T : List Bool} (h : Tells f n T) (ho : w.ownsRow B 4 1 (.slice (some ⟨g, 0, none⟩) n c) n (bls T)) (hp : p < n) : w.cell? ⟨g, p, none⟩ = some (.bool (f p)) := by
  have h1 := ho.cellAt p (by rw [Nat.mul_one]; exact hp)
  rw [h1]
  have h2 := h.is_ p hp
  rw [getD_at _ _ (by rw [h.len]; exact hp)] at h2
  unfold bls
  rw [List.getElem?_map, List.getElem?_eq_getElem (by rw [h.len]; exact hp), h2]; rfl
theorem tells_mark {rep : List Nat} {i n : Nat} {T : List Bool} (h : Tells (fun p => decide (p ∈ rep.take i)) n T) (hi : i < rep.length) (hp : rep.getD i 0 < n) : Tells (fun p => decide (p ∈ rep.take (i + 1))) n (T.set (rep.getD i 0) true) :=
  (h.set true hp).congr fun p hpn => by
    rw [List.take_succ_eq_append_getElem hi, ← getD_at rep 0 hi]
    by_cases e : p = rep.getD i 0
    · rw [if_pos e]; subst e; simp
    · rw [if_neg e]
      generalize rep.getD i 0 = r at e
      simp [e]
theorem tells_rep {L : List Pt} {a b c d : Int} {rep : List Nat} {n : Nat} {T : List Bool} (hr : IsRep L a b c d rep) (hn : L.length = n) (h : Tells (fun p => decide (p ∈ rep)) n T) : Tells (inL L a b c d) n T :=
  h.congr fun p hp => by
    by_cases e : p ∈ rep
    · rw [decide_eq_true e, ((hr.mem p).1 e).2]
    · rw [decide_eq_false e]
      cases hi : inL L a b c d p with
      | false => rfl
      | true => exact absurd ((hr.mem p).2 ⟨by omega, hi⟩) e

end Go.Proofs.YtedchegejalolaaGreatDoor

/- Package grid: Report and Kth: the walks. -/
namespace Go.Proofs.YtedchegejalolaaGreatDoor
set_option linter.unusedVariables false
open Go.RowKit

set_option maxRecDepth 100000 in
set_option maxHeartbeats 2000000 in
theorem gin_any (x y z X0 Y0 X1 Y1 : Int) (w : World) :
    Calls Tryz.prog 154 #[.agg #[.int .i64 x, .int .i64 y, .int .i64 z], .agg #[.int .i64 X0, .int .i64 Y0, .int .i64 X1, .int .i64 Y1]] w fun e w' => e = .returned (.bool (inR X0 Y0 X1 Y1 ⟨x, y, z⟩)) ∧ Below w.heap.size w w' := by
  have hI : inR X0 Y0 X1 Y1 ⟨x, y, z⟩ = decide (X0 ≤ x ∧ x ≤ X1 ∧ Y0 ≤ y ∧ y ≤ Y1) := rfl
  obtain ⟨r, hr⟩ : ∃ r, inR X0 Y0 X1 Y1 ⟨x, y, z⟩ = r := ⟨_, rfl⟩
  rw [hr] at hI ⊢
  obtain ⟨w2, hw2⟩ : ∃ w2, (w.alloc (.cells #[.int .i64 x, .int .i64 y, .int .i64 z] 78)).alloc (.cells #[.int .i64 X0, .int .i64 Y0, .int .i64 X1, .int .i64 Y1] 80) = w2 := ⟨_, rfl⟩
  have HB := Kp.mk (show Below w.heap.size w w2 from by rw [← hw2]; exact below_then_alloc (below_alloc (Nat.le_refl _) _) _)
  have b1 : Box w2 w.heap.size #[.int .i64 x, .int .i64 y, .int .i64 z] 78 := by rw [← hw2]; exact (Box.new _ _ _).alloc _
  have b2 : Box w2 (w.heap.size + 1) #[.int .i64 X0, .int .i64 Y0, .int .i64 X1, .int .i64 Y1] 80 := by
    have := Box.new (w.alloc (.cells #[.int .i64 x, .int .i64 y, .int .i64 z] 78)) #[.int .i64 X0, .int .i64 Y0, .int .i64 X1, .int .i64 Y1] 80
    rw [alloc_size] at this; rw [← hw2]; exact this
  have x0 : w2.cell? ⟨w.heap.size, 0, none⟩ = some (.int .i64 x) := b1.cell 0 rfl
  have x1 : w2.cell? ⟨w.heap.size, 1, none⟩ = some (.int .i64 y) := b1.cell 1 rfl
  have y0 : w2.cell? ⟨w.heap.size + 1, 0, none⟩ = some (.int .i64 X0) := b2.cell 0 rfl
  have y1 : w2.cell? ⟨w.heap.size + 1, 1, none⟩ = some (.int .i64 Y0) := b2.cell 1 rfl
  have y2 : w2.cell? ⟨w.heap.size + 1, 2, none⟩ = some (.int .i64 X1) := b2.cell 2 rfl
  have y3 : w2.cell? ⟨w.heap.size + 1, 3, none⟩ = some (.int .i64 Y1) := b2.cell 3 rfl
  clear b1 b2
  have hor : (X0 ≤ x ∧ x ≤ X1 ∧ Y0 ≤ y ∧ y ≤ Y1 ∧ Kp (r = true)) ∨ (¬ X0 ≤ x ∧ Kp (r = false)) ∨ (X0 ≤ x ∧ ¬ x ≤ X1 ∧ Kp (r = false)) ∨ (X0 ≤ x ∧ x ≤ X1 ∧ ¬ Y0 ≤ y ∧ Kp (r = false)) ∨ (X0 ≤ x ∧ x ≤ X1 ∧ Y0 ≤ y ∧ ¬ y ≤ Y1 ∧ Kp (r = false)) := by
    by_cases h1 : X0 ≤ x <;> by_cases h2 : x ≤ X1 <;> by_cases h3 : Y0 ≤ y <;> by_cases h4 : y ≤ Y1 <;> simp [h1, h2, h3, h4] at hI ⊢ <;> exact ⟨hI⟩
  clear hr hI
  rcases hor with ⟨h1, h2, h3, h4, H⟩ | ⟨h1, H⟩ | ⟨h1, h2, H⟩ | ⟨h1, h2, h3, H⟩ | ⟨h1, h2, h3, h4, H⟩
  all_goals
    rw [H.out]
    clear H
    go_enter Tryz.func154, Tryz.ntmps154
    go_wp2
    go_ret
    exact ⟨by simp [*], HB.out⟩

set_option maxRecDepth 100000 in
set_option maxHeartbeats 2000000 in
theorem greport_any (g : Nat) (a : Option Addr) (cap n : Nat) (L : List Pt) (oa : Option Addr) (oc : Nat) (O : List Nat) (V : List Int) (R : List Nat) (vv wv : Value)
    (X0 Y0 X1 Y1 : Int) (w : World) (h : GIdx0 w g a cap n L oa oc O vv wv) (hf : GFacts n L O V R) (hn : n ≤ 150) :
    Calls Tryz.prog 124 #[.pointer (some ⟨g, 0, none⟩), .agg #[.int .i64 X0, .int .i64 Y0, .int .i64 X1, .int .i64 Y1]] w fun e w' => ∃ ra m rc out, e = .returned (.slice ra m rc) ∧ Kp (IsRep L X0 Y0 X1 Y1 out ∧ out.length = m ∧ m ≤ n) ∧ Kp (w'.ownsRow w.heap.size 3 1 (.slice ra m rc) m (ints (out.map Int.ofNat))) ∧ Kp (Below w.heap.size w w') := by
  have HA := Kp.mk (below_alloc (Nat.le_refl w.heap.size) (.cells #[.int .i64 X0, .int .i64 Y0, .int .i64 X1, .int .i64 Y1] 80))
  have HBX := Kp.mk (Box.new w #[.int .i64 X0, .int .i64 Y0, .int .i64 X1, .int .i64 Y1] 80)
  have HI := Kp.mk (h.below HA.out)
  have HF := Kp.mk hf
  have HOL := Kp.mk (show O.length = n by rw [hf.ord.len]; exact hf.len)
  have CO := Kp.mk (columns_any X0 Y0 X1 Y1 _ HI.out hf (by omega))
  have HRE := Kp.mk (fun p b q hp hb hq => rep_eq hf.ord hf.len X0 Y0 X1 Y1 p b q hp hb hq)
  obtain ⟨p, hp⟩ : ∃ p, colAt L O n X0 false = p := ⟨_, rfl⟩
  obtain ⟨b, hb⟩ : ∃ b, colAt L O n X1 true = b := ⟨_, rfl⟩
  have hpn : p ≤ n := by rw [← hp]; exact colAt_le _ _ _ _ _
  have hbn : b ≤ n := by rw [← hb]; exact colAt_le _ _ _ _ _
  obtain ⟨q, hq⟩ : ∃ q, max p b = q := ⟨_, rfl⟩
  have HREP := Kp.mk (HRE.out p b q hp hb hq)
  rw [hp, hb, hq] at CO
  have hpq : p ≤ q := by omega
  have hqn : q ≤ n := by omega
  obtain ⟨M, hM⟩ : ∃ M, M = (O.take q).drop p := ⟨_, rfl⟩
  have HML := Kp.mk (show M.length = q - p by rw [hM, List.length_drop, List.length_take, HOL.out]; omega)
  have HMG := Kp.mk (show ∀ i, i < q - p → M.getD i 0 = O.getD (p + i) 0 from fun i hi => by
    rw [getD_at M 0 (by rw [HML.out]; exact hi), getD_at O 0 (by rw [HOL.out]; omega)]
    simp only [hM, List.getElem_drop, List.getElem_take])
  rw [← hM] at HREP
  have hoc : n ≤ oc := by have := HI.out.ord.le; rw [List.length_map, HOL.out] at this; exact this
  clear h hf hp hb hq hM hbn HRE
  obtain ⟨w1, hw1⟩ : ∃ w1, w.alloc (.cells #[.int .i64 X0, .int .i64 Y0, .int .i64 X1, .int .i64 Y1] 80) = w1 := ⟨_, rfl⟩
  rw [hw1] at HA HBX HI CO
  go_enter Tryz.func124, Tryz.ntmps124
  go_upto_region 1 with (fail)
  try simp only [hw1]
  try rw [hw1]
  have x0 : w1.cell? ⟨w.heap.size, 0, none⟩ = some (.int .i64 X0) := HBX.out.cell 0 rfl
  have x1 : w1.cell? ⟨w.heap.size, 1, none⟩ = some (.int .i64 Y0) := HBX.out.cell 1 rfl
  have x2 : w1.cell? ⟨w.heap.size, 2, none⟩ = some (.int .i64 X1) := HBX.out.cell 2 rfl
  have x3 : w1.cell? ⟨w.heap.size, 3, none⟩ = some (.int .i64 Y1) := HBX.out.cell 3 rfl
  go_wp2_with fail
  refine CO.out.mono ?_
  rintro e w2 ⟨rfl, hb2⟩
  have HI2 := Kp.mk (HI.out.below hb2)
  have HX2 := Kp.mk (HBX.out.below hb2)
  have HB2 := Kp.mk (below_step HA.out hb2)
  have o2 : w2.cell? ⟨g, 1, none⟩ = some (.slice oa n oc) := HI2.out.bx.cell 1 rfl
  have hpz : (p : Int) ≤ q := by omega
  have hqc : q ≤ oc := by omega
  clear hb2 CO hw1 HA HBX HI x0 x1 x2 x3
  obtain ⟨d, hd⟩ : ∃ d, q - p = d := ⟨_, rfl⟩
  rw [hd] at HML HMG
  have HCO := Kp.mk (fun (W : World) (hW : Below w2.heap.size w2 W) (i : Nat) (hi : i < d) => show ∃ ob oo, oa = some ⟨ob, oo, none⟩ ∧ W.cell? ⟨ob, oo + (p + i), none⟩ = some (.int .i64 ((M.getD i 0 : Nat) : Int)) from by
    obtain ⟨ob, oo, e, co⟩ := (HI2.out.below hW).ord.at (p + i) (by rw [List.length_map, HOL.out]; omega)
    rw [List.getElem_map, ← getD_at O 0 (by rw [HOL.out]; omega), ← HMG.out i hi] at co
    exact ⟨ob, oo, e, co⟩)
  have HML2 := Kp.mk (show ∀ i, i < d → M.getD i 0 < n from fun i hi => by
    rw [HMG.out i hi]; have := HF.out.ord.lt (p + i) (by rw [HOL.out]; omega); rw [HF.out.len] at this; exact this)
  have HST := Kp.mk (show ∀ i, i < d → (M.take (i + 1)).filter (inL L X0 Y0 X1 Y1) = (M.take i).filter (inL L X0 Y0 X1 Y1) ++ (if inL L X0 Y0 X1 Y1 (M.getD i 0) = true then [M.getD i 0] else []) from fun i hi => by
    rw [List.take_succ_eq_append_getElem (by rw [HML.out]; exact hi), List.filter_append, getD_at M 0 (by rw [HML.out]; exact hi)]
    congr 1
    cases hf : inL L X0 Y0 X1 Y1 (M[i]'(by rw [HML.out]; exact hi)) <;> simp [hf])
  have HLL := Kp.mk (show L.length = n from HF.out.len)
  have HSZ := Kp.mk (show w.heap.size + 1 ≤ w2.heap.size from by have := HX2.out.lt; omega)
  have HRL := Kp.mk (show (M.take d).filter (inL L X0 Y0 X1 Y1) = M.filter (inL L X0 Y0 X1 Y1) from by rw [List.take_of_length_le (by rw [HML.out]; exact Nat.le_refl _)])
  obtain ⟨F, hF⟩ : ∃ F : Nat → List Nat, F = fun i => (M.take i).filter (inL L X0 Y0 X1 Y1) := ⟨_, rfl⟩
  have HF0 := Kp.mk (show F 0 = [] by rw [hF]; rfl)
  have HFS := Kp.mk (show ∀ i, i < d → F (i + 1) = F i ++ (if inR X0 Y0 X1 Y1 (L.getD (M.getD i 0) pt0) = true then [M.getD i 0] else []) from fun i hi => by rw [hF]; exact HST.out i hi)
  have HFE := Kp.mk (show IsRep L X0 Y0 X1 Y1 (F d) from by rw [hF]; rw [← HRL.out] at HREP; exact HREP.out)
  have HFL := Kp.mk (show ∀ i, (F i).length ≤ i from fun i => by rw [hF]; exact Nat.le_trans (List.length_filter_le _ _) (by rw [List.length_take]; omega))
  clear HST HRL HREP hF HMG HML
  have HCT0 := Kp.mk (fun (h : oc = p) (W : World) (hW : Below w2.heap.size w2 W) (i : Nat) (hi : i < d) => show ∃ tb tq, oa = some ⟨tb, tq, none⟩ ∧ W.cell? ⟨tb, tq + i, none⟩ = some (.int .i64 ((M.getD i 0 : Nat) : Int)) from by omega)
  have HCT1 := Kp.mk (fun (W : World) (hW : Below w2.heap.size w2 W) (i : Nat) (hi : i < d) => show ∃ tb tq, Option.map (fun x => x.add p) oa = some (⟨tb, tq, none⟩ : Addr) ∧ W.cell? ⟨tb, tq + i, none⟩ = some (.int .i64 ((M.getD i 0 : Nat) : Int)) from by
    obtain ⟨ob, oo, e, co⟩ := HCO.out W hW i hi
    exact ⟨ob, oo + p, by rw [e]; simp [add_none], by rw [Nat.add_assoc]; exact co⟩)
  clear HCO
  have hdn : d ≤ n := by omega
  go_wp2
  case' inr h =>
    have HCT := HCT1
    clear HCT1 HCT0
    generalize Option.map (fun x => x.add p) oa = ta at *
  case' inl h =>
    have HCT := Kp.mk (HCT0.out h)
    clear HCT1 HCT0
    generalize oa = ta at *
  all_goals
    clear h hd hqc hpz hoc
    obtain ⟨wo, rfl⟩ : ∃ wo : World, wo = w2 := ⟨_, rfl⟩
    go_loopw [5, 24] (fun v5 v24 wr => ∃ (i m : Nat) (ra : Option Addr) (rc : Nat), i ≤ d ∧ m ≤ i ∧ v24 = .int .i64 i ∧ v5 = .slice ra m rc ∧ Kp ((F i).length = m) ∧ Kp (wr.ownsRow wo.heap.size 3 1 (.slice ra m rc) m (ints ((F i).map Int.ofNat))) ∧ Kp (Below wo.heap.size wo wr)) (fun _ v24 _ => d - (intOf v24).toNat)
    case atStart => exact ⟨0, 0, none, 0, Nat.zero_le _, Nat.le_refl _, rfl, rfl, ⟨by rw [HF0.out]; rfl⟩, ⟨by rw [HF0.out]; exact World.ownsRow_nil _ _ _ _⟩, ⟨Below.refl _ _⟩⟩
    case round =>
      obtain ⟨i, m, ra, rc, hi, hmi, rfl, rfl, HFm, HO, HB⟩ := hrel
      by_cases hid : i < d
      · have hiz : (i : Int) < d := by omega
        obtain ⟨tb, tq, rfl, co⟩ := HCT.out wr HB.out i hid
        have hMn := HML2.out i hid
        have hfs := Kp.mk (HFS.out i hid)
        obtain ⟨pb, po, rfl, hpb, cp⟩ := (HI2.out.ps.below HB.out).at ptL_len (by omega) (M.getD i 0) (by rw [HLL.out]; exact hMn)
        rw [← getD_at L pt0 (by rw [HLL.out]; exact hMn)] at cp
        generalize M.getD i 0 = t at *
        generalize L.getD t pt0 = P at *
        obtain ⟨px, py, pw⟩ := P
        have p0 : wr.cell? ⟨pb, po + t * 3, none⟩ = some (.int .i64 px) := cp 0 (by omega)
        have p1 : wr.cell? ⟨pb, po + t * 3 + 1, none⟩ = some (.int .i64 py) := cp 1 (by omega)
        have p2 : wr.cell? ⟨pb, po + t * 3 + 2, none⟩ = some (.int .i64 pw) := cp 2 (by omega)
        have hX := HX2.out.below HB.out
        have x0 : wr.cell? ⟨w.heap.size, 0, none⟩ = some (.int .i64 X0) := hX.cell 0 rfl
        have x1 : wr.cell? ⟨w.heap.size, 1, none⟩ = some (.int .i64 Y0) := hX.cell 1 rfl
        have x2 : wr.cell? ⟨w.heap.size, 2, none⟩ = some (.int .i64 X1) := hX.cell 2 rfl
        have x3 : wr.cell? ⟨w.heap.size, 3, none⟩ = some (.int .i64 Y1) := hX.cell 3 rfl
        have g0 : wr.cell? ⟨g, 0, none⟩ = some (.slice (some ⟨pb, po, none⟩) n cap) := (HI2.out.bx.below HB.out).cell 0 rfl
        have htz : (t : Int) < n := by omega
        clear cp hpb hX
        have y0 := later_cell p0
        have y1 := later_cell p1
        have y2 := later_cell p2
        have y3 := later_cell x0
        have y4 := later_cell x1
        have y5 := later_cell x2
        have y6 := later_cell x3
        have y7 := later_cell g0
        have CI := Kp.mk (fun W => gin_any px py pw X0 Y0 X1 Y1 W)
        have hfs2 := hfs
        clear hfs
        go_wp2
        refine region_later (by kernel_rfl) (by kernel_rfl) ?_
        iterate 9 (go_big_quiet_step ((go_at_call 154; with_reducible exact q_later (CI.out _))))
        refine wpQuiet_nil ?_
        rintro w' ⟨xl, rfl⟩
        have HBx := Kp.mk (HB.out.trans (xl.le.mono HB.out.size))
        have HOx := Kp.mk (own_below HO.out xl.le)
        generalize xl.val = w' at *
        clear y0 y1 y2 y3 y4 y5 y6 y7 p0 p1 p2 x0 x1 x2 x3 g0 CI HB HO co
        have HFL2 := Kp.mk (show (F (i + 1)).length = m + (if inR X0 Y0 X1 Y1 ⟨px, py, pw⟩ = true then 1 else 0) from by
          rw [hfs2.out, List.length_append, HFm.out]; split <;> rfl)
        have HINR := Kp.mk (show inR X0 Y0 X1 Y1 ⟨px, py, pw⟩ = true ∨ inR X0 Y0 X1 Y1 ⟨px, py, pw⟩ = false from by cases inR X0 Y0 X1 Y1 ⟨px, py, pw⟩ <;> simp)
        generalize inR X0 Y0 X1 Y1 ⟨px, py, pw⟩ = r at *
        rcases HINR.out with rfl | rfl
        · have HFX := Kp.mk (show F (i + 1) = F i ++ [t] by rw [hfs2.out]; rfl)
          have HFM := Kp.mk (show (F (i + 1)).length = m + 1 from HFL2.out)
          clear hfs2 HFL2 HINR
          have hBw := HBx.out.size
          go_wp2_with (at_builtin; refine wpList_push tInts (by rfl) _ _ (by rfl) wo.heap.size ra m rc _ (by rfl) HOx.out 1 1 _ (by rfl) (by rfl) ?d1 (by decide) ?d2 (by decide) hBw ?d4)
          case d1 => simp [Value.oneCell']
          case d2 => omega
          case d4 =>
            intro sa2 sc2 w4 ho4 hb4
            have HO4 := Kp.mk (show w4.ownsRow wo.heap.size 3 1 (.slice sa2 (m + 1) sc2) (m + 1) (ints ((F (i + 1)).map Int.ofNat)) from by
              rw [HFX.out, List.map_append, ints_append]; exact ho4)
            have HB4 := Kp.mk (HBx.out.trans hb4)
            clear ho4 hb4
            go_wp2
            go_roundw
            case rel => exact ⟨i + 1, m + 1, sa2, sc2, by omega, by omega, by go_num, rfl, HFM, HO4, HB4⟩
            case measure => simp [intOf]; omega
        · have HFX := Kp.mk (show F (i + 1) = F i by rw [hfs2.out]; simp)
          have HFM := Kp.mk (show (F (i + 1)).length = m from HFL2.out)
          rw [← HFX.out] at HOx
          clear hfs2 HFL2 HINR HFX
          go_wp2
          go_roundw
          case rel => exact ⟨i + 1, m, ra, rc, by omega, by omega, by go_num, rfl, HFM, HOx, HBx⟩
          case measure => simp [intOf]; omega
      · obtain rfl : d = i := by omega
        go_wp2
        go_ret
        exact ⟨ra, m, rc, F d, rfl, ⟨HFE.out, HFm.out, by omega⟩, ⟨own_base HO.out (by have := HSZ.out; omega)⟩, ⟨below_step HB2.out HB.out⟩⟩

end Go.Proofs.YtedchegejalolaaGreatDoor

