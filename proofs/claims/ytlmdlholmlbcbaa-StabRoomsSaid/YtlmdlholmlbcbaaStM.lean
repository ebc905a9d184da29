/- Spans: the most that have one number; rooms: in plain Lean. -/
import Derived.Test.YtlmdlholmlbcbaaStG
namespace Go.Proofs.Ytlmdlholmlbcbaa
set_option linter.unusedVariables false
open Go.RowKit

theorem mem_hitK (L : List Spn) (x : Int) (n j : Nat) : j ∈ hitK L x n ↔ j < n ∧ (L.getD j sp0).lo ≤ x ∧ x ≤ (L.getD j sp0).hi := by
  unfold hitK
  rw [List.mem_filter, List.mem_range, decide_eq_true_eq]
def cLo (L : List Spn) (x : Int) : Nat := L.countP fun s => decide (s.lo ≤ x)
def cHi (L : List Spn) (x : Int) : Nat := L.countP fun s => decide (s.hi < x)
theorem hit_split (L : List Spn) (x : Int) (hO : ∀ s ∈ L, s.lo ≤ s.hi) : (hitK L x L.length).length + cHi L x = cLo L x := by
  rw [hitK_count]
  unfold cHi cLo
  induction L with
  | nil => rfl
  | cons s L ih =>
    have h := ih (fun s hs => hO s (List.mem_cons_of_mem _ hs))
    have h1 := hO s List.mem_cons_self
    rw [List.countP_cons, List.countP_cons, List.countP_cons]
    simp only [decide_eq_true_eq]
    split <;> split <;> split <;> omega
theorem map_getD (L : List Spn) : L = (List.range L.length).map fun i => L.getD i sp0 := by
  apply List.ext_getElem
  · simp
  · intro i h1 h2
    rw [List.getElem_map, List.getElem_range, getD_at _ _ h1]
theorem count_perm (L : List Spn) (M : List Nat) (h : M.Perm (List.range L.length)) (p : Spn → Bool) : L.countP p = M.countP fun i => p (L.getD i sp0) := by
  rw [h.countP_eq]
  conv => lhs; rw [map_getD L]
  rw [List.countP_map]; rfl
theorem count_cut (M : List Nat) (p : Nat → Bool) (q : Nat) (hq : q ≤ M.length) (h1 : ∀ j, j < q → p (M.getD j 0) = true) (h2 : ∀ j, q ≤ j → j < M.length → p (M.getD j 0) = false) : M.countP p = q := by
  have e : M.countP p = (M.take q).countP p + (M.drop q).countP p := by
    rw [← List.countP_append, List.take_append_drop]
  have e1 : (M.take q).countP p = (M.take q).length := by
    rw [List.countP_eq_length]
    intro x hx
    obtain ⟨j, hj, rfl⟩ := List.getElem_of_mem hx
    rw [List.length_take] at hj
    rw [List.getElem_take]
    have := h1 j (by omega)
    rwa [getD_at _ _ (by omega : j < M.length)] at this
  have e2 : (M.drop q).countP p = 0 := by
    rw [List.countP_eq_zero]
    intro x hx
    obtain ⟨j, hj, rfl⟩ := List.getElem_of_mem hx
    rw [List.length_drop] at hj
    rw [List.getElem_drop]
    have := h2 (q + j) (by omega) (by omega)
    rw [getD_at _ _ (by omega : q + j < M.length)] at this
    rw [this]; simp
  rw [e, e1, e2, List.length_take]; omega
theorem cut_is (M : List Nat) (p : Nat → Bool) (hp : ∀ i j, i ≤ j → j < M.length → p (M.getD j 0) = true → p (M.getD i 0) = true) : ∃ q, q ≤ M.length ∧ (∀ j, j < q → p (M.getD j 0) = true) ∧ ∀ j, q ≤ j → j < M.length → p (M.getD j 0) = false := by
  have key : ∀ n, n ≤ M.length → ∃ q, q ≤ n ∧ (∀ j, j < q → p (M.getD j 0) = true) ∧ ∀ j, q ≤ j → j < n → p (M.getD j 0) = false := by
    intro n
    induction n with
    | zero => intro _; exact ⟨0, Nat.le_refl _, fun j h => by omega, fun j _ h => by omega⟩
    | succ n ih =>
      intro hn
      obtain ⟨q, h1, h2, h3⟩ := ih (by omega)
      cases hpn : p (M.getD n 0) with
      | false =>
        refine ⟨q, by omega, h2, fun j h4 h5 => ?_⟩
        by_cases e : j = n
        · subst e; exact hpn
        · exact h3 j h4 (by omega)
      | true =>
        have : q = n := by
          by_cases e : q = n
          · exact e
          · have := hp q n (by omega) (by omega) hpn
            rw [h3 q (Nat.le_refl _) (by omega)] at this
            cases this
        subst this
        refine ⟨q + 1, Nat.le_refl _, fun j h4 => ?_, fun j h4 h5 => by omega⟩
        by_cases e : j = q
        · subst e; exact hpn
        · exact h2 j (by omega)
  exact key M.length (Nat.le_refl _)
/-- What Most tells. -/
structure IsMost (L : List Spn) (n : Nat) (many : Nat) (at' : Int) : Prop where
  here : (hitK L at' n).length = many
  all : ∀ i, i < n → (hitK L (L.getD i sp0).lo n).length ≤ many
  some : ∃ i, i < n ∧ at' = (L.getD i sp0).lo
theorem most_law {L : List Spn} {n : Nat} {M : List Nat} (hL : L.length = n) (hO : ∀ s ∈ L, s.lo ≤ s.hi) (hM : M.Perm (List.range n)) (hU : Up (fun i => (L.getD i sp0).lo) M) (many : Nat) (at' : Int)
    (ha : ∀ k, k < n → k + 1 ≤ many + cHi L (L.getD (M.getD k 0) sp0).lo) (hb : ∃ k, k < n ∧ many + cHi L (L.getD (M.getD k 0) sp0).lo = k + 1 ∧ at' = (L.getD (M.getD k 0) sp0).lo) : IsMost L n many at' := by
  subst hL
  have hl : M.length = L.length := by have := hM.length_eq; rwa [List.length_range] at this
  have hlt : ∀ k, k < L.length → M.getD k 0 < L.length := fun k hk => by
    rw [getD_at _ _ (by omega)]; exact List.mem_range.1 (hM.mem_iff.1 (List.getElem_mem _))
  have hall : ∀ i, i < L.length → (hitK L (L.getD i sp0).lo L.length).length ≤ many := by
    intro i hi
    obtain ⟨q, q1, q2, q3⟩ := cut_is M (fun j => decide ((L.getD j sp0).lo ≤ (L.getD i sp0).lo)) (fun a b hab hb h => by
      have := up_at hU a b hab hb
      simp only [decide_eq_true_eq] at h ⊢
      omega)
    have hc := count_cut M (fun j => decide ((L.getD j sp0).lo ≤ (L.getD i sp0).lo)) q q1 q2 q3
    have hc2 : cLo L (L.getD i sp0).lo = q := by unfold cLo; rw [count_perm L M hM]; exact hc
    have him : i ∈ M := hM.mem_iff.2 (List.mem_range.2 hi)
    obtain ⟨j, hj, hji⟩ := List.getElem_of_mem him
    have hjq : j < q := by
      by_cases h : j < q
      · exact h
      · have := q3 j (by omega) hj
        rw [getD_at _ _ hj, hji] at this
        simp at this
    have e1 := q2 (q - 1) (by omega)
    have e2 := up_at hU j (q - 1) (by omega) (by omega)
    rw [getD_at M 0 hj, hji] at e2
    simp only [decide_eq_true_eq] at e1
    have h1 := ha (q - 1) (by omega)
    rw [show (L.getD (M.getD (q - 1) 0) sp0).lo = (L.getD i sp0).lo by omega] at h1
    have h2 := hit_split L (L.getD i sp0).lo hO
    omega
  obtain ⟨k, hk, h1, rfl⟩ := hb
  refine ⟨?_, hall, _, hlt k hk, rfl⟩
  have h2 := hit_split L (L.getD (M.getD k 0) sp0).lo hO
  have h3 := hall _ (hlt k hk)
  have h4 : k + 1 ≤ cLo L (L.getD (M.getD k 0) sp0).lo := by
    unfold cLo
    rw [count_perm L M hM]
    obtain ⟨q, q1, q2, q3⟩ := cut_is M (fun j => decide ((L.getD j sp0).lo ≤ (L.getD (M.getD k 0) sp0).lo)) (fun a b hab hb h => by
      have := up_at hU a b hab hb
      simp only [decide_eq_true_eq] at h ⊢
      omega)
    rw [count_cut M _ q q1 q2 q3]
    by_cases h : k < q
    · exact h
    · have := q3 k (by omega) (by omega)
      simp at this
  omega
/-- One nail is enough. -/
theorem helly_most {L : List Spn} {n many : Nat} {at' c : Int} (h : IsMost L n many at') (hL : L.length = n) (hc : ∀ s ∈ L, s.lo ≤ c ∧ c ≤ s.hi) (hm : (⟨c, c⟩ : Spn) ∈ L) : many = n ∧ at' = c := by
  subst hL
  obtain ⟨i, hi, e⟩ := List.getElem_of_mem hm
  have h1 := h.all i hi
  rw [getD_at _ _ hi, e] at h1
  have full : ∀ x, (∀ s ∈ L, s.lo ≤ x ∧ x ≤ s.hi) → (hitK L x L.length).length = L.length := by
    intro x hx
    rw [hitK_count, List.countP_eq_length]
    intro s hs
    exact decide_eq_true (hx s hs)
  have h2 := full c hc
  have h3 := hitK_le L at' L.length
  rw [h.here] at h3
  have hmany : many = L.length := by dsimp only at h1; omega
  refine ⟨hmany, ?_⟩
  have h4 := h.here
  rw [hmany, hitK_count, List.countP_eq_length] at h4
  have h5 := h4 _ hm
  simp only [decide_eq_true_eq] at h5
  omega

/-- What Rooms has after the first k of the places M. -/
structure RInv (L : List Spn) (M : List Nat) (n k : Nat) (out : List Nat) (E : List Int) : Prop where
  len : out.length = n
  lt : ∀ x ∈ M.take k, out.getD x 0 < E.length
  le : ∀ x ∈ M.take k, (L.getD x sp0).hi ≤ E.getD (out.getD x 0) 0
  own : ∀ r, r < E.length → ∃ x ∈ M.take k, out.getD x 0 = r ∧ (L.getD x sp0).hi = E.getD r 0
  apart : ∀ x ∈ M.take k, ∀ y ∈ M.take k, x ≠ y → out.getD x 0 = out.getD y 0 → (L.getD x sp0).hi < (L.getD y sp0).lo ∨ (L.getD y sp0).hi < (L.getD x sp0).lo
  few : E.length = 0 ∨ ∃ x, x < n ∧ E.length ≤ (hitK L (L.getD x sp0).lo n).length
theorem rinv_zero (L : List Spn) (M : List Nat) (n : Nat) : RInv L M n 0 (List.replicate n 0) [] :=
  ⟨by simp, by simp, by simp, by simp, by simp, .inl rfl⟩
theorem getD_set (l : List Nat) (i j v : Nat) (h : i < l.length) : (l.set i v).getD j 0 = if i = j then v else l.getD j 0 := by
  simp only [List.getD, List.getElem?_set]
  split
  · rename_i e; subst e; rfl
  · rfl
theorem getDI_set (l : List Int) (i j : Nat) (v : Int) (h : i < l.length) : (l.set i v).getD j 0 = if i = j then v else l.getD j 0 := by
  simp only [List.getD, List.getElem?_set]
  split
  · rename_i e; subst e; rfl
  · rfl
theorem rinv_step {L : List Spn} {M out : List Nat} {E : List Int} {n k i r : Nat} (hk : k < M.length) (hi : M.getD k 0 = i) (hM : M.Perm (List.range n)) (h : RInv L M n k out E) (hr : r < E.length) (hE : E.getD r 0 < (L.getD i sp0).lo) (hO : (L.getD i sp0).lo ≤ (L.getD i sp0).hi) :
    RInv L M n (k + 1) (out.set i r) (E.set r (L.getD i sp0).hi) := by
  have hn : i < n := by rw [← hi, getD_at _ _ hk]; exact List.mem_range.1 (hM.mem_iff.1 (List.getElem_mem _))
  have ht := take_one M k hk
  rw [hi] at ht
  have hnd : M.Nodup := hM.nodup_iff.2 List.nodup_range
  have hni : ∀ x ∈ M.take k, x ≠ i := fun x hx e => by
    subst e
    have h1 : (M.take (k + 1)).Nodup := hnd.sublist (List.take_sublist _ _)
    rw [ht] at h1
    exact (List.nodup_append.1 h1).2.2 x hx x (List.mem_singleton.2 rfl) rfl
  have hio : i < out.length := by rw [h.len]; exact hn
  have old : ∀ x ∈ M.take k, (out.set i r).getD x 0 = out.getD x 0 := fun x hx => by
    rw [getD_set _ _ _ _ hio, if_neg (fun e => hni x hx e.symm)]
  have new : (out.set i r).getD i 0 = r := by rw [getD_set _ _ _ _ hio, if_pos rfl]
  have dis : ∀ x ∈ M.take k, out.getD x 0 = r → (L.getD x sp0).hi < (L.getD i sp0).lo := fun x hx e => by
    have := h.le x hx; rw [e] at this; omega
  have hm1 : ∀ {x}, x ∈ M.take (k + 1) → x ∈ M.take k ++ [i] := fun h => by rw [ht] at h; exact h
  have hm2 : ∀ {x}, x ∈ M.take k ++ [i] → x ∈ M.take (k + 1) := fun h => by rw [ht]; exact h
  refine ⟨by rw [List.length_set]; exact h.len, fun x hx => ?_, fun x hx => ?_, fun q hq => ?_, fun x hx y hy hne he => ?_, ?_⟩
  · rw [List.length_set]
    rcases List.mem_append.1 (hm1 hx) with hx | hx
    · rw [old x hx]; exact h.lt x hx
    · rw [List.mem_singleton.1 hx, new]; exact hr
  · rcases List.mem_append.1 (hm1 hx) with hx | hx
    · rw [old x hx, getDI_set _ _ _ _ hr]
      split
      · rename_i e; have := dis x hx e.symm; omega
      · exact h.le x hx
    · rw [List.mem_singleton.1 hx, new, getDI_set _ _ _ _ hr, if_pos rfl]; exact Int.le_refl _
  · rw [List.length_set] at hq
    by_cases e : r = q
    · subst e
      exact ⟨i, hm2 (List.mem_append_right _ (List.mem_singleton.2 rfl)), new, by rw [getDI_set _ _ _ _ hr, if_pos rfl]⟩
    · obtain ⟨x, hx, h1, h2⟩ := h.own q hq
      exact ⟨x, hm2 (List.mem_append_left _ hx), by rw [old x hx]; exact h1, by rw [getDI_set _ _ _ _ hr, if_neg e]; exact h2⟩
  · rcases List.mem_append.1 (hm1 hx) with hx | hx <;> rcases List.mem_append.1 (hm1 hy) with hy | hy
    · rw [old x hx, old y hy] at he; exact h.apart x hx y hy hne he
    · rw [List.mem_singleton.1 hy] at he ⊢
      rw [old x hx, new] at he
      exact .inl (dis x hx he)
    · rw [List.mem_singleton.1 hx] at he ⊢
      rw [old y hy, new] at he
      exact .inr (dis y hy he.symm)
    · rw [List.mem_singleton.1 hx, List.mem_singleton.1 hy] at hne; exact absurd rfl hne
  · rw [List.length_set]; exact h.few
theorem rinv_new {L : List Spn} {M out : List Nat} {E : List Int} {n k i : Nat} (hk : k < M.length) (hi : M.getD k 0 = i) (hM : M.Perm (List.range n)) (hU : Up (fun i => (L.getD i sp0).lo) M) (h : RInv L M n k out E) (hE : ∀ r, r < E.length → ¬ E.getD r 0 < (L.getD i sp0).lo) (hO : (L.getD i sp0).lo ≤ (L.getD i sp0).hi) :
    RInv L M n (k + 1) (out.set i E.length) (E ++ [(L.getD i sp0).hi]) := by
  have hn : i < n := by rw [← hi, getD_at _ _ hk]; exact List.mem_range.1 (hM.mem_iff.1 (List.getElem_mem _))
  have ht := take_one M k hk
  rw [hi] at ht
  have hnd : M.Nodup := hM.nodup_iff.2 List.nodup_range
  have hni : ∀ x ∈ M.take k, x ≠ i := fun x hx e => by
    subst e
    have h1 : (M.take (k + 1)).Nodup := hnd.sublist (List.take_sublist _ _)
    rw [ht] at h1
    exact (List.nodup_append.1 h1).2.2 x hx x (List.mem_singleton.2 rfl) rfl
  have hio : i < out.length := by rw [h.len]; exact hn
  have old : ∀ x ∈ M.take k, (out.set i E.length).getD x 0 = out.getD x 0 := fun x hx => by
    rw [getD_set _ _ _ _ hio, if_neg (fun e => hni x hx e.symm)]
  have new : (out.set i E.length).getD i 0 = E.length := by rw [getD_set _ _ _ _ hio, if_pos rfl]
  have gl : ∀ q, q < E.length → (E ++ [(L.getD i sp0).hi]).getD q 0 = E.getD q 0 := fun q hq => by
    simp only [List.getD, List.getElem?_append_left hq]
  have gr : (E ++ [(L.getD i sp0).hi]).getD E.length 0 = (L.getD i sp0).hi := by simp [List.getD]
  have hlo : ∀ x ∈ M.take k, (L.getD x sp0).lo ≤ (L.getD i sp0).lo := fun x hx => by
    obtain ⟨q, hq, e⟩ := List.getElem_of_mem hx
    rw [List.length_take] at hq
    rw [List.getElem_take] at e
    have := up_at hU q k (by omega) hk
    rw [getD_at M 0 (by omega : q < M.length), e, hi] at this
    exact this
  have hxn : ∀ x ∈ M.take k, x < n := fun x hx => List.mem_range.1 (hM.mem_iff.1 (List.mem_of_mem_take hx))
  have hfew : E.length + 1 ≤ (hitK L (L.getD i sp0).lo n).length := by
    have key : ∀ r, ∃ x, r < E.length → x ∈ M.take k ∧ out.getD x 0 = r ∧ (L.getD x sp0).hi = E.getD r 0 := fun r => by
      by_cases hr : r < E.length
      · obtain ⟨x, h1, h2, h3⟩ := h.own r hr
        exact ⟨x, fun _ => ⟨h1, h2, h3⟩⟩
      · exact ⟨0, fun h => absurd h hr⟩
    obtain ⟨f, hf⟩ := Classical.skolem.1 key
    have h1 : (i :: (List.range E.length).map f).Nodup := by
      refine List.nodup_cons.2 ⟨fun hx => ?_, ?_⟩
      · obtain ⟨r, hr, e⟩ := List.mem_map.1 hx
        have := hf r (List.mem_range.1 hr)
        exact hni _ this.1 e
      · refine List.pairwise_map.2 (List.nodup_range.imp_of_mem ?_)
        intro a b ha hb hab e
        have h1 := (hf a (List.mem_range.1 ha)).2.1
        have h2 := (hf b (List.mem_range.1 hb)).2.1
        rw [e] at h1
        exact hab (h1.symm.trans h2)
    have h2 := List.Nodup.length_le_of_subset h1 (l₂ := hitK L (L.getD i sp0).lo n) (fun x hx => by
      rw [mem_hitK]
      rcases List.mem_cons.1 hx with rfl | hx
      · exact ⟨hn, Int.le_refl _, hO⟩
      · obtain ⟨r, hr, rfl⟩ := List.mem_map.1 hx
        have hr := List.mem_range.1 hr
        obtain ⟨a1, a2, a3⟩ := hf r hr
        have := hE r hr
        exact ⟨hxn _ a1, hlo _ a1, by omega⟩)
    simpa using h2
  have hm1 : ∀ {x}, x ∈ M.take (k + 1) → x ∈ M.take k ++ [i] := fun h => by rw [ht] at h; exact h
  have hm2 : ∀ {x}, x ∈ M.take k ++ [i] → x ∈ M.take (k + 1) := fun h => by rw [ht]; exact h
  refine ⟨by rw [List.length_set]; exact h.len, fun x hx => ?_, fun x hx => ?_, fun q hq => ?_, fun x hx y hy hne he => ?_, .inr ⟨i, hn, by simpa using hfew⟩⟩
  · rw [List.length_append, List.length_singleton]
    rcases List.mem_append.1 (hm1 hx) with hx | hx
    · rw [old x hx]; have := h.lt x hx; omega
    · rw [List.mem_singleton.1 hx, new]; omega
  · rcases List.mem_append.1 (hm1 hx) with hx | hx
    · rw [old x hx, gl _ (h.lt x hx)]; exact h.le x hx
    · rw [List.mem_singleton.1 hx, new, gr]; exact Int.le_refl _
  · rw [List.length_append, List.length_singleton] at hq
    by_cases e : q = E.length
    · subst e
      exact ⟨i, hm2 (List.mem_append_right _ (List.mem_singleton.2 rfl)), new, gr.symm⟩
    · obtain ⟨x, hx, h1, h2⟩ := h.own q (by omega)
      exact ⟨x, hm2 (List.mem_append_left _ hx), by rw [old x hx]; exact h1, by rw [gl q (by omega)]; exact h2⟩
  · rcases List.mem_append.1 (hm1 hx) with hx | hx <;> rcases List.mem_append.1 (hm1 hy) with hy | hy
    · rw [old x hx, old y hy] at he; exact h.apart x hx y hy hne he
    · rw [List.mem_singleton.1 hy] at he
      rw [old x hx, new] at he
      have := h.lt x hx; omega
    · rw [List.mem_singleton.1 hx] at he
      rw [old y hy, new] at he
      have := h.lt y hy; omega
    · rw [List.mem_singleton.1 hx, List.mem_singleton.1 hy] at hne; exact absurd rfl hne
/-- What Rooms tells. -/
structure IsRooms (L : List Spn) (n : Nat) (out : List Nat) : Prop where
  len : out.length = n
  few : ∃ x, x < n ∧ ∀ i, i < n → out.getD i 0 < (hitK L (L.getD x sp0).lo n).length
  apart : ∀ i j, i < n → j < n → i ≠ j → out.getD i 0 = out.getD j 0 → (L.getD i sp0).hi < (L.getD j sp0).lo ∨ (L.getD j sp0).hi < (L.getD i sp0).lo
theorem rooms_law {L : List Spn} {M out : List Nat} {E : List Int} {n : Nat} (h0 : 0 < n) (hM : M.Perm (List.range n)) (h : RInv L M n n out E) : IsRooms L n out := by
  have hl : M.length = n := by have := hM.length_eq; rwa [List.length_range] at this
  have hin : ∀ i, i < n → i ∈ M.take n := fun i hi => by
    rw [List.take_of_length_le (by omega)]; exact hM.mem_iff.2 (List.mem_range.2 hi)
  refine ⟨h.len, ?_, fun i j hi hj => h.apart i (hin i hi) j (hin j hj)⟩
  rcases h.few with e | ⟨x, hx, hle⟩
  · have := h.lt 0 (hin 0 h0); omega
  · exact ⟨x, hx, fun i hi => by have := h.lt i (hin i hi); omega⟩

end Go.Proofs.Ytlmdlholmlbcbaa
