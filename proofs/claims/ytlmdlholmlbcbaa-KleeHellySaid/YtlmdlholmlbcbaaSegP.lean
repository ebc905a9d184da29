/- Plain facts on trees of ranges: what a tree stands for, and how an operation turns it. -/
import Derived.Test.YtlmdlholmlbcbaaKeep
namespace Go.Proofs.Ytlmdlholmlbcbaa
set_option linter.unusedVariables false

/-- An operation on places lo to hi: 1: add amt; 2: set to amt; 3, 4: ask. -/
structure SOp where
  kind : Nat
  lo : Nat
  hi : Nat
  amt : Int
def SOp.act (o : SOp) (x : Int) : Int := if o.kind = 1 then x + o.amt else if o.kind = 2 then o.amt else x
def SOp.inn (o : SOp) (i : Nat) : Bool := decide (o.lo ≤ i ∧ i ≤ o.hi)
/-- The list behind an operation; its first number stands at place i. -/
def upd (o : SOp) : Nat → List Int → List Int
  | _, [] => []
  | i, x :: D => (if o.inn i = true then o.act x else x) :: upd o (i + 1) D
/-- The numbers on which the operation is. -/
def sub (o : SOp) : Nat → List Int → List Int
  | _, [] => []
  | i, x :: D => if o.inn i = true then x :: sub o (i + 1) D else sub o (i + 1) D
theorem upd_length (o : SOp) (D : List Int) (i : Nat) : (upd o i D).length = D.length := by
  induction D generalizing i with
  | nil => rfl
  | cons x D ih => simp [upd, ih]
theorem upd_append (o : SOp) (A B : List Int) (i : Nat) : upd o i (A ++ B) = upd o i A ++ upd o (i + A.length) B := by
  induction A generalizing i with
  | nil => rfl
  | cons x A ih => simp only [List.cons_append, upd, ih, List.length_cons]; rw [show i + 1 + A.length = i + (A.length + 1) by omega]
theorem sub_append (o : SOp) (A B : List Int) (i : Nat) : sub o i (A ++ B) = sub o i A ++ sub o (i + A.length) B := by
  induction A generalizing i with
  | nil => rfl
  | cons x A ih =>
    simp only [List.cons_append, sub, ih, List.length_cons]
    rw [show i + 1 + A.length = i + (A.length + 1) by omega]
    split <;> rfl
theorem inn_no {o : SOp} {i : Nat} (h : ¬ (o.lo ≤ i ∧ i ≤ o.hi)) : o.inn i = false := decide_eq_false h
theorem inn_yes {o : SOp} {i : Nat} (h : o.lo ≤ i ∧ i ≤ o.hi) : o.inn i = true := decide_eq_true h
theorem upd_out (o : SOp) (D : List Int) (i : Nat) (h : o.hi < i ∨ i + D.length ≤ o.lo) : upd o i D = D ∧ sub o i D = [] := by
  induction D generalizing i with
  | nil => exact ⟨rfl, rfl⟩
  | cons x D ih =>
    have h1 := ih (i + 1) (by simp at h; omega)
    have h2 : o.inn i = false := inn_no (by simp at h; omega)
    simp [upd, sub, h2, h1.1, h1.2]
theorem upd_all (o : SOp) (D : List Int) (i : Nat) (h : o.lo ≤ i ∧ i + D.length ≤ o.hi + 1) : upd o i D = D.map o.act ∧ sub o i D = D := by
  induction D generalizing i with
  | nil => exact ⟨rfl, rfl⟩
  | cons x D ih =>
    simp at h
    have h1 := ih (i + 1) (by omega)
    have h2 : o.inn i = true := inn_yes (by omega)
    simp [upd, sub, h2, h1.1, h1.2]
theorem sub_upd_ask (o : SOp) (h : o.kind ≠ 1 ∧ o.kind ≠ 2) (D : List Int) (i : Nat) : upd o i D = D := by
  induction D generalizing i with
  | nil => rfl
  | cons x D ih => simp [upd, ih, SOp.act, h.1, h.2]

/-- The least of a list. -/
def minL : List Int → Int
  | [] => 0
  | [x] => x
  | x :: y :: D => min x (minL (y :: D))
theorem minL_cons (x : Int) {D : List Int} (h : D ≠ []) : minL (x :: D) = min x (minL D) := by
  cases D with
  | nil => exact absurd rfl h
  | cons y D => rfl
theorem minL_append {A B : List Int} (ha : A ≠ []) (hb : B ≠ []) : minL (A ++ B) = min (minL A) (minL B) := by
  induction A with
  | nil => exact absurd rfl ha
  | cons x A ih =>
    by_cases h : A = []
    · subst h; exact minL_cons x hb
    · rw [List.cons_append, minL_cons x (by simp [h]), ih h, minL_cons x h]; omega
theorem minL_add {D : List Int} (a : Int) (h : D ≠ []) : minL (D.map fun x => x + a) = minL D + a := by
  induction D with
  | nil => exact absurd rfl h
  | cons x D ih =>
    by_cases hd : D = []
    · subst hd; rfl
    · rw [List.map_cons, minL_cons _ (by simp [hd]), ih hd, minL_cons _ hd]; omega
theorem minL_const {D : List Int} (a : Int) (h : D ≠ []) : minL (D.map fun _ => a) = a := by
  induction D with
  | nil => exact absurd rfl h
  | cons x D ih =>
    by_cases hd : D = []
    · subst hd; rfl
    · rw [List.map_cons, minL_cons _ (by simp [hd]), ih hd]; omega
theorem minL_mem {D : List Int} (h : D ≠ []) : minL D ∈ D := by
  induction D with
  | nil => exact absurd rfl h
  | cons x D ih =>
    by_cases hd : D = []
    · subst hd; simp [minL]
    · rw [minL_cons _ hd]
      have := ih hd
      rcases Int.le_total x (minL D) with h1 | h1
      · rw [Int.min_eq_left h1]; simp
      · rw [Int.min_eq_right h1]; simp [this]
theorem sum_add (D : List Int) (a : Int) : (D.map fun x => x + a).sum = D.sum + a * D.length := by
  induction D with
  | nil => simp
  | cons x D ih => simp only [List.map_cons, List.sum_cons, ih, List.length_cons, Int.natCast_add, Int.mul_add]; omega
theorem sum_const (D : List Int) (a : Int) : (D.map fun _ => a).sum = a * D.length := by
  induction D with
  | nil => simp
  | cons x D ih => simp only [List.map_cons, List.sum_cons, ih, List.length_cons, Int.natCast_add, Int.mul_add]; omega
theorem sum_bd {D : List Int} {M : Nat} (h : ∀ x ∈ D, x.natAbs ≤ M) : D.sum.natAbs ≤ M * D.length := by
  induction D with
  | nil => simp
  | cons x D ih =>
    have h1 := h x (List.mem_cons_self ..)
    have h2 := ih (fun y hy => h y (List.mem_cons_of_mem _ hy))
    simp only [List.sum_cons, List.length_cons, Nat.mul_add]
    omega

/-- What a node tells. -/
structure Nd where
  least : Int
  sum : Int
  set : Bool
  tgt : Int
  add : Int
inductive SgT
  | leaf (b : Nat) (v : Nd)
  | node (b : Nat) (v : Nd) (l r : SgT)
def SgT.nd : SgT → Nd
  | .leaf _ v => v
  | .node _ v _ _ => v
def SgT.root : SgT → Nat
  | .leaf b _ => b
  | .node b _ _ _ => b
def SgT.with (T : SgT) (v : Nd) : SgT := match T with
  | .leaf b _ => .leaf b v
  | .node b _ l r => .node b v l r
def SgT.blocks : SgT → List Nat
  | .leaf b _ => [b]
  | .node b _ l r => b :: (l.blocks ++ r.blocks)
theorem SgT.with_nd (T : SgT) (v : Nd) : (T.with v).nd = v := by cases T <;> rfl
theorem SgT.with_root (T : SgT) (v : Nd) : (T.with v).root = T.root := by cases T <;> rfl
theorem SgT.with_blocks (T : SgT) (v : Nd) : (T.with v).blocks = T.blocks := by cases T <;> rfl
theorem SgT.with_with (T : SgT) (v u : Nd) : (T.with v).with u = T.with u := by cases T <;> rfl
theorem SgT.with_self (T : SgT) : T.with T.nd = T := by cases T <;> rfl
def pend (v : Nd) (x : Int) : Int := (if v.set = true then v.tgt else x) + v.add
/-- The tree stands for the list D; acc: what may yet be added from above; M: the bound of all. -/
def Rep (acc M : Nat) : SgT → List Int → Prop
  | .leaf _ v, D => ∃ x, D = [x] ∧ v.least = x ∧ v.sum = x ∧ x.natAbs + acc ≤ M ∧ v.tgt.natAbs + v.add.natAbs + acc ≤ M
  | .node _ v l r, D => ∃ A B, D = (A ++ B).map (pend v) ∧ Rep (acc + v.add.natAbs) M l A ∧ Rep (acc + v.add.natAbs) M r B ∧ A.length = (D.length + 1) / 2 ∧ v.least = minL D ∧ v.sum = D.sum ∧ (∀ x ∈ D, x.natAbs + acc ≤ M) ∧ v.tgt.natAbs + v.add.natAbs + acc ≤ M
theorem Rep.pos {acc M : Nat} {T : SgT} {D : List Int} (h : Rep acc M T D) : D ≠ [] := by
  induction T generalizing acc D with
  | leaf b v => obtain ⟨x, rfl, _⟩ := h; simp
  | node b v l r ihl ihr =>
    obtain ⟨A, B, rfl, hA, _⟩ := h
    have := ihl hA
    simp [this]
theorem Rep.mono {acc acc' M M' : Nat} {T : SgT} {D : List Int} (h : Rep acc M T D) (ha : acc' + M ≤ acc + M') : Rep acc' M' T D := by
  induction T generalizing acc acc' D with
  | leaf b v =>
    obtain ⟨x, h1, h2, h3, h4, h5⟩ := h
    exact ⟨x, h1, h2, h3, by omega, by omega⟩
  | node b v l r ihl ihr =>
    obtain ⟨A, B, h1, h2, h3, h4, h5, h6, h7, h8⟩ := h
    exact ⟨A, B, h1, ihl h2 (by omega), ihr h3 (by omega), h4, h5, h6, fun x hx => by have := h7 x hx; omega, by omega⟩
theorem Rep.bd {acc M : Nat} {T : SgT} {D : List Int} (h : Rep acc M T D) : ∀ x ∈ D, x.natAbs + acc ≤ M := by
  cases T with
  | leaf b v => obtain ⟨x, rfl, _, _, h4, _⟩ := h; intro y hy; rw [List.mem_singleton.1 hy]; exact h4
  | node b v l r => obtain ⟨_, _, _, _, _, _, _, _, h7, _⟩ := h; exact h7
theorem Rep.own {acc M : Nat} {T : SgT} {D : List Int} (h : Rep acc M T D) : T.nd.least = minL D ∧ T.nd.sum = D.sum ∧ T.nd.tgt.natAbs + T.nd.add.natAbs + acc ≤ M := by
  cases T with
  | leaf b v => obtain ⟨x, rfl, h2, h3, _, h5⟩ := h; exact ⟨h2, by simpa [SgT.nd] using h3, h5⟩
  | node b v l r => obtain ⟨_, _, _, _, _, _, h5, h6, _, h8⟩ := h; exact ⟨h5, h6, h8⟩

/-- A node of n places is set; is added to. -/
def Nd.setTo (y : Int) (n : Nat) : Nd := ⟨y, y * n, true, y, 0⟩
def Nd.addTo (v : Nd) (y : Int) (n : Nat) : Nd := ⟨v.least + y, v.sum + y * n, v.set, v.tgt, v.add + y⟩
theorem Rep.setTo {acc M : Nat} {T : SgT} {D : List Int} (h : Rep acc M T D) (y : Int) (hy : y.natAbs + acc ≤ M) : Rep acc M (T.with (Nd.setTo y D.length)) (D.map fun _ => y) := by
  have hp := h.pos
  cases T with
  | leaf b v =>
    obtain ⟨x, rfl, h2, h3, h4, h5⟩ := h
    exact ⟨y, rfl, rfl, by simp [Nd.setTo], hy, by simp [Nd.setTo]; omega⟩
  | node b v l r =>
    obtain ⟨A, B, h1, h2, h3, h4, h5, h6, h7, h8⟩ := h
    have hl : D.length = (A ++ B).length := by rw [h1]; simp
    refine ⟨A, B, ?_, h2.mono (by simp only [Nd.setTo]; omega), h3.mono (by simp only [Nd.setTo]; omega), by simpa using h4, ?_, ?_, ?_, by simp [Nd.setTo]; omega⟩
    · have e : ∀ (L L' : List Int), L.length = L'.length → (L.map fun _ => y) = L'.map (pend (Nd.setTo y D.length)) := fun L L' e => by
        apply List.ext_getElem
        · simp [e]
        · intro i h1 h2; simp [pend, Nd.setTo]
      exact e _ _ hl
    · rw [minL_const y hp]; rfl
    · rw [sum_const]; rfl
    · intro x hx
      obtain ⟨_, _, rfl⟩ := List.mem_map.1 hx
      exact hy
theorem Rep.addTo {acc M : Nat} {T : SgT} {D : List Int} (y : Int) (h : Rep (acc + y.natAbs) M T D) : Rep acc M (T.with (T.nd.addTo y D.length)) (D.map fun x => x + y) := by
  have hp := h.pos
  cases T with
  | leaf b v =>
    obtain ⟨x, rfl, h2, h3, h4, h5⟩ := h
    exact ⟨x + y, rfl, by simp [Nd.addTo, SgT.nd, h2], by simp [Nd.addTo, SgT.nd, h3], by omega, by simp only [Nd.addTo, SgT.nd]; omega⟩
  | node b v l r =>
    obtain ⟨A, B, h1, h2, h3, h4, h5, h6, h7, h8⟩ := h
    refine ⟨A, B, ?_, h2.mono (by simp only [Nd.addTo, SgT.nd]; omega), h3.mono (by simp only [Nd.addTo, SgT.nd]; omega), by simpa using h4, ?_, ?_, ?_, by simp only [Nd.addTo, SgT.nd]; omega⟩
    · rw [h1, List.map_map]
      apply List.map_congr_left
      intro x _
      show (if v.set = true then v.tgt else x) + v.add + y = (if v.set = true then v.tgt else x) + (v.add + y)
      omega
    · rw [minL_add y hp, ← h5]; rfl
    · rw [sum_add, ← h6]; rfl
    · intro x hx
      obtain ⟨z, hz, rfl⟩ := List.mem_map.1 hx
      have := h7 z hz
      omega
/-- What a part is told by its node. -/
def told (v c : Nd) (n : Nat) : Nd :=
  let c1 := if v.set = true then Nd.setTo v.tgt n else c
  if v.add = 0 then c1 else c1.addTo v.add n
theorem Rep.told {acc M : Nat} {T : SgT} {D : List Int} {v : Nd} (h : Rep (acc + v.add.natAbs) M T D) (hv : v.tgt.natAbs + v.add.natAbs + acc ≤ M) : Rep acc M (T.with (told v T.nd D.length)) (D.map (pend v)) := by
  have h1 : Rep (acc + v.add.natAbs) M (T.with (if v.set = true then Nd.setTo v.tgt D.length else T.nd)) (D.map fun x => if v.set = true then v.tgt else x) := by
    by_cases hs : v.set = true
    · simp only [if_pos hs]; exact h.setTo v.tgt (by omega)
    · simp only [if_neg hs, SgT.with_self, List.map_id']; exact h
  have h2 := Rep.addTo v.add h1
  rw [SgT.with_with, SgT.with_nd, List.length_map, List.map_map] at h2
  have e : D.map (pend v) = D.map ((fun x => x + v.add) ∘ fun x => if v.set = true then v.tgt else x) := rfl
  rw [e]
  unfold Go.Proofs.Ytlmdlholmlbcbaa.told
  by_cases ha : v.add = 0
  · rw [if_pos ha]
    rw [show ((fun x => x + v.add) ∘ fun x => if v.set = true then v.tgt else x) = fun x => if v.set = true then v.tgt else x by funext x; simp [ha]]
    exact h1.mono (by omega)
  · rw [if_neg ha]; exact h2
/-- What a node gathers of its parts. -/
def gath (l r : Nd) : Nd := ⟨min l.least r.least, l.sum + r.sum, false, 0, 0⟩
theorem Rep.gath {acc M b : Nat} {l r : SgT} {A B : List Int} (ha : Rep acc M l A) (hb : Rep acc M r B) (hl : A.length = (A.length + B.length + 1) / 2) : Rep acc M (.node b (gath l.nd r.nd) l r) (A ++ B) := by
  have e : (A ++ B).map (pend (Go.Proofs.Ytlmdlholmlbcbaa.gath l.nd r.nd)) = A ++ B := by
    conv => rhs; rw [← List.map_id (A ++ B)]
    apply List.map_congr_left
    intro x _
    simp [pend, Go.Proofs.Ytlmdlholmlbcbaa.gath]
  have hm := ha.bd
  refine ⟨A, B, e.symm, by simpa [Go.Proofs.Ytlmdlholmlbcbaa.gath] using ha, by simpa [Go.Proofs.Ytlmdlholmlbcbaa.gath] using hb, by rw [List.length_append]; exact hl, ?_, ?_, ?_, ?_⟩
  · rw [minL_append ha.pos hb.pos, ← ha.own.1, ← hb.own.1]; rfl
  · rw [List.sum_append, ← ha.own.2.1, ← hb.own.2.1]; rfl
  · intro x hx
    rcases List.mem_append.1 hx with hx | hx
    · exact ha.bd x hx
    · exact hb.bd x hx
  · have := ha.own.2.2
    simp [Go.Proofs.Ytlmdlholmlbcbaa.gath]; omega

end Go.Proofs.Ytlmdlholmlbcbaa
