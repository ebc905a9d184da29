/- Package pers: how many nodes versions share: the plain facts. -/
import Derived.Test.YtdjcmemdlmfgpaaPersV
namespace Go.Proofs.Ytdjcmemdlmfgpaa
set_option linter.unusedVariables false

def PT.ids : PT → List Nat
  | .leaf i _ => [i]
  | .node i l r => i :: (l.ids ++ r.ids)
/-- The numbers of nodes, counted: those that were not there yet are put behind. -/
def cntT : PT → List Nat → List Nat
  | .leaf i _, S => if i ∈ S then S else S ++ [i]
  | .node i l r, S => if i ∈ S then S else cntT r (cntT l (S ++ [i]))
/-- Every node of a tree is the one with its number. -/
def PT.Cons (F : Nat → PT) : PT → Prop
  | .leaf i v => F i = .leaf i v
  | .node i l r => F i = .node i l r ∧ l.Cons F ∧ r.Cons F ∧ (∀ x ∈ l.ids, x < i) ∧ (∀ x ∈ r.ids, x < i)
theorem cons_sub {F : Nat → PT} : ∀ (T : PT), T.Cons F → ∀ j ∈ T.ids, ∀ x ∈ (F j).ids, x ∈ T.ids
  | .leaf i v, h, j, hj, x, hx => by
    have e : j = i := by simpa [PT.ids] using hj
    subst e
    have h' : F j = .leaf j v := h
    rw [h'] at hx; exact hx
  | .node i l r, h, j, hj, x, hx => by
    obtain ⟨h0, h1, h2, _, _⟩ := h
    simp only [PT.ids, List.mem_cons, List.mem_append] at hj ⊢
    rcases hj with rfl | hj | hj
    · rw [h0] at hx
      simpa [PT.ids] using hx
    · exact .inr (.inl (cons_sub l h1 j hj x hx))
    · exact .inr (.inr (cons_sub r h2 j hj x hx))
theorem cons_congr {F G : Nat → PT} : ∀ (T : PT), T.Cons F → (∀ x ∈ T.ids, G x = F x) → T.Cons G
  | .leaf i v, h, hg => by
    have h' : F i = .leaf i v := h
    show G i = _
    rw [hg i (by simp [PT.ids]), h']
  | .node i l r, h, hg => by
    obtain ⟨h0, h1, h2, h3, h4⟩ := h
    refine ⟨by rw [hg i (by simp [PT.ids]), h0], cons_congr l h1 (fun x hx => hg x (by simp [PT.ids, hx])), cons_congr r h2 (fun x hx => hg x (by simp [PT.ids, hx])), h3, h4⟩
theorem nodup_snoc {S : List Nat} {i : Nat} (h : S.Nodup) (hi : i ∉ S) : (S ++ [i]).Nodup :=
  List.nodup_append.2 ⟨h, by simp, fun a ha b hb e => by rw [List.mem_singleton.1 hb] at e; subst e; exact hi ha⟩
theorem cnt_spec {F : Nat → PT} : ∀ (T : PT) (S : List Nat), S.Nodup → T.Cons F → (∀ i ∈ S, i ∈ T.ids → ∀ x ∈ (F i).ids, x ∈ S) → (cntT T S).Nodup ∧ ∀ x, x ∈ cntT T S ↔ x ∈ S ∨ x ∈ T.ids
  | .leaf i v, S, hS, _, _ => by
    unfold cntT
    by_cases hi : i ∈ S
    · rw [if_pos hi]
      refine ⟨hS, fun x => ⟨.inl, fun h => ?_⟩⟩
      rcases h with h | h
      · exact h
      · have : x = i := by simpa [PT.ids] using h
        rw [this]; exact hi
    · rw [if_neg hi]
      exact ⟨nodup_snoc hS hi, fun x => by simp [PT.ids]⟩
  | .node i l r, S, hS, h, hc => by
    obtain ⟨h0, h1, h2, h3, h4⟩ := h
    unfold cntT
    by_cases hi : i ∈ S
    · rw [if_pos hi]
      refine ⟨hS, fun x => ⟨.inl, fun h => ?_⟩⟩
      rcases h with h | h
      · exact h
      · exact hc i hi (by simp [PT.ids]) x (by rw [h0]; exact h)
    · rw [if_neg hi]
      obtain ⟨a1, a2⟩ := cnt_spec l (S ++ [i]) (nodup_snoc hS hi) h1 (fun j hj hjl x hx => by
        rcases List.mem_append.1 hj with hj | hj
        · exact List.mem_append_left _ (hc j hj (by simp [PT.ids, hjl]) x hx)
        · rw [List.mem_singleton.1 hj] at hjl
          have := h3 i hjl; omega)
      obtain ⟨b1, b2⟩ := cnt_spec r (cntT l (S ++ [i])) a1 h2 (fun j hj hjr x hx => by
        rw [a2] at hj ⊢
        rcases hj with hj | hj
        · rcases List.mem_append.1 hj with hj | hj
          · exact .inl (List.mem_append_left _ (hc j hj (by simp [PT.ids, hjr]) x hx))
          · rw [List.mem_singleton.1 hj] at hjr
            have := h4 i hjr; omega
        · exact .inr (cons_sub l h1 j hj x hx))
      refine ⟨b1, fun x => ?_⟩
      rw [b2, a2]
      simp only [List.mem_append, List.mem_cons, List.not_mem_nil, or_false, PT.ids]
      exact ⟨fun h => by rcases h with ((h | h) | h) | h <;> simp [h], fun h => by rcases h with h | h | h | h <;> simp [h]⟩
def cntL (L : List PT) (S : List Nat) : List Nat := L.foldl (fun S T => cntT T S) S
theorem cntL_append (L M : List PT) (S : List Nat) : cntL (L ++ M) S = cntL M (cntL L S) := by unfold cntL; rw [List.foldl_append]
theorem cntL_spec {F : Nat → PT} : ∀ (L : List PT) (S : List Nat), S.Nodup → (∀ T ∈ L, T.Cons F) → (∀ i ∈ S, ∀ x ∈ (F i).ids, x ∈ S) → (cntL L S).Nodup ∧ ∀ x, x ∈ cntL L S ↔ x ∈ S ∨ ∃ T ∈ L, x ∈ T.ids
  | [], S, hS, _, _ => ⟨hS, fun x => by simp [cntL]⟩
  | T :: L, S, hS, hL, hc => by
    obtain ⟨a1, a2⟩ := cnt_spec T S hS (hL T (by simp)) (fun i hi _ => hc i hi)
    obtain ⟨b1, b2⟩ := cntL_spec L (cntT T S) a1 (fun U hU => hL U (by simp [hU])) (fun i hi x hx => by
      rw [a2] at hi ⊢
      rcases hi with hi | hi
      · exact .inl (hc i hi x hx)
      · exact .inr (cons_sub T (hL T (by simp)) i hi x hx))
    refine ⟨b1, fun x => ?_⟩
    show x ∈ cntL L (cntT T S) ↔ _
    rw [b2, a2]
    simp only [List.mem_cons, exists_eq_or_imp, or_assoc]

/-- A tree that was made of what was there: its new nodes have the numbers from n0 to n1. -/
structure Ext (F G : Nat → PT) (n0 n1 : Nat) (T : PT) : Prop where
  le : n0 ≤ n1
  same : ∀ x, x < n0 → G x = F x
  cons : T.Cons G
  lt : ∀ x ∈ T.ids, x < n1
  all : ∀ x, n0 ≤ x → x < n1 → x ∈ T.ids
def upF (F : Nat → PT) (n : Nat) (T : PT) : Nat → PT := fun x => if x = n then T else F x
theorem upF_at (F : Nat → PT) (n : Nat) (T : PT) : upF F n T n = T := by simp [upF]
theorem upF_lt (F : Nat → PT) (n : Nat) (T : PT) {x : Nat} (h : x < n) : upF F n T x = F x := by unfold upF; rw [if_neg (by omega)]
theorem ext_leaf (F : Nat → PT) (n : Nat) (v : Int) : Ext F (upF F n (.leaf n v)) n (n + 1) (.leaf n v) :=
  ⟨by omega, fun x hx => upF_lt _ _ _ hx, upF_at _ _ _, fun x hx => by simp [PT.ids] at hx; omega, fun x h1 h2 => by simp [PT.ids]; omega⟩
theorem ext_old {F : Nat → PT} {n : Nat} {T : PT} (h : T.Cons F) (hl : ∀ x ∈ T.ids, x < n) : Ext F F n n T := ⟨Nat.le_refl _, fun _ _ => rfl, h, hl, fun x h1 h2 => by omega⟩
/-- Two trees, one made after the other, and a node over both. -/
theorem ext_node {F G H : Nat → PT} {n0 n1 n2 : Nat} {l r : PT} (hl : Ext F G n0 n1 l) (hr : Ext G H n1 n2 r) : Ext F (upF H n2 (.node n2 l r)) n0 (n2 + 1) (.node n2 l r) := by
  have h1 := hl.le
  have h2 := hr.le
  refine ⟨by omega, fun x hx => ?_, ⟨upF_at _ _ _, cons_congr l hl.cons (fun x hx => ?_), cons_congr r hr.cons (fun x hx => ?_), fun x hx => ?_, hr.lt⟩, fun x hx => ?_, fun x hx0 hx => ?_⟩
  · rw [upF_lt _ _ _ (by omega), hr.same x (by omega), hl.same x hx]
  · have := hl.lt x hx
    rw [upF_lt _ _ _ (by omega), hr.same x this]
  · rw [upF_lt _ _ _ (hr.lt x hx)]
  · have := hl.lt x hx; omega
  · simp only [PT.ids, List.mem_cons, List.mem_append] at hx
    rcases hx with rfl | hx | hx
    · omega
    · have := hl.lt x hx; omega
    · have := hr.lt x hx; omega
  · simp only [PT.ids, List.mem_cons, List.mem_append]
    by_cases e : x = n2
    · exact .inl e
    · by_cases e2 : x < n1
      · exact .inr (.inl (hl.all x hx0 e2))
      · exact .inr (.inr (hr.all x (by omega) (by omega)))
theorem ext_flip {F G : Nat → PT} {n0 n1 : Nat} {l r : PT} (hl : l.Cons F) (hll : ∀ x ∈ l.ids, x < n0) (hr : Ext F G n0 n1 r) : Ext F (upF G n1 (.node n1 l r)) n0 (n1 + 1) (.node n1 l r) := ext_node (ext_old hl hll) hr
theorem ext_flop {F G : Nat → PT} {n0 n1 : Nat} {l r : PT} (hr : r.Cons F) (hrl : ∀ x ∈ r.ids, x < n0) (hl : Ext F G n0 n1 l) : Ext F (upF G n1 (.node n1 l r)) n0 (n1 + 1) (.node n1 l r) :=
  ext_node hl (ext_old (cons_congr r hr (fun x hx => hl.same x (hrl x hx))) (fun x hx => by have := hrl x hx; have := hl.le; omega))
theorem grow_ext : ∀ (f n0 : Nat) (l : List Int) (F : Nat → PT), 0 < l.length → l.length ≤ f + 1 → (∃ G, Ext F G n0 (growT f n0 l).2 (growT f n0 l).1) ∧ (growT f n0 l).2 = n0 + 2 * l.length - 1
  | 0, n0, l, F, h0, h => ⟨⟨_, ext_leaf F n0 _⟩, by show n0 + 1 = _; omega⟩
  | f + 1, n0, l, F, h0, h => by
    unfold growT
    by_cases h1 : l.length = 1
    · rw [if_pos h1]
      exact ⟨⟨_, ext_leaf F n0 _⟩, by show n0 + 1 = _; omega⟩
    · rw [if_neg h1]
      obtain ⟨⟨G, a1⟩, a2⟩ := grow_ext f n0 (l.take ((l.length + 1) / 2)) F (by rw [List.length_take]; omega) (by rw [List.length_take]; omega)
      obtain ⟨⟨H, b1⟩, b2⟩ := grow_ext f (growT f n0 (l.take ((l.length + 1) / 2))).2 (l.drop ((l.length + 1) / 2)) G (by rw [List.length_drop]; omega) (by rw [List.length_drop]; omega)
      refine ⟨⟨_, ext_node a1 b1⟩, ?_⟩
      show (growT f (growT f n0 (l.take ((l.length + 1) / 2))).2 (l.drop ((l.length + 1) / 2))).2 + 1 = _
      rw [b2, a2, List.length_take, List.length_drop]
      omega
theorem set_ext (y : Int) : ∀ (T : PT) (i n0 : Nat) (F : Nat → PT), T.Cons F → (∀ x ∈ T.ids, x < n0) → ∃ G, Ext F G n0 (setT T i y n0).2 (setT T i y n0).1
  | .leaf _ _, i, n0, F, _, _ => ⟨_, ext_leaf F n0 y⟩
  | .node j l r, i, n0, F, h, hl => by
    obtain ⟨h0, h1, h2, h3, h4⟩ := h
    unfold setT
    by_cases hi : i < l.wide
    · rw [if_pos hi]
      obtain ⟨G, a⟩ := set_ext y l i n0 F h1 (fun x hx => hl x (by simp [PT.ids, hx]))
      exact ⟨_, ext_flop h2 (fun x hx => hl x (by simp [PT.ids, hx])) a⟩
    · rw [if_neg hi]
      obtain ⟨G, a⟩ := set_ext y r (i - l.wide) n0 F h2 (fun x hx => hl x (by simp [PT.ids, hx]))
      exact ⟨_, ext_flip h1 (fun x hx => hl x (by simp [PT.ids, hx])) a⟩
theorem with_ext : ∀ (T O : PT) (i : Int) (n0 : Nat) (F : Nat → PT), T.Cons F → O.Cons F → (∀ x ∈ T.ids, x < n0) → (∀ x ∈ O.ids, x < n0) → ∃ G, Ext F G n0 (withT T O i n0).2 (withT T O i n0).1
  | .leaf a b, O, i, n0, F, h, ho, hl, hol => by
    unfold withT
    by_cases hi : i ≤ 0
    · rw [if_pos hi]; exact ⟨F, ext_old ho hol⟩
    · rw [if_neg hi]; exact ⟨F, ext_old h hl⟩
  | .node j l r, .leaf a b, i, n0, F, h, ho, hl, hol => by
    unfold withT
    by_cases hi : i ≤ 0
    · rw [if_pos hi]; exact ⟨F, ext_old ho hol⟩
    · rw [if_neg hi]; exact ⟨F, ext_old h hl⟩
  | .node j l r, .node k l2 r2, i, n0, F, h, ho, hl, hol => by
    unfold withT
    by_cases hi : i ≤ 0
    · rw [if_pos hi]; exact ⟨F, ext_old ho hol⟩
    · rw [if_neg hi]
      by_cases hw : ((PT.node j l r).wide : Int) ≤ i
      · rw [if_pos hw]; exact ⟨F, ext_old h hl⟩
      · rw [if_neg hw]
        obtain ⟨h0, h1, h2, h3, h4⟩ := h
        obtain ⟨o0, o1, o2, o3, o4⟩ := ho
        obtain ⟨G, a⟩ := with_ext l l2 i n0 F h1 o1 (fun x hx => hl x (by simp [PT.ids, hx])) (fun x hx => hol x (by simp [PT.ids, hx]))
        have hle := a.le
        obtain ⟨H, b⟩ := with_ext r r2 (i - l.wide) (withT l l2 i n0).2 G (cons_congr r h2 (fun x hx => a.same x (hl x (by simp [PT.ids, hx])))) (cons_congr r2 o2 (fun x hx => a.same x (hol x (by simp [PT.ids, hx]))))
          (fun x hx => by have := hl x (by simp [PT.ids, hx]); omega) (fun x hx => by have := hol x (by simp [PT.ids, hx]); omega)
        exact ⟨_, ext_node a b⟩
theorem set_cheap (y : Int) : ∀ (T : PT) (i n0 h : Nat), T.Bal → T.wide ≤ 2 ^ h → (setT T i y n0).2 ≤ n0 + h + 1
  | .leaf _ _, i, n0, h, _, _ => by show n0 + 1 ≤ _; omega
  | .node j l r, i, n0, h, hb, hw => by
    obtain ⟨b1, b2, b3⟩ := hb
    rw [PT.wide_node] at hw
    have p1 := l.wide_pos
    have p2 := r.wide_pos
    cases h with
    | zero => simp at hw; omega
    | succ h =>
      rw [Nat.pow_succ] at hw
      unfold setT
      by_cases hi : i < l.wide
      · rw [if_pos hi]
        have := set_cheap y l i n0 h b2 (by omega)
        show (setT l i y n0).2 + 1 ≤ _
        omega
      · rw [if_neg hi]
        have := set_cheap y r (i - l.wide) n0 h b3 (by omega)
        show (setT r (i - l.wide) y n0).2 + 1 ≤ _
        omega
theorem with_cheap : ∀ (T O : PT) (i : Int) (n0 h : Nat), T.Bal → O.Bal → T.wide = O.wide → T.wide ≤ 2 ^ h → (withT T O i n0).2 ≤ n0 + h
  | .leaf a b, O, i, n0, h, _, _, _, _ => by
    unfold withT
    by_cases hi : i ≤ 0
    · rw [if_pos hi]; exact Nat.le_add_right _ _
    · rw [if_neg hi]; exact Nat.le_add_right _ _
  | .node j l r, .leaf a b, i, n0, h, _, _, _, _ => by
    unfold withT
    by_cases hi : i ≤ 0
    · rw [if_pos hi]; exact Nat.le_add_right _ _
    · rw [if_neg hi]; exact Nat.le_add_right _ _
  | .node j l r, .node k l2 r2, i, n0, h, hb, hc, hwo, hw => by
    unfold withT
    by_cases hi : i ≤ 0
    · rw [if_pos hi]; exact Nat.le_add_right _ _
    · rw [if_neg hi]
      by_cases hge : ((PT.node j l r).wide : Int) ≤ i
      · rw [if_pos hge]; exact Nat.le_add_right _ _
      · rw [if_neg hge]
        obtain ⟨b1, b2, b3⟩ := hb
        obtain ⟨c1, c2, c3⟩ := hc
        rw [PT.wide_node, PT.wide_node] at hwo
        rw [PT.wide_node] at hw
        have p1 := l.wide_pos
        have p2 := r.wide_pos
        cases h with
        | zero => simp at hw; omega
        | succ h =>
          rw [Nat.pow_succ] at hw
          show (withT r r2 (i - l.wide) (withT l l2 i n0).2).2 + 1 ≤ _
          by_cases hl : (l.wide : Int) ≤ i
          · rw [withT_ge l l2 i n0 hl]
            have := with_cheap r r2 (i - l.wide) n0 h b3 c3 (by omega) (by omega)
            show (withT r r2 (i - l.wide) n0).2 + 1 ≤ _
            omega
          · rw [withT_le r r2 (i - l.wide) _ (by omega)]
            have := with_cheap l l2 i n0 h b2 c2 (by omega) (by omega)
            show (withT l l2 i n0).2 + 1 ≤ _
            omega
/-- All versions, their nodes each with a number of its own. -/
theorem ver_ext {l : List Int} {cs : List Chg} {n : Nat} (hl : l.length = n) (hn : 0 < n) (hc : ∀ j (h : j < cs.length), cs[j].Ok j n) : ∀ (k : Nat), k ≤ cs.length →
    ∃ F, (∀ T ∈ (verT l cs k).1, T.Cons F ∧ ∀ x ∈ T.ids, x < (verT l cs k).2) ∧ ∀ x, x < (verT l cs k).2 → ∃ T ∈ (verT l cs k).1, x ∈ T.ids
  | 0, _ => by
    obtain ⟨⟨G, h⟩, _⟩ := grow_ext l.length 0 l (fun _ => pt0) (by omega) (by omega)
    refine ⟨G, fun T hT => ?_, fun x hx => ⟨_, by simp [verT], h.all x (Nat.zero_le _) hx⟩⟩
    have e : T = (growT l.length 0 l).1 := by simpa [verT] using hT
    rw [e]
    exact ⟨h.cons, h.lt⟩
  | k + 1, hk => by
    obtain ⟨F, h1, h2⟩ := ver_ext hl hn hc k (by omega)
    have hL := verT_length l cs k
    have ho := hc k (by omega)
    have e0 : cs.getD k ch0 = cs[k] := getD_at _ _ (by omega)
    have hg : ∀ i, i ≤ k → (verT l cs k).1.getD i pt0 ∈ (verT l cs k).1 := fun i hi => by
      rw [getD_at _ _ (by omega)]; exact List.getElem_mem _
    obtain ⟨a1, a2⟩ := h1 _ (hg _ ho.s)
    obtain ⟨b1, b2⟩ := h1 _ (hg _ ho.w)
    have hE : ∃ G, Ext F G (verT l cs k).2 (if cs[k].kind = 1 then setT ((verT l cs k).1.getD cs[k].src pt0) cs[k].at_ cs[k].amt (verT l cs k).2 else withT ((verT l cs k).1.getD cs[k].src pt0) ((verT l cs k).1.getD cs[k].wi pt0) cs[k].at_ (verT l cs k).2).2
        (if cs[k].kind = 1 then setT ((verT l cs k).1.getD cs[k].src pt0) cs[k].at_ cs[k].amt (verT l cs k).2 else withT ((verT l cs k).1.getD cs[k].src pt0) ((verT l cs k).1.getD cs[k].wi pt0) cs[k].at_ (verT l cs k).2).1 := by
      by_cases hkd : cs[k].kind = 1
      · rw [if_pos hkd]; exact set_ext _ _ _ _ F a1 a2
      · rw [if_neg hkd]; exact with_ext _ _ _ _ F a1 b1 a2 b2
    obtain ⟨G, hG⟩ := hE
    have e1 : verT l cs (k + 1) = ((verT l cs k).1 ++ [(if cs[k].kind = 1 then setT ((verT l cs k).1.getD cs[k].src pt0) cs[k].at_ cs[k].amt (verT l cs k).2 else withT ((verT l cs k).1.getD cs[k].src pt0) ((verT l cs k).1.getD cs[k].wi pt0) cs[k].at_ (verT l cs k).2).1],
        (if cs[k].kind = 1 then setT ((verT l cs k).1.getD cs[k].src pt0) cs[k].at_ cs[k].amt (verT l cs k).2 else withT ((verT l cs k).1.getD cs[k].src pt0) ((verT l cs k).1.getD cs[k].wi pt0) cs[k].at_ (verT l cs k).2).2) := by
      simp only [verT, e0]
    rw [e1]
    have hle := hG.le
    refine ⟨G, fun T hT => ?_, fun x hx => ?_⟩
    · rcases List.mem_append.1 hT with hT | hT
      · obtain ⟨c1, c2⟩ := h1 T hT
        refine ⟨cons_congr T c1 (fun x hx => hG.same x (c2 x hx)), fun x hx => ?_⟩
        have := c2 x hx
        show x < _
        omega
      · rw [List.mem_singleton.1 hT]; exact ⟨hG.cons, hG.lt⟩
    · by_cases hlt : x < (verT l cs k).2
      · obtain ⟨T, t1, t2⟩ := h2 x hlt
        exact ⟨T, List.mem_append_left _ t1, t2⟩
      · exact ⟨_, List.mem_append_right _ (List.mem_singleton.2 rfl), hG.all x (by omega) hx⟩
theorem cnt_all {l : List Int} {cs : List Chg} {n : Nat} (hl : l.length = n) (hn : 0 < n) (hc : ∀ j (h : j < cs.length), cs[j].Ok j n) (k : Nat) (hk : k ≤ cs.length) : (cntL (verT l cs k).1 []).length = (verT l cs k).2 := by
  obtain ⟨F, h1, h2⟩ := ver_ext hl hn hc k hk
  obtain ⟨a1, a2⟩ := cntL_spec (F := F) (verT l cs k).1 [] List.nodup_nil (fun T hT => (h1 T hT).1) (fun i hi => by simp at hi)
  have hp : (cntL (verT l cs k).1 []).Perm (List.range (verT l cs k).2) := (List.perm_ext_iff_of_nodup a1 List.nodup_range).2 (fun x => by
    rw [a2, List.mem_range]
    constructor
    · rintro (h | ⟨T, hT, hx⟩)
      · simp at h
      · exact (h1 T hT).2 x hx
    · intro h; exact .inr (h2 x h))
  rw [hp.length_eq, List.length_range]
theorem ver_first (l : List Int) (cs : List Chg) (h : 0 < l.length) : (verT l cs 0).2 = 2 * l.length - 1 := by
  show (growT l.length 0 l).2 = _
  rw [(grow_ext l.length 0 l (fun _ => pt0) h (by omega)).2]; omega
theorem ver_cheap {l : List Int} {cs : List Chg} {n h : Nat} (hl : l.length = n) (hn : 0 < n) (hc : ∀ j (h : j < cs.length), cs[j].Ok j n) (hw : n ≤ 2 ^ h) (k : Nat) (hk : k < cs.length) : (verT l cs k).2 ≤ (verT l cs (k + 1)).2 ∧ (verT l cs (k + 1)).2 ≤ (verT l cs k).2 + h + 1 := by
  obtain ⟨F, h1, h2⟩ := ver_ext hl hn hc k (by omega)
  obtain ⟨_, hB⟩ := verT_ok hl hn k (by omega) hc
  have hL := verT_length l cs k
  have ho := hc k (by omega)
  have e0 : cs.getD k ch0 = cs[k] := getD_at _ _ (by omega)
  have hg : ∀ i, i ≤ k → (verT l cs k).1.getD i pt0 ∈ (verT l cs k).1 := fun i hi => by
    rw [getD_at _ _ (by omega)]; exact List.getElem_mem _
  obtain ⟨a1, a2⟩ := h1 _ (hg _ ho.s)
  obtain ⟨b1, b2⟩ := h1 _ (hg _ ho.w)
  obtain ⟨c1, c2⟩ := hB _ (hg _ ho.s)
  obtain ⟨d1, d2⟩ := hB _ (hg _ ho.w)
  simp only [verT, e0]
  by_cases hkd : cs[k].kind = 1
  · rw [if_pos hkd]
    obtain ⟨G, hG⟩ := set_ext cs[k].amt _ cs[k].at_ (verT l cs k).2 F a1 a2
    exact ⟨hG.le, set_cheap _ _ _ _ h c1 (by omega)⟩
  · rw [if_neg hkd]
    obtain ⟨G, hG⟩ := with_ext _ _ cs[k].at_ (verT l cs k).2 F a1 b1 a2 b2
    have := with_cheap _ _ cs[k].at_ (verT l cs k).2 h c1 d1 (by omega) (by omega)
    exact ⟨hG.le, by omega⟩
/-- What comes behind changes nothing of the versions ahead. -/
theorem verT_take (l : List Int) (cs : List Chg) : ∀ (k m : Nat), k ≤ m → verT l (cs.take m) k = verT l cs k
  | 0, _, _ => rfl
  | k + 1, m, h => by
    have e : (cs.take m).getD k ch0 = cs.getD k ch0 := by simp only [List.getD, List.getElem?_take_of_lt (show k < m by omega)]
    simp only [verT, verT_take l cs k m (by omega), e]

end Go.Proofs.Ytdjcmemdlmfgpaa
