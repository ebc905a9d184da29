import Derived.Test.YtladgklnacihkaaGreatMg27
import Derived.Test.YtladgklnacihkaaGreatMg20
/- Points that come and go: what holds while batches are joined. -/
namespace Go.Proofs.YtladgklnacihkaaGreat.Dy
set_option linter.unusedVariables false
open Go.RowKit

structure PutI (B s nb nx ct : Nat) (ba : Option Addr) (T : List Bt) (p : Pt) (w1 w : World) (ba1 : Option Addr) (bc1 : Nat) (T1 : List Bt) (m : Bt) : Prop where
  st : StM w B s ba1 bc1 T1 nx ct
  bt : BtM w B m
  nbx : Box w nb #[.pointer (some ⟨m.b, 0, none⟩)] 121
  new : w1.heap.size ≤ nb
  rown : blk ba1 ≠ some nb
  dis : ∀ t ∈ T1, Dis m t
  chg : Chg (Foot s ba T) w1 w
  foot : ∀ k, (Foot s ba1 T1 k ∨ m.has k) → Foot s ba T k ∨ w1.heap.size ≤ k
  perm : (allL T1 ++ m.L).Perm (allL T ++ [((nx : Int), p)])
  len : m.pw + T1.length = T.length
  pws : ∀ t ∈ T1, t.pw ≤ nx
theorem PutI.start {B s nb nx ct mb gi gp bc : Nat} {ba : Option Addr} {T : List Bt} {p : Pt} {w1 w : World} (h : StM w1 B s ba bc T nx ct) (hN : NewB B nx p w1 w nb mb gi gp) (hpw : ∀ t ∈ T, t.pw ≤ nx) :
    PutI B s nb nx ct ba T p w1 w ba bc T ⟨mb, 0, some ⟨gi, 0, none⟩, 1, some ⟨gp, 0, none⟩, 1, [((nx : Int), p)]⟩ := by
  have hf := hN.fresh
  have hnew : ∀ k, (⟨mb, 0, some ⟨gi, 0, none⟩, 1, some ⟨gp, 0, none⟩, 1, [((nx : Int), p)]⟩ : Bt).has k → w1.heap.size ≤ k := by
    rintro k (rfl | hk | hk)
    · exact hf.2.1
    · cases hk; exact hf.2.2.1
    · cases hk; exact hf.2.2.2
  refine ⟨h.below hN.below, hN.bt, hN.nbx, hf.1, fun e => (by have := (h.lo_foot (.inr (.inl e))).2; omega), fun t ht k h1 h2 => ?_, Chg.of_below hN.below, fun k hk => ?_, List.Perm.refl _, Nat.zero_add _, hpw⟩
  · have h3 := hnew k h1
    have h4 := (h.each t ht).lt h2
    omega
  · rcases hk with hk | hk
    · exact .inl hk
    · exact .inr (hnew k hk)
theorem PutI.below {B s nb nx ct bc1 : Nat} {ba ba1 : Option Addr} {T T1 : List Bt} {p : Pt} {w1 w w' : World} {m : Bt} (h : PutI B s nb nx ct ba T p w1 w ba1 bc1 T1 m) (hb : Below w.heap.size w w') : PutI B s nb nx ct ba T p w1 w' ba1 bc1 T1 m :=
  ⟨h.st.below hb, h.bt.below hb, h.nbx.below hb, h.new, h.rown, h.dis, h.chg.same (Chg.of_below hb), h.foot, h.perm, h.len, h.pws⟩
theorem mem_erase {α : Type} {T : List α} {j : Nat} {t : α} (h : t ∈ T.eraseIdx j) : ∃ k, ∃ hk : k < T.length, k ≠ j ∧ T[k] = t := by
  obtain ⟨i, hi, e⟩ := List.getElem_of_mem h
  rw [List.length_eraseIdx] at hi
  rw [List.getElem_eraseIdx] at e
  split at e
  · rename_i hlt
    split at hi
    · exact ⟨i, by omega, by omega, e⟩
    · exact ⟨i, by omega, by omega, e⟩
  · rename_i hlt
    split at hi
    · exact ⟨i + 1, by omega, by omega, e⟩
    · omega
/-- The memory with one batch taken out of the store. -/
structure CutM (B s nb nx ct g bc : Nat) (w : World) (T2 : List Bt) (u m : Bt) : Prop where
  st : StM w B s (some ⟨g, 0, none⟩) bc T2 nx ct
  hu : BtM w B u
  hm : BtM w B m
  nbx : Box w nb #[.pointer (some ⟨m.b, 0, none⟩)] 121
theorem PutI.cut {B s nb nx ct g bc1 j : Nat} {ba : Option Addr} {T T1 : List Bt} {p : Pt} {w1 w w3 : World} {m : Bt} (h : PutI B s nb nx ct ba T p w1 w (some ⟨g, 0, none⟩) bc1 T1 m) (hj : j < T1.length)
    (hg : w.grownBy w3 (some g)) (hr : w3.ownsRow B 121 1 (.slice (some ⟨g, 0, none⟩) (T1.length - 1) bc1) (T1.length - 1) (btV (T1.eraseIdx j))) :
    CutM B s nb nx ct g bc1 (w3.setCell ⟨s, 0, none⟩ (.slice (some ⟨g, 0, none⟩) (T1.length - 1) bc1)) (T1.eraseIdx j) T1[j] m ∧ Chg (fun k => k = s ∨ k = g) w (w3.setCell ⟨s, 0, none⟩ (.slice (some ⟨g, 0, none⟩) (T1.length - 1) bc1)) := by
  have hc3 : Chg (fun k => k = s ∨ k = g) w w3 := Chg.of_grown hg (fun k hk => by cases hk; exact .inr rfl)
  have hc := hc3.same (chg_set (fun k => k = s ∨ k = g) w3 s 0 (.slice (some ⟨g, 0, none⟩) (T1.length - 1) bc1) (.inl rfl))
  have hgs : g ≠ s := (ty_own h.st.row rfl).1.ne ⟨_, h.st.box⟩ (by decide)
  have hgt := (ty_own h.st.row (k := g) rfl).1
  have hbt : ∀ t, BtM w B t → BtM (w3.setCell ⟨s, 0, none⟩ (.slice (some ⟨g, 0, none⟩) (T1.length - 1) bc1)) B t := fun t ht => ht.chg hc (fun k hk e => by
    rcases e with rfl | rfl
    · exact ht.not ⟨_, h.st.box⟩ (by decide) (by decide) (by decide) hk
    · exact ht.not hgt (by decide) (by decide) (by decide) hk)
  have hel : (T1.eraseIdx j).length = T1.length - 1 := by rw [List.length_eraseIdx, if_pos hj]
  have hb3 : Box w3 s #[.slice (some ⟨g, 0, none⟩) T1.length bc1, .int .i64 (nx : Int), .int .i64 (ct : Int)] 71 := Chg.box h.st.box (Chg.of_grown (F := fun k => k = g) hg (fun k hk => by cases hk; rfl)) (fun e => hgs e.symm)
  refine ⟨⟨⟨?_, ?_, h.st.lo, ?_, ?_⟩, hbt _ (h.st.each _ (List.getElem_mem hj)), hbt _ h.bt, ?_⟩, hc⟩
  · have := bx_set hb3 (i := 0) (.slice (some ⟨g, 0, none⟩) (T1.length - 1) bc1)
    rw [hel]; exact this
  · rw [hel]
    exact own_keep hr (grown_set w3 s 0 _) (fun k hk => by cases hk; intro e; cases e; exact hgs rfl)
  · intro t ht
    exact hbt _ (h.st.each t (List.mem_of_mem_eraseIdx ht))
  · exact h.st.dis.sublist (List.eraseIdx_sublist _ _)
  · refine Chg.box h.nbx hc (fun e => ?_)
    rcases e with e | e
    · exact TyAt.ne ⟨_, h.nbx⟩ ⟨_, h.st.box⟩ (by decide) e
    · subst e
      exact h.rown rfl

theorem CutM.below {B s nb nx ct g bc : Nat} {w w' : World} {T2 : List Bt} {u m : Bt} (h : CutM B s nb nx ct g bc w T2 u m) (hb : Below w.heap.size w w') : CutM B s nb nx ct g bc w' T2 u m :=
  ⟨h.st.below hb, h.hu.below hb, h.hm.below hb, h.nbx.below hb⟩
/-- Behind the joining of the ids of two batches. -/
theorem CutM.cat1 {B s nb nx ct g bc : Nat} {w w' : World} {T2 : List Bt} {u m : Bt} (h : CutM B s nb nx ct g bc w T2 u m) (hg : w.grownBy w' (blk u.ia)) :
    Box w' u.b #[.int .i64 (u.pw : Int), .slice u.ia u.L.length u.ic, .slice u.pa u.L.length u.pc] 123 ∧ Box w' m.b #[.int .i64 (m.pw : Int), .slice m.ia m.L.length m.ic, .slice m.pa m.L.length m.pc] 123 ∧ Box w' nb #[.pointer (some ⟨m.b, 0, none⟩)] 121 ∧
    w'.ownsRow B 28 3 (.slice u.pa u.L.length u.pc) u.L.length (ptV u.L) ∧ w'.ownsRow B 28 3 (.slice m.pa m.L.length m.pc) m.L.length (ptV m.L) := by
  have hc : Chg (fun k => blk u.ia = some k) w w' := Chg.of_grown hg (fun k hk => hk)
  refine ⟨Chg.box h.hu.box hc (fun e => (ty_own h.hu.ids e).1.ne ⟨_, h.hu.box⟩ (by decide) rfl), Chg.box h.hm.box hc (fun e => (ty_own h.hu.ids e).1.ne ⟨_, h.hm.box⟩ (by decide) rfl), Chg.box h.nbx hc (fun e => (ty_own h.hu.ids e).1.ne ⟨_, h.nbx⟩ (by decide) rfl), Chg.own h.hu.ps hc (fun k hk e => (ty_own h.hu.ids e).1.ne (ty_own h.hu.ps hk).1 (by decide) rfl), Chg.own h.hm.ps hc (fun k hk e => (ty_own h.hu.ids e).1.ne (ty_own h.hm.ps hk).1 (by decide) rfl)⟩
/-- What two appends have made. -/
structure CatM (B : Nat) (w w6 : World) (u m : Bt) (ia' pa' : Option Addr) (ic' pc' : Nat) : Prop where
  chg : Chg (fun k => blk u.ia = some k ∨ blk u.pa = some k) w w6
  ids : w6.ownsRow B 3 1 (.slice ia' (u.L.length + m.L.length) ic') (u.L.length + m.L.length) (idV u.L ++ idV m.L)
  ps : w6.ownsRow B 28 3 (.slice pa' (u.L.length + m.L.length) pc') (u.L.length + m.L.length) (ptV u.L ++ ptV m.L)
  ni : blk ia' = blk u.ia ∨ ∃ k, blk ia' = some k ∧ w.heap.size ≤ k
  np : blk pa' = blk u.pa ∨ ∃ k, blk pa' = some k ∧ w.heap.size ≤ k
theorem allL_erase {T : List Bt} {j : Nat} (hj : j < T.length) : (T[j].L ++ allL (T.eraseIdx j)).Perm (allL T) := by
  have e : allL T = allL (T.take j) ++ (T[j].L ++ allL (T.drop (j + 1))) := by
    conv => lhs; rw [show T = T.take j ++ T[j] :: T.drop (j + 1) by simp]
    unfold allL
    rw [List.flatMap_append, List.flatMap_cons]
  have e2 : allL (T.eraseIdx j) = allL (T.take j) ++ allL (T.drop (j + 1)) := by
    unfold allL
    rw [List.eraseIdx_eq_take_drop_succ, List.flatMap_append]
  rw [e, e2, ← List.append_assoc, ← List.append_assoc]
  exact List.Perm.append_right _ List.perm_append_comm
/-- Behind the joining of two batches. -/
theorem PutI.join {B s nb nx ct g bc1 j : Nat} {ba : Option Addr} {T T1 : List Bt} {p : Pt} {w1 w w4 w6 w7 : World} {m : Bt} {ia' pa' : Option Addr} {ic' pc' mb : Nat} (h : PutI B s nb nx ct ba T p w1 w (some ⟨g, 0, none⟩) bc1 T1 m) (hj : j < T1.length) (hpw : T1[j].pw = m.pw)
    (hc4 : Chg (fun k => k = s ∨ k = g) w w4) (hC : CutM B s nb nx ct g bc1 w4 (T1.eraseIdx j) T1[j] m) (hK : CatM B w4 w6 T1[j] m ia' pa' ic' pc')
    (hmb : w6.heap.size ≤ mb) (hB : B ≤ mb) (h67 : Chg (fun k => k = nb) w6 w7) (hnb : Box w7 nb #[.pointer (some ⟨mb, 0, none⟩)] 121)
    (hx : Box w7 mb #[.int .i64 ((m.pw + 1 : Nat) : Int), .slice ia' (T1[j].L.length + m.L.length) ic', .slice pa' (T1[j].L.length + m.L.length) pc'] 123) :
    PutI B s nb nx ct ba T p w1 w7 (some ⟨g, 0, none⟩) bc1 (T1.eraseIdx j) ⟨mb, m.pw + 1, ia', ic', pa', pc', T1[j].L ++ m.L⟩ := by
  have hw4 : w.heap.size ≤ w4.heap.size := hc4.size
  have hw1 : w1.heap.size ≤ w.heap.size := h.chg.size
  have hw6 : w4.heap.size ≤ w6.heap.size := hK.chg.size
  have h47 : Chg (fun k => T1[j].has k ∨ k = nb) w4 w7 := (hK.chg.weak (fun k hk => .inl (.inr hk))).same (h67.weak (fun k hk => .inr hk))
  have hnew : ∀ k, (⟨mb, m.pw + 1, ia', ic', pa', pc', T1[j].L ++ m.L⟩ : Bt).has k → T1[j].has k ∨ w4.heap.size ≤ k := by
    rintro k (rfl | hk | hk)
    · exact .inr (Nat.le_trans hw6 hmb)
    · rcases hK.ni with e | ⟨k', e, hle⟩
      · exact .inl (.inr (.inl (e ▸ hk)))
      · have hk' : blk ia' = some k := hk
        rw [e] at hk'; cases hk'; exact .inr hle
    · rcases hK.np with e | ⟨k', e, hle⟩
      · exact .inl (.inr (.inr (e ▸ hk)))
      · have hk' : blk pa' = some k := hk
        rw [e] at hk'; cases hk'; exact .inr hle
  have htu : ∀ t ∈ T1.eraseIdx j, Dis T1[j] t := by
    intro t ht
    obtain ⟨k, hk, hne, rfl⟩ := mem_erase ht
    exact pw_dis h.st.dis hj hk (fun e => hne e.symm)
  have hll : (T1[j].L ++ m.L).length = T1[j].L.length + m.L.length := List.length_append
  have hel : (T1.eraseIdx j).length = T1.length - 1 := by rw [List.length_eraseIdx, if_pos hj]
  have hT1 : 0 < T1.length := by omega
  have hstn : ∀ k, Foot s (some ⟨g, 0, none⟩) (T1.eraseIdx j) k → ¬ (T1[j].has k ∨ k = nb) := by
    rintro k hk (hu | rfl)
    · rcases hk with rfl | hk | ⟨t, ht, hk⟩
      · exact hC.hu.not ⟨_, hC.st.box⟩ (by decide) (by decide) (by decide) hu
      · exact hC.hu.not (ty_own hC.st.row hk).1 (by decide) (by decide) (by decide) hu
      · exact htu t ht k hu hk
    · rcases hk with rfl | hk | ⟨t, ht, hk⟩
      · exact TyAt.ne ⟨_, hC.nbx⟩ ⟨_, hC.st.box⟩ (by decide) rfl
      · exact h.rown hk
      · exact (hC.st.each t ht).not ⟨_, hC.nbx⟩ (by decide) (by decide) (by decide) hk
  have hin : ∀ e (k : Nat), e ≠ 121 → TyAt w6 k e → k ≠ nb := fun e k he hk => by
    have hn6 : Box w6 nb #[.pointer (some ⟨m.b, 0, none⟩)] 121 := Chg.box hC.nbx hK.chg (fun e => by
      rcases e with e | e
      · exact (ty_own hC.hu.ids e).1.ne ⟨_, hC.nbx⟩ (by decide) rfl
      · exact (ty_own hC.hu.ps e).1.ne ⟨_, hC.nbx⟩ (by decide) rfl)
    exact hk.ne ⟨_, hn6⟩ he
  refine ⟨hC.st.chg h47 hstn, ⟨?_, hB, ?_, ?_⟩, hnb, h.new, h.rown, ?_, ?_, ?_, ?_, ?_, ?_⟩
  · simp only [hll]; exact hx
  · simp only [hll]
    have : idV (T1[j].L ++ m.L) = idV T1[j].L ++ idV m.L := by simp [idV, ints]
    rw [this]
    exact Chg.own hK.ids h67 (fun k hk => hin _ k (by decide) (ty_own hK.ids hk).1)
  · simp only [hll]
    have : ptV (T1[j].L ++ m.L) = ptV T1[j].L ++ ptV m.L := by simp [ptV, flat_append]
    rw [this]
    exact Chg.own hK.ps h67 (fun k hk => hin _ k (by decide) (ty_own hK.ps hk).1)
  · intro t ht k h1 h2
    rcases hnew k h1 with h3 | h3
    · exact htu t ht k h3 h2
    · have := (hC.st.each t ht).lt h2
      omega
  · refine (h.chg.trans hc4 (fun k hk => ?_)).trans h47 (fun k hk => ?_)
    · rcases hk with rfl | rfl
      · exact h.foot _ (.inl (.inl rfl))
      · exact h.foot _ (.inl (.inr (.inl rfl)))
    · rcases hk with hk | rfl
      · exact h.foot k (.inl (.inr (.inr ⟨_, List.getElem_mem hj, hk⟩)))
      · exact .inr h.new
  · intro k hk
    rcases hk with hk | hk
    · rcases hk with rfl | hk | ⟨t, ht, hk⟩
      · exact h.foot _ (.inl (.inl rfl))
      · exact h.foot _ (.inl (.inr (.inl hk)))
      · exact h.foot _ (.inl (.inr (.inr ⟨t, List.mem_of_mem_eraseIdx ht, hk⟩)))
    · rcases hnew k hk with h3 | h3
      · exact h.foot k (.inl (.inr (.inr ⟨_, List.getElem_mem hj, h3⟩)))
      · exact .inr (by omega)
  · refine List.Perm.trans ?_ h.perm
    have e : (allL (T1.eraseIdx j) ++ (T1[j].L ++ m.L)).Perm ((T1[j].L ++ allL (T1.eraseIdx j)) ++ m.L) := by
      rw [← List.append_assoc]
      exact List.Perm.append_right _ List.perm_append_comm
    exact e.trans (List.Perm.append_right _ (allL_erase hj))
  · have := h.len
    rw [hel]
    show m.pw + 1 + (T1.length - 1) = T.length
    omega
  · intro t ht
    exact h.pws t (List.mem_of_mem_eraseIdx ht)
theorem PutI.join2 {B s nb nx ct g bc1 j : Nat} {ba : Option Addr} {T T1 : List Bt} {p : Pt} {w1 w w5 w6 w7 : World} {u m : Bt} {ia' pa' : Option Addr} {ic' pc' : Nat} (h : PutI B s nb nx ct ba T p w1 w (some ⟨g, 0, none⟩) bc1 T1 m) (hj : j < T1.length) (hu : T1[j] = u) (hpw : u.pw = m.pw)
    (hc4 : Chg (fun k => k = s ∨ k = g) w w5) (hC : CutM B s nb nx ct g bc1 w5 (T1.eraseIdx j) u m)
    (hg6 : w5.drew.grownBy w6 (blk u.ia)) (ho6 : w6.ownsRow B 3 1 (.slice ia' (u.L.length + m.L.length) ic') (u.L.length + m.L.length) (idV u.L ++ idV m.L)) (hn6 : NewOr w5.drew u.ia ia')
    (hg7 : w6.grownBy w7 (blk u.pa)) (ho7 : w7.ownsRow B 28 3 (.slice pa' (u.L.length + m.L.length) pc') (u.L.length + m.L.length) (ptV u.L ++ ptV m.L)) (hn7 : NewOr w6 u.pa pa')
    {W8 : World} (hW8 : (w7.alloc (.cells #[.int .i64 ((u.pw : Int) + 1), .slice ia' (u.L.length + m.L.length) ic', .slice pa' (u.L.length + m.L.length) pc'] 123)).setCell ⟨nb, 0, none⟩ (.pointer (some ⟨w7.heap.size, 0, none⟩)) = W8) :
    PutI B s nb nx ct ba T p w1 W8 (some ⟨g, 0, none⟩) bc1 (T1.eraseIdx j) ⟨w7.heap.size, m.pw + 1, ia', ic', pa', pc', u.L ++ m.L⟩ ∧ Chg (fun k => (blk u.ia = some k ∨ blk u.pa = some k) ∨ k = nb) w5 W8 := by
  subst hu
  have hd : Below w5.heap.size w5 w5.drew := (Below.refl _ _).drew
  have hC1 := (hC.below hd).cat1 hg6
  have h57 : Chg (fun k => blk T1[j].ia = some k ∨ blk T1[j].pa = some k) w5 w7 := ((Chg.of_below hd).same (Chg.of_grown hg6 (fun k hk => .inl hk))).same (Chg.of_grown hg7 (fun k hk => .inr hk))
  have hnb7 : Box w7 nb #[.pointer (some ⟨m.b, 0, none⟩)] 121 := Chg.box hC1.2.2.1 (Chg.of_grown (F := fun k => blk T1[j].pa = some k) hg7 (fun k hk => hk)) (fun e => (ty_own hC1.2.2.2.1 e).1.ne ⟨_, hC1.2.2.1⟩ (by decide) rfl)
  have hne : w7.heap.size ≠ nb := Nat.ne_of_gt hnb7.lt
  have h78 : Chg (fun k => k = nb) w7 W8 := by
    rw [← hW8]
    exact (Chg.of_below (below_alloc (Nat.le_refl w7.heap.size) _)).same (chg_set _ _ nb 0 _ rfl)
  have hz : w5.heap.size ≤ w6.heap.size := hg6.size
  have hB7 : B ≤ w7.heap.size := Nat.le_trans hC.hm.lo (Nat.le_trans (Nat.le_of_lt (hC.hm.lt (.inl rfl))) (Nat.le_trans hz hg7.size))
  refine ⟨h.join hj hpw hc4 hC ⟨h57, own_keep ho6 hg7 (fun k hk e => (ty_own ho6 e).1.ne (ty_own hC1.2.2.2.1 hk).1 (by decide) rfl), ho7, hn6, ?_⟩ (Nat.le_refl _) hB7 h78 ?_ ?_, (h57.weak (fun k hk => .inl hk)).same (h78.weak (fun k hk => .inr hk))⟩
  · rcases hn7 with e | ⟨k, e, hk⟩
    · exact .inl e
    · exact .inr ⟨k, e, by omega⟩
  · rw [← hW8]
    have := bx_set (hnb7.alloc (.cells #[.int .i64 ((T1[j].pw : Int) + 1), .slice ia' (T1[j].L.length + m.L.length) ic', .slice pa' (T1[j].L.length + m.L.length) pc'] 123)) (i := 0) (.pointer (some ⟨w7.heap.size, 0, none⟩))
    exact this
  · rw [← hW8]
    have e : ((m.pw + 1 : Nat) : Int) = (T1[j].pw : Int) + 1 := by rw [hpw]; push_cast; rfl
    rw [e]
    exact Chg.box (Box.new w7 _ _) (chg_set (fun k => k = nb) _ nb 0 _ rfl) hne

/-- The joined batch is put at the store's end. -/
theorem PutI.last {B s nb nx ct bc1 : Nat} {ba ba1 ra : Option Addr} {T T1 : List Bt} {p : Pt} {w1 w wA w2 w5 : World} {m : Bt} {rc : Nat} (h : PutI B s nb nx ct ba T p w1 w ba1 bc1 T1 m) (hA : Below w.heap.size w wA) (hg : wA.grownBy w2 (blk ba1))
    (ho : w2.ownsRow B 121 1 (.slice ra (T1.length + 1) rc) (T1.length + 1) (btV T1 ++ [.pointer (some ⟨m.b, 0, none⟩)])) (hn : NewOr wA ba1 ra) (hs : w2.grownBy w5 (some s))
    (hb : Box w5 s #[.slice ra (T1.length + 1) rc, .int .i64 ((nx + 1 : Nat) : Int), .int .i64 ((ct + 1 : Nat) : Int)] 71) (hT : T.length ≤ nx) :
    StM w5 B s ra rc (T1 ++ [m]) (nx + 1) (ct + 1) ∧ Chg (Foot s ba T) w1 w5 ∧ (∀ k, Foot s ra (T1 ++ [m]) k → Foot s ba T k ∨ w1.heap.size ≤ k) ∧ (allL (T1 ++ [m])).Perm (allL T ++ [((nx : Int), p)]) ∧ (T1 ++ [m]).length ≤ nx + 1 ∧ ∀ t ∈ T1 ++ [m], t.pw ≤ nx + 1 := by
  have hlen : (T1 ++ [m]).length = T1.length + 1 := by simp
  have hbt : btV (T1 ++ [m]) = btV T1 ++ [.pointer (some ⟨m.b, 0, none⟩)] := by simp [btV]
  have hc : Chg (fun k => blk ba1 = some k ∨ k = s) w w5 := ((Chg.of_below hA).same (Chg.of_grown hg (fun k hk => .inl hk))).same (Chg.of_grown hs (fun k hk => by cases hk; exact .inr rfl))
  have key : ∀ t, BtM w B t → BtM w5 B t := fun t ht => ht.chg hc (fun k hk e => by
    rcases e with e | rfl
    · exact ht.not (ty_own h.st.row e).1 (by decide) (by decide) (by decide) hk
    · exact ht.not ⟨_, h.st.box⟩ (by decide) (by decide) (by decide) hk)
  have hsz : w1.heap.size ≤ w.heap.size := h.chg.size
  refine ⟨⟨by rw [hlen]; exact hb, ?_, h.st.lo, ?_, ?_⟩, ?_, ?_, ?_, ?_, ?_⟩
  · rw [hlen, hbt]
    exact own_keep ho hs (fun k hk e => by
      cases hk
      have h2 : TyAt w2 s 71 := ⟨_, Chg.box h.st.box ((Chg.of_below hA).same (Chg.of_grown (F := fun k => blk ba1 = some k) hg (fun k hk => hk))) (fun e => (ty_own h.st.row e).1.ne ⟨_, h.st.box⟩ (by decide) rfl)⟩
      exact (ty_own ho e).1.ne h2 (by decide) rfl)
  · intro t ht
    rcases List.mem_append.1 ht with ht | ht
    · exact key t (h.st.each t ht)
    · rw [List.mem_singleton.1 ht]; exact key m h.bt
  · rw [List.pairwise_append]
    refine ⟨h.st.dis, List.pairwise_singleton _ _, fun a ha b hb => ?_⟩
    rw [List.mem_singleton.1 hb]
    exact (h.dis a ha).symm
  · exact h.chg.trans hc (fun k hk => by
      rcases hk with hk | rfl
      · exact h.foot k (.inl (.inr (.inl hk)))
      · exact h.foot k (.inl (.inl rfl)))
  · intro k hk
    rcases hk with rfl | hk | ⟨t, ht, hk⟩
    · exact h.foot k (.inl (.inl rfl))
    · rcases hn with e | ⟨g, e, hg⟩
      · exact h.foot k (.inl (.inr (.inl (e ▸ hk))))
      · rw [e] at hk; cases hk
        exact .inr (by have := hA.size; omega)
    · rcases List.mem_append.1 ht with ht | ht
      · exact h.foot k (.inl (.inr (.inr ⟨t, ht, hk⟩)))
      · rw [List.mem_singleton.1 ht] at hk
        exact h.foot k (.inr hk)
  · have e : allL (T1 ++ [m]) = allL T1 ++ m.L := by simp [allL]
    rw [e]; exact h.perm
  · have := h.len
    rw [hlen]; omega
  · intro t ht
    have := h.len
    rcases List.mem_append.1 ht with ht | ht
    · have := h.pws t ht; omega
    · rw [List.mem_singleton.1 ht]; omega

end Go.Proofs.YtladgklnacihkaaGreat.Dy

/- Points that come and go: a point is put. -/
namespace Go.Proofs.YtladgklnacihkaaGreat.Dy
set_option linter.unusedVariables false
open Go.RowKit

set_option maxRecDepth 100000 in
set_option maxHeartbeats 32000000 in
theorem put_any (B s : Nat) (ba : Option Addr) (bc : Nat) (T : List Bt) (nx ct : Nat) (p : Pt) (w : World) (h : StM w B s ba bc T nx ct) (hct : (allL T).length = ct) (hct2 : ct ≤ 149) (hT : T.length ≤ nx) (hpw : ∀ t ∈ T, t.pw ≤ nx) (hnx : nx ≤ 1000) (hp : p.Near) (hB : B ≤ w.heap.size) :
    Calls Tryz.prog 39 #[.pointer (some ⟨s, 0, none⟩), .agg #[.int .i64 p.x, .int .i64 p.y, .int .i64 p.w]] w fun e w' => ∃ (ba' : Option Addr) (bc' : Nat) (T' : List Bt), e = .returned (.agg #[.int .i64 0, .int .i64 (nx : Int), .slice none 0 0]) ∧
      (allL T').Perm (allL T ++ [((nx : Int), p)]) ∧ T'.length ≤ nx + 1 ∧ (∀ t ∈ T', t.pw ≤ nx + 1) ∧ Kp (StM w' B s ba' bc' T' (nx + 1) (ct + 1)) ∧ Kp (Chg (Foot s ba T) w w') ∧ Kp (∀ k, Foot s ba' T' k → Foot s ba T k ∨ w.heap.size ≤ k) := by
  have ha := (below_alloc (Nat.le_refl w.heap.size) (.cells #[.int .i64 p.x, .int .i64 p.y, .int .i64 p.w] 28))
  have ha2 := below_then_alloc ha (.cells #[.int .i64 0, .int .i64 0, .slice none 0 0] 39)
  have HA := Kp.mk ha2
  have H1 := Kp.mk (h.below ha2)
  have HP1 := Kp.mk ((Box.new w #[.int .i64 p.x, .int .i64 p.y, .int .i64 p.w] 28).alloc (.cells #[.int .i64 0, .int .i64 0, .slice none 0 0] 39))
  have hr1 := Box.new (w.alloc (.cells #[.int .i64 p.x, .int .i64 p.y, .int .i64 p.w] 28)) #[.int .i64 0, .int .i64 0, .slice none 0 0] 39
  rw [alloc_size] at hr1
  have HR1 := Kp.mk hr1
  have HFT := Kp.mk (fun k (hk : Foot s ba T k) => (h.lo_foot hk).2)
  obtain ⟨q, hq⟩ : ∃ q, w.heap.size = q := ⟨_, rfl⟩
  obtain ⟨w1, hw1⟩ : ∃ w1, (w.alloc (.cells #[.int .i64 p.x, .int .i64 p.y, .int .i64 p.w] 28)).alloc (.cells #[.int .i64 0, .int .i64 0, .slice none 0 0] 39) = w1 := ⟨_, rfl⟩
  rw [hw1] at HA H1 HR1 HP1
  rw [hq] at HR1 HP1 HFT hB
  have HQ := Kp.mk hq
  have HW1 := Kp.mk hw1
  have HCT := Kp.mk hct
  have HPW := Kp.mk hpw
  obtain ⟨n, hn⟩ : ∃ n, T.length = n := ⟨_, rfl⟩
  have HN := Kp.mk hn
  obtain ⟨px, py, pw⟩ := p
  obtain ⟨⟨x1, x2⟩, ⟨y1, y2⟩, v1, v2⟩ := hp
  simp only at x1 x2 y1 y2 v1 v2 HP1 HW1
  have FX := Kp.mk (fun W => fits_any px W ⟨x1, x2⟩)
  have FY := Kp.mk (fun W => fits_any py W ⟨y1, y2⟩)
  have FV := Kp.mk (fun W => fits_any pw W ⟨v1, v2⟩)
  have hbx := H1.out.box
  rw [hn] at hbx hT
  have z0 : w1.cell? ⟨s, 0, none⟩ = some (.slice ba n bc) := hbx.cell 0 rfl
  have z1 : w1.cell? ⟨s, 1, none⟩ = some (.int .i64 (nx : Int)) := hbx.cell 1 rfl
  have z2 : w1.cell? ⟨s, 2, none⟩ = some (.int .i64 (ct : Int)) := hbx.cell 2 rfl
  have p0 : w1.cell? ⟨q, 0, none⟩ = some (.int .i64 px) := HP1.out.cell 0 rfl
  have p1 : w1.cell? ⟨q, 1, none⟩ = some (.int .i64 py) := HP1.out.cell 1 rfl
  have p2 : w1.cell? ⟨q, 2, none⟩ = some (.int .i64 pw) := HP1.out.cell 2 rfl
  have HBX := Kp.mk hbx
  have t150 : ((ct : Int) == 150) = false := by rw [beq_eq_false_iff_ne]; omega
  clear h ha ha2 hr1 hq hw1 hct hpw hn hbx x1 x2 y1 y2 v1 v2
  go_enter Tryz.func39, Tryz.ntmps39
  go_upto_region 1 with (fail)
  simp only [HQ.out]
  rw [HW1.out]
  clear HW1
  go_upto_region 5 with (first
    | (go_at_call 58; with_reducible refine (FX.out _).mono ?_; rintro e w' ⟨rfl, rfl⟩)
    | (go_at_call 58; with_reducible refine (FY.out _).mono ?_; rintro e w' ⟨rfl, rfl⟩)
    | (go_at_call 58; with_reducible refine (FV.out _).mono ?_; rintro e w' ⟨rfl, rfl⟩)
    | fail)
  clear FX FY FV
  have hS0 : w1.cell? ⟨s, 1, none⟩ = some (.int .i64 (nx : Int)) ∧ w1.cell? ⟨q, 0, none⟩ = some (.int .i64 px) ∧ w1.cell? ⟨q, 1, none⟩ = some (.int .i64 py) ∧ w1.cell? ⟨q, 2, none⟩ = some (.int .i64 pw) := ⟨z1, p0, p1, p2⟩
  have hSS : ∀ W, Below w1.heap.size w1 W → W.cell? ⟨s, 1, none⟩ = some (.int .i64 (nx : Int)) ∧ W.cell? ⟨q, 0, none⟩ = some (.int .i64 px) ∧ W.cell? ⟨q, 1, none⟩ = some (.int .i64 py) ∧ W.cell? ⟨q, 2, none⟩ = some (.int .i64 pw) := fun W hW => ⟨(HBX.out.below hW).cell 1 rfl, (HP1.out.below hW).cell 0 rfl, (HP1.out.below hW).cell 1 rfl, (HP1.out.below hW).cell 2 rfl⟩
  have hB1 : B ≤ w1.heap.size := by have := HA.out.size; have := HQ.out; omega
  go_cut [5] (fun v5 wx => ∃ nb mb gi gp, v5 = .pointer (some ⟨nb, 0, none⟩) ∧ Kp (NewB B nx ⟨px, py, pw⟩ w1 wx nb mb gi gp))
  case first =>
    go_region_held3 (fun W => W.cell? ⟨s, 1, none⟩ = some (.int .i64 (nx : Int)) ∧ W.cell? ⟨q, 0, none⟩ = some (.int .i64 px) ∧ W.cell? ⟨q, 1, none⟩ = some (.int .i64 py) ∧ W.cell? ⟨q, 2, none⟩ = some (.int .i64 pw))
      (first | exact hS0 | exact hSS _ (below_alloc (Nat.le_refl _) _).drew | exact hSS _ (below_then_alloc (below_alloc (Nat.le_refl _) _) _).drew | exact hSS _ (below_then_alloc (below_then_alloc (below_alloc (Nat.le_refl _) _) _) _).drew | exact hSS _ (below_then_alloc (below_then_alloc (below_then_alloc (below_alloc (Nat.le_refl _) _) _) _) _).drew | go_keep)
      (fail)
    all_goals
      go_wp2
      go_meet
      first | exact ⟨_, _, _, _, rfl, ⟨new_IQTX B nx px py pw w1 hB1⟩⟩ | exact ⟨_, _, _, _, rfl, ⟨new_IQXT B nx px py pw w1 hB1⟩⟩ | exact ⟨_, _, _, _, rfl, ⟨new_ITQX B nx px py pw w1 hB1⟩⟩ | exact ⟨_, _, _, _, rfl, ⟨new_QITX B nx px py pw w1 hB1⟩⟩ | exact ⟨_, _, _, _, rfl, ⟨new_QIXT B nx px py pw w1 hB1⟩⟩ | exact ⟨_, _, _, _, rfl, ⟨new_QTIX B nx px py pw w1 hB1⟩⟩ | exact ⟨_, _, _, _, rfl, ⟨new_TIQX B nx px py pw w1 hB1⟩⟩ | exact ⟨_, _, _, _, rfl, ⟨new_TQIX B nx px py pw w1 hB1⟩⟩
  case rest =>
  obtain ⟨nb, mb, gi, gp, rfl, HNB⟩ := hcut
  clear hS0 hSS z0 z1 z2 p0 p1 p2
  obtain ⟨w2, rfl⟩ : ∃ w2 : World, w2 = wc := ⟨_, rfl⟩
  have HI0 := Kp.mk (PutI.start H1.out HNB.out HPW.out)
  have HFB := Kp.mk (HNB.out.below)
  have HR2 := Kp.mk (HR1.out.below HNB.out.below)
  have hbx2 := HBX.out.below HNB.out.below
  have z0 : w2.cell? ⟨s, 0, none⟩ = some (.slice ba n bc) := hbx2.cell 0 rfl
  have hrw := own_slc HI0.out.st.row
  rw [HN.out] at hrw
  have CI := Kp.mk (indexBt_any ba bc n nb mb 0 B T _ _ w2 hrw HN.out (by omega) HI0.out.st.each HNB.out.nbx HNB.out.bt.box)
  clear HNB HBX hbx2 hrw HR1 HP1
  go_wp2_with fail
  refine CI.out.mono ?_
  rintro e w3 ⟨r, rfl, hr, hb3⟩
  have HR3 := Kp.mk (HR2.out.below hb3.out)
  have HI3 : Kp (∃ m, m.pw = 0 ∧ PutI B s nb nx ct ba T ⟨px, py, pw⟩ w1 w3 ba bc T m) := ⟨_, rfl, HI0.out.below hb3.out⟩
  clear HR2 CI z0
  go_wp2
  go_loopw [7] (fun i wr => ∃ (r : Int) (ba1 : Option Addr) (bc1 : Nat) (T1 : List Bt) (m : Bt), i = .int .i64 r ∧ (r = -1 ∨ ∃ j : Nat, r = j ∧ ∃ hj : j < T1.length, T1[j].pw = m.pw) ∧ Kp (PutI B s nb nx ct ba T ⟨px, py, pw⟩ w1 wr ba1 bc1 T1 m) ∧ Kp (Box wr (q + 1) #[.int .i64 0, .int .i64 0, .slice none 0 0] 39)) (fun i wr => sliceLen ((wr.cell? ⟨s, 0, none⟩).getD undef))
  case atStart =>
    obtain ⟨m, hm0, hI⟩ := HI3.out
    exact ⟨r, ba, bc, T, m, rfl, by rw [hm0]; exact hr, ⟨hI⟩, HR3⟩
  case round =>
    obtain ⟨r, ba1, bc1, T1, m, rfl, hr, HI, HR⟩ := hrel
    clear HI0 HFB HR3 HI3 hb3
    have hln := HI.out.len
    rw [HN.out] at hln
    have hrow := HI.out.st.row
    have hsb := HI.out.st.box
    obtain ⟨n1, hn1⟩ : ∃ n1, T1.length = n1 := ⟨_, rfl⟩
    rw [hn1] at hln hrow hsb
    have HN1 := Kp.mk hn1
    have z0 : wr.cell? ⟨s, 0, none⟩ = some (.slice ba1 n1 bc1) := hsb.cell 0 rfl
    have HSB := Kp.mk hsb
    clear hsb
    rcases hr with rfl | ⟨j, rfl, hj, hjp⟩
    · have HNX := Kp.mk HI.out.nbx
      have HROW := Kp.mk hrow
      have x0 : wr.cell? ⟨nb, 0, none⟩ = some (.pointer (some ⟨m.b, 0, none⟩)) := HNX.out.cell 0 rfl
      have x0d : wr.drew.cell? ⟨nb, 0, none⟩ = some (.pointer (some ⟨m.b, 0, none⟩)) := x0
      have x0a : ∀ o, (wr.alloc o).cell? ⟨nb, 0, none⟩ = some (.pointer (some ⟨m.b, 0, none⟩)) := fun o => (HNX.out.alloc o).cell 0 rfl
      have z0d : wr.drew.cell? ⟨s, 0, none⟩ = some (.slice ba1 n1 bc1) := z0
      have z0a : ∀ o, (wr.alloc o).cell? ⟨s, 0, none⟩ = some (.slice ba1 n1 bc1) := fun o => (HSB.out.alloc o).cell 0 rfl
      have hBr : B ≤ wr.heap.size := Nat.le_trans HI.out.st.lo (Nat.le_of_lt HSB.out.lt)
      obtain ⟨mb, hmb⟩ : ∃ k, m.b = k := ⟨_, rfl⟩
      rw [hmb] at x0 x0d x0a
      have HMB := Kp.mk hmb
      clear hrow hmb
      go_upto_region 13 with (fail)
      refine wp_region_noPanic ?_
      refine wp_region_held_drew (S := (fun W => W.cell? ⟨nb, 0, none⟩ = some (.pointer (some ⟨mb, 0, none⟩)))) (by kernel_rfl) ?_ (fun hHeld => ?_)
      · exact x0
      refine wpAnyH_take (i := 0) (v := ?_) rfl (by kernel_rfl) (by kernel_rfl) (by kernel_rfl) (fun _ _ _ h => h) (Or.inl ⟨by rfl, ?_⟩) (by assumption) ?_
      rotate_left
      · (intro w hSw; (try dsimp only at hSw); go_simp; try with_reducible rfl)
      try simp only [Act.put]
      refine wpAnyH_take (i := 1) (v := ?_) rfl (by kernel_rfl) (by kernel_rfl) (by kernel_rfl) (fun _ _ _ h => h) (Or.inl ⟨by rfl, ?_⟩) (by assumption) ?_
      rotate_left
      · (intro w hSw; (try dsimp only at hSw); go_simp; try with_reducible rfl)
      try simp only [Act.put]
      refine wpAnyH_take (i := 2) (v := ?_) rfl (by kernel_rfl) (by kernel_rfl) (by kernel_rfl) (fun _ _ _ h => h) (Or.inl ⟨by rfl, ?_⟩) (by assumption) ?_
      rotate_left
      · (intro w hSw; (try dsimp only at hSw); go_simp; try with_reducible rfl)
      try simp only [Act.put]
      refine wpAnyH_take (i := 3) (v := ?_) rfl (by kernel_rfl) (by kernel_rfl) (by kernel_rfl) (fun _ _ _ h => h) (Or.inl ⟨by rfl, ?_⟩) (by assumption) ?_
      rotate_left
      · (intro w hSw; (try dsimp only at hSw); go_simp; try with_reducible rfl)
      try simp only [Act.put]
      refine wpAnyH_take (i := 5) (v := ?_) rfl (by kernel_rfl) (by kernel_rfl) (by kernel_rfl) (fun _ _ _ h => h) (Or.inl ⟨by rfl, ?_⟩) (by assumption) ?_
      rotate_left
      · (intro w hSw; (try dsimp only at hSw); go_simp; try with_reducible rfl)
      try simp only [Act.put]
      refine wpAnyH_ready (rs := [4, 6]) (by kernel_rfl) (by simp) ?_
      refine AllReadyH.cons rfl (fun K hK => ?_) (AllReadyH.cons rfl (fun K hK => ?_) AllReadyH.nil)
      go_simp
      refine hK.out _ _ ?_ (fun hHeld => ?_)
      · first | exact x0 | exact x0a _
      clear hK K
      try simp only [Act.put]
      refine wpAnyH_ready (rs := [6]) (by kernel_rfl) (by simp) ?_
      refine AllReadyH.cons rfl (fun K hK => ?_) AllReadyH.nil
      go_simp
      refine hK.out _ _ ?_ (fun hHeld => ?_)
      · exact x0a _
      clear hK K
      try simp only [Act.put]
      refine wpAnyH_ready (rs := [7]) (by kernel_rfl) (by simp) ?_
      refine AllReadyH.cons rfl (fun K hK => ?_) AllReadyH.nil
      refine step_push tBts (by rfl) _ _ (by rfl) B ba1 n1 bc1 (btV T1) (by rfl) ((HROW.out.alloc _).drew) 1 wr.heap.size _ (heap_alloc_new wr _) (by rfl) (by rfl) (by simp [Value.oneCell']) (by omega) (by omega) (by omega) (by show B ≤ (wr.alloc _).heap.size; rw [alloc_size]; omega) ?_
      intro ra' rc' w2 hown2 hgr2 hno2
      have hA : Below wr.heap.size wr (wr.alloc (.cells #[.pointer (some ⟨mb, 0, none⟩)] 121)).drew := (below_alloc (Nat.le_refl _) _).drew
      have hB2 := Chg.box HSB.out ((Chg.of_below hA).same (Chg.of_grown (F := fun k => blk ba1 = some k) hgr2 (fun k hk => hk))) (fun e => (ty_own HROW.out e).1.ne ⟨_, HSB.out⟩ (by decide) rfl)
      have hX2 := Chg.box HNX.out ((Chg.of_below hA).same (Chg.of_grown (F := fun k => blk ba1 = some k) hgr2 (fun k hk => hk))) HI.out.rown
      have hS2 : w2.cell? ⟨nb, 0, none⟩ = some (.pointer (some ⟨mb, 0, none⟩)) := by rw [← HMB.out]; exact hX2.cell 0 rfl
      have hS3 : ∀ v, (w2.setCell ⟨s, 0, none⟩ v).cell? ⟨nb, 0, none⟩ = some (.pointer (some ⟨mb, 0, none⟩)) := fun v => by rw [← HMB.out]; exact (Chg.box hX2 (chg_set (fun k => k = s) w2 s 0 v rfl) (fun e => TyAt.ne ⟨_, HNX.out⟩ ⟨_, HSB.out⟩ (by decide) e)).cell 0 rfl
      have fr2 : w2.frozen? ⟨s, 0, none⟩ = false := hB2.free 0
      have zz2 : w2.cell? ⟨s, 0, none⟩ = some (.slice ba1 n1 bc1) := hB2.cell 0 rfl
      clear hX2
      refine hK.out _ _ ?_ (fun hHeld => ?_)
      · exact hS2
      clear hK K
      try simp only [Act.put]
      refine wpAnyH_take (i := 8) (v := ?_) rfl (by kernel_rfl) (by kernel_rfl) (by kernel_rfl) (fun _ _ _ h => h) (Or.inl ⟨by rfl, ?_⟩) (by assumption) ?_
      rotate_left
      · (intro w hSw; (try dsimp only at hSw); go_simp; try with_reducible rfl)
      try simp only [Act.put]
      refine wpAnyH_take (i := 9) (v := ?_) rfl (by kernel_rfl) (by kernel_rfl) (by kernel_rfl) (fun _ _ _ h => h) (Or.inl ⟨by rfl, ?_⟩) (by assumption) ?_
      rotate_left
      · (intro w hSw; (try dsimp only at hSw); go_simp; try with_reducible rfl)
      try simp only [Act.put]
      refine wpAnyH_ready (rs := [10]) (by kernel_rfl) (by simp) ?_
      refine AllReadyH.cons rfl (fun K hK => ?_) AllReadyH.nil
      go_simp
      refine hK.out _ _ ?_ (fun hHeld => ?_)
      · exact hS3 _
      clear hK K
      try simp only [Act.put]
      refine wpAnyH_done (by kernel_rfl) ?_ _
      refine NoPanic.normal ?_
      rotate_left
      go_simp
      refine hK.out _ _ ?_ (fun hHeld => ?_)
      · exact x0a _
      clear hK K
      try simp only [Act.put]
      refine wpAnyH_ready (rs := [4]) (by kernel_rfl) (by simp) ?_
      refine AllReadyH.cons rfl (fun K hK => ?_) AllReadyH.nil
      go_simp
      refine hK.out _ _ ?_ (fun hHeld => ?_)
      · first | exact x0 | exact x0a _
      clear hK K
      try simp only [Act.put]
      refine wpAnyH_ready (rs := [7]) (by kernel_rfl) (by simp) ?_
      refine AllReadyH.cons rfl (fun K hK => ?_) AllReadyH.nil
      refine step_push tBts (by rfl) _ _ (by rfl) B ba1 n1 bc1 (btV T1) (by rfl) ((HROW.out.alloc _).drew) 1 wr.heap.size _ (heap_alloc_new wr _) (by rfl) (by rfl) (by simp [Value.oneCell']) (by omega) (by omega) (by omega) (by show B ≤ (wr.alloc _).heap.size; rw [alloc_size]; omega) ?_
      intro ra' rc' w2 hown2 hgr2 hno2
      have hA : Below wr.heap.size wr (wr.alloc (.cells #[.pointer (some ⟨mb, 0, none⟩)] 121)).drew := (below_alloc (Nat.le_refl _) _).drew
      have hB2 := Chg.box HSB.out ((Chg.of_below hA).same (Chg.of_grown (F := fun k => blk ba1 = some k) hgr2 (fun k hk => hk))) (fun e => (ty_own HROW.out e).1.ne ⟨_, HSB.out⟩ (by decide) rfl)
      have hX2 := Chg.box HNX.out ((Chg.of_below hA).same (Chg.of_grown (F := fun k => blk ba1 = some k) hgr2 (fun k hk => hk))) HI.out.rown
      have hS2 : w2.cell? ⟨nb, 0, none⟩ = some (.pointer (some ⟨mb, 0, none⟩)) := by rw [← HMB.out]; exact hX2.cell 0 rfl
      have hS3 : ∀ v, (w2.setCell ⟨s, 0, none⟩ v).cell? ⟨nb, 0, none⟩ = some (.pointer (some ⟨mb, 0, none⟩)) := fun v => by rw [← HMB.out]; exact (Chg.box hX2 (chg_set (fun k => k = s) w2 s 0 v rfl) (fun e => TyAt.ne ⟨_, HNX.out⟩ ⟨_, HSB.out⟩ (by decide) e)).cell 0 rfl
      have fr2 : w2.frozen? ⟨s, 0, none⟩ = false := hB2.free 0
      have zz2 : w2.cell? ⟨s, 0, none⟩ = some (.slice ba1 n1 bc1) := hB2.cell 0 rfl
      clear hX2
      refine hK.out _ _ ?_ (fun hHeld => ?_)
      · exact hS2
      clear hK K
      try simp only [Act.put]
      refine wpAnyH_take (i := 8) (v := ?_) rfl (by kernel_rfl) (by kernel_rfl) (by kernel_rfl) (fun _ _ _ h => h) (Or.inl ⟨by rfl, ?_⟩) (by assumption) ?_
      rotate_left
      · (intro w hSw; (try dsimp only at hSw); go_simp; try with_reducible rfl)
      try simp only [Act.put]
      refine wpAnyH_take (i := 9) (v := ?_) rfl (by kernel_rfl) (by kernel_rfl) (by kernel_rfl) (fun _ _ _ h => h) (Or.inl ⟨by rfl, ?_⟩) (by assumption) ?_
      rotate_left
      · (intro w hSw; (try dsimp only at hSw); go_simp; try with_reducible rfl)
      try simp only [Act.put]
      refine wpAnyH_ready (rs := [10]) (by kernel_rfl) (by simp) ?_
      refine AllReadyH.cons rfl (fun K hK => ?_) AllReadyH.nil
      go_simp
      refine hK.out _ _ ?_ (fun hHeld => ?_)
      · exact hS3 _
      clear hK K
      try simp only [Act.put]
      refine wpAnyH_done (by kernel_rfl) ?_ _
      refine NoPanic.normal ?_
      rotate_left
      all_goals
        clear z0d z0a x0d x0a x0 z0
        have HA2 := Kp.mk hA
        have HG2 := Kp.mk hgr2
        have HO2 := Kp.mk hown2
        have HN2 := Kp.mk hno2
        have HR2 := Kp.mk (Chg.box HR.out ((Chg.of_below hA).same (Chg.of_grown (F := fun k => blk ba1 = some k) hgr2 (fun k hk => hk))) (fun e => TyAt.ne ⟨_, HR.out⟩ (ty_own HROW.out e).1 (by decide) rfl))
        have hb3 := bx_set hB2 (i := 0) (.slice ra' (n1 + 1) rc')
        have hg3 := grown_set w2 s 0 (.slice ra' (n1 + 1) rc')
        generalize w2.setCell ⟨s, 0, none⟩ (.slice ra' (n1 + 1) rc') = w3 at *
        simp only [List.setIfInBounds_toArray, List.set_cons_zero] at hb3
        have HB3 := Kp.mk hb3
        have y1 : w3.cell? ⟨s, 1, none⟩ = some (.int .i64 (nx : Int)) := hb3.cell 1 rfl
        have g1 : w3.frozen? ⟨s, 1, none⟩ = false := hb3.free 1
        have e1 : IntKind.i64.wrap ((nx : Int) + 1) = (nx : Int) + 1 := IntWalk.i64_in _ (by omega)
        have e2 : IntKind.i64.wrap ((ct : Int) + 1) = (ct : Int) + 1 := IntWalk.i64_in _ (by omega)
        have e3 : IntKind.i64.wrap ((nx : Int) + 1 - 1) = (nx : Int) := by rw [show (nx : Int) + 1 - 1 = nx by omega]; exact IntWalk.i64_in _ (by omega)
        clear hA hgr2 hown2 hno2 hB2 hb3 hS2
        go_upto_region 15 with (fail)
        have hb4 := bx_set HB3.out (i := 1) (.int .i64 ((nx : Int) + 1))
        have hg4 := grown_trans hg3 (grown_set w3 s 1 (.int .i64 ((nx : Int) + 1)))
        generalize w3.setCell ⟨s, 1, none⟩ (.int .i64 ((nx : Int) + 1)) = w4 at *
        simp only [List.setIfInBounds_toArray, List.set_cons_succ, List.set_cons_zero] at hb4
        have HB4 := Kp.mk hb4
        have y2 : w4.cell? ⟨s, 2, none⟩ = some (.int .i64 (ct : Int)) := hb4.cell 2 rfl
        have g2 : w4.frozen? ⟨s, 2, none⟩ = false := hb4.free 2
        clear hb4 hg3 y1 g1 HB3
        go_upto_region 16 with (fail)
        have hb5 := bx_set HB4.out (i := 2) (.int .i64 ((ct : Int) + 1))
        have hg5 := grown_trans hg4 (grown_set w4 s 2 (.int .i64 ((ct : Int) + 1)))
        generalize w4.setCell ⟨s, 2, none⟩ (.int .i64 ((ct : Int) + 1)) = w5 at *
        simp only [List.setIfInBounds_toArray, List.set_cons_succ, List.set_cons_zero] at hb5
        clear hg4 y2 g2 HB4
        obtain ⟨hst, hch, hft, hpm, hle, hpws⟩ := HI.out.last HA2.out HG2.out (by rw [HN1.out, HMB.out]; exact HO2.out) HN2.out hg5 (by rw [HN1.out]; push_cast; exact hb5) (by rw [HN.out]; exact hT)
        have hR5 := Chg.box HR2.out (Chg.of_grown (F := fun k => k = s) hg5 (fun k hk => by cases hk; rfl)) (fun e => TyAt.ne ⟨_, HR2.out⟩ ⟨_, Chg.box HSB.out ((Chg.of_below HA2.out).same (Chg.of_grown (F := fun k => blk ba1 = some k) HG2.out (fun k hk => hk))) (fun e => (ty_own HROW.out e).1.ne ⟨_, HSB.out⟩ (by decide) rfl)⟩ (by decide) e)
        have y1 : w5.cell? ⟨s, 1, none⟩ = some (.int .i64 ((nx : Int) + 1)) := hb5.cell 1 rfl
        have r0 : w5.cell? ⟨q + 1, 0, none⟩ = some (.int .i64 0) := hR5.cell 0 rfl
        have r1 : w5.cell? ⟨q + 1, 1, none⟩ = some (.int .i64 0) := hR5.cell 1 rfl
        have r2 : w5.cell? ⟨q + 1, 2, none⟩ = some (.slice none 0 0) := hR5.cell 2 rfl
        have f0 : w5.frozen? ⟨q + 1, 0, none⟩ = false := hR5.free 0
        have f1 : w5.frozen? ⟨q + 1, 1, none⟩ = false := hR5.free 1
        have f2 : w5.frozen? ⟨q + 1, 2, none⟩ = false := hR5.free 2
        have HP := ans_put hR5 (.int .i64 0) (.int .i64 (nx : Int)) (.slice none 0 0)
        have HPB := Kp.mk HP.1
        have HF := Kp.mk (hst.ans hR5 HP.2)
        have HFT2 := Kp.mk (fun k (hk : Foot s ra' (T1 ++ [m]) k) => (hft k hk).imp id (fun h => Nat.le_trans HA.out.size h))
        have HC := Kp.mk (chg_new (((Chg.of_below (F := Foot s ba T) HA.out)).same hch) HP.2 (by have := HQ.out; omega))
        have HPM := Kp.mk hpm
        have HLE := Kp.mk hle
        have HPS := Kp.mk hpws
        clear hst hch hft hpm hle hpws hb5 hR5 HP hg5 HI
        go_wp2
        generalize ((w5.setCell ⟨q + 1, 0, none⟩ (.int .i64 0)).setCell ⟨q + 1, 1, none⟩ (.int .i64 (nx : Int))).setCell ⟨q + 1, 2, none⟩ (.slice none 0 0) = w6 at *
        have p0 : w6.cell? ⟨q + 1, 0, none⟩ = some (.int .i64 0) := HPB.out.cell 0 rfl
        have p1 : w6.cell? ⟨q + 1, 1, none⟩ = some (.int .i64 (nx : Int)) := HPB.out.cell 1 rfl
        have p2 : w6.cell? ⟨q + 1, 2, none⟩ = some (.slice none 0 0) := HPB.out.cell 2 rfl
        exact bodyPost_ret (v := .agg #[.int .i64 0, .int .i64 (nx : Int), .slice none 0 0]) (by simp [results, Tryz.results39, go_sem, p0, p1, p2]) rfl ⟨rfl, ra', rc', T1 ++ [m], HPM.out, HLE.out, HPS.out, HF, HC, HFT2⟩
    · have hj1 : j < n1 := by omega
      obtain ⟨g, rfl, hgB, hgw⟩ := own_some hrow (by omega)
      have hgs : g ≠ s := (ty_own hrow rfl).1.ne ⟨_, HSB.out⟩ (by decide)
      have CD := Kp.mk (delBt_any B g n1 bc1 j (btV T1) wr hrow hj1 (by omega) (btV_one _))
      have c1 : wr.cell? ⟨g, j, none⟩ = some (.pointer (some ⟨T1[j].b, 0, none⟩)) := own_atK hrow j _ (by simp [btV, hj])
      have t0 : decide ((0 : Int) ≤ (j : Int)) = true := decide_eq_true (by omega)
      have t1 : decide ((j : Int) ≥ 0) = true := decide_eq_true (by omega)
      have ew : IntKind.i64.wrap ((j : Int) + 1) = (j : Int) + 1 := IntWalk.i64_in _ (by omega)
      have HJP := Kp.mk hjp
      have HJ := Kp.mk hj
      have HROW := Kp.mk hrow
      obtain ⟨u, hu⟩ : ∃ u, T1[j] = u := ⟨_, rfl⟩
      rw [hu] at c1
      have HU := Kp.mk hu
      clear hjp hrow hu
      go_wp2_with fail
      refine CD.out.mono ?_
      rintro e w4 ⟨rfl, HRW, HG⟩
      rw [cutL_btV T1 j HJ.out] at HRW
      have hcut := HI.out.cut HJ.out HG.out (by rw [HN1.out]; exact HRW.out)
      rw [HU.out] at hcut
      simp only [HN1.out] at hcut
      have hb4 : Box w4 s _ _ := Chg.box HSB.out (Chg.of_grown (F := fun k => k = g) HG.out (fun k hk => by cases hk; rfl)) (fun e => hgs e.symm)
      have z4 : w4.cell? ⟨s, 0, none⟩ = some (.slice (some ⟨g, 0, none⟩) n1 bc1) := hb4.cell 0 rfl
      have f4 : w4.frozen? ⟨s, 0, none⟩ = false := hb4.free 0
      obtain ⟨w5, hw5⟩ : ∃ w5, w4.setCell ⟨s, 0, none⟩ (.slice (some ⟨g, 0, none⟩) (n1 - 1) bc1) = w5 := ⟨_, rfl⟩
      rw [hw5] at hcut
      have HW5 := Kp.mk hw5
      have HC := Kp.mk hcut.1
      have HC4 := Kp.mk hcut.2
      clear CD hcut hb4 hw5 c1 z0
      go_upto_region 12 with (fail)
      rw [HW5.out]
      clear z4 f4 HW5
      have hR5 := Chg.box HR.out HC4.out (fun e => by
        rcases e with e | e
        · exact TyAt.ne ⟨_, HR.out⟩ ⟨_, HSB.out⟩ (by decide) e
        · exact TyAt.ne ⟨_, HR.out⟩ (ty_own HROW.out rfl).1 (by decide) e)
      have HR5 := Kp.mk hR5
      have HJP2 := Kp.mk (show u.pw = m.pw from by rw [← HU.out]; exact HJP.out)
      have htot : u.L.length + m.L.length ≤ 1000 := by
        have h1 := HI.out.perm.length_eq
        rw [List.length_append, List.length_append, HCT.out] at h1
        have h2 := allL_len HJ.out
        rw [HU.out] at h2
        simp at h1; omega
      obtain ⟨ub, up, uia, uic, upa, upc, uL⟩ := u
      obtain ⟨mb, mp, mia, mic, mpa, mpc, mL⟩ := m
      simp only at HJP2 htot hln
      have hup : up = mp := HJP2.out
      obtain ⟨ul, hul⟩ : ∃ ul, ul = uL.length := ⟨_, rfl⟩
      obtain ⟨ml, hml⟩ : ∃ ml, ml = mL.length := ⟨_, rfl⟩
      have HUL := Kp.mk hul
      have HML := Kp.mk hml
      have bu : Box w5 ub #[.int .i64 (up : Int), .slice uia ul uic, .slice upa ul upc] 123 := by rw [hul]; exact HC.out.hu.box
      have bm : Box w5 mb #[.int .i64 (mp : Int), .slice mia ml mic, .slice mpa ml mpc] 123 := by rw [hml]; exact HC.out.hm.box
      have HNX := Kp.mk HC.out.nbx
      have HBU := Kp.mk bu
      have HBM := Kp.mk bm
      have oiu : w5.ownsRow B 3 1 (.slice uia ul uic) ul (idV uL) := by rw [hul]; exact HC.out.hu.ids
      have oim : w5.ownsRow B 3 1 (.slice mia ml mic) ml (idV mL) := by rw [hml]; exact HC.out.hm.ids
      have HOU := Kp.mk oiu.drew
      have HOM := Kp.mk (own_slc oim.drew)
      rw [← hul, ← hml] at htot
      have ewp : IntKind.i64.wrap ((up : Int) + 1) = (up : Int) + 1 := IntWalk.i64_in _ (by omega)
      have hB5 : B ≤ w5.drew.heap.size := by show B ≤ w5.heap.size; have := HC.out.hu.lt (k := ub) (.inl rfl); have := HC.out.hu.lo; simp only at this; omega
      have HBXS := Kp.mk (fun (W : World) (h : Box W ub #[.int .i64 (up : Int), .slice uia ul uic, .slice upa ul upc] 123 ∧ Box W mb #[.int .i64 (mp : Int), .slice mia ml mic, .slice mpa ml mpc] 123 ∧ Box W nb #[.pointer (some ⟨mb, 0, none⟩)] 121) => show W.cell? ⟨ub, 0, none⟩ = some (.int .i64 (up : Int)) ∧ W.cell? ⟨ub, 1, none⟩ = some (.slice uia ul uic) ∧ W.cell? ⟨ub, 2, none⟩ = some (.slice upa ul upc) ∧ W.cell? ⟨mb, 1, none⟩ = some (.slice mia ml mic) ∧ W.cell? ⟨mb, 2, none⟩ = some (.slice mpa ml mpc) from ⟨h.1.cell 0 rfl, h.1.cell 1 rfl, h.1.cell 2 rfl, h.2.1.cell 1 rfl, h.2.1.cell 2 rfl⟩)
      have hS0 := HBXS.out w5 ⟨bu, bm, HNX.out⟩
      have H1S := Kp.mk (fun (W : World) (hg : w5.drew.grownBy W (blk uia)) => show (Box W ub #[.int .i64 (up : Int), .slice uia ul uic, .slice upa ul upc] 123 ∧ Box W mb #[.int .i64 (mp : Int), .slice mia ml mic, .slice mpa ml mpc] 123 ∧ Box W nb #[.pointer (some ⟨mb, 0, none⟩)] 121) ∧ W.ownsRow B 28 3 (.slice upa ul upc) ul (ptV uL) ∧ SlC W mpa ml mpc 3 (ptV mL) ∧ w5.heap.size ≤ W.heap.size from by
        have h := (HC.out.below (Below.refl _ w5).drew).cat1 hg
        simp only at h
        rw [← HUL.out, ← HML.out] at h
        exact ⟨⟨h.1, h.2.1, h.2.2.1⟩, h.2.2.2.1, own_slc h.2.2.2.2, hg.size⟩)
      have H2S := Kp.mk (fun (W W' : World) (h : Box W ub #[.int .i64 (up : Int), .slice uia ul uic, .slice upa ul upc] 123 ∧ Box W mb #[.int .i64 (mp : Int), .slice mia ml mic, .slice mpa ml mpc] 123 ∧ Box W nb #[.pointer (some ⟨mb, 0, none⟩)] 121) (ho : W.ownsRow B 28 3 (.slice upa ul upc) ul (ptV uL)) (hg' : W.grownBy W' (blk upa)) => show Box W' ub #[.int .i64 (up : Int), .slice uia ul uic, .slice upa ul upc] 123 ∧ Box W' mb #[.int .i64 (mp : Int), .slice mia ml mic, .slice mpa ml mpc] 123 ∧ Box W' nb #[.pointer (some ⟨mb, 0, none⟩)] 121 from by
        have hc : Chg (fun k => blk upa = some k) W W' := Chg.of_grown hg' (fun k hk => hk)
        exact ⟨Chg.box h.1 hc (fun e => (ty_own ho e).1.ne ⟨_, h.1⟩ (by decide) rfl), Chg.box h.2.1 hc (fun e => (ty_own ho e).1.ne ⟨_, h.2.1⟩ (by decide) rfl), Chg.box h.2.2 hc (fun e => (ty_own ho e).1.ne ⟨_, h.2.2⟩ (by decide) rfl)⟩)
      have HSN := Kp.mk (fun (W : World) (h : Box W ub #[.int .i64 (up : Int), .slice uia ul uic, .slice upa ul upc] 123 ∧ Box W mb #[.int .i64 (mp : Int), .slice mia ml mic, .slice mpa ml mpc] 123 ∧ Box W nb #[.pointer (some ⟨mb, 0, none⟩)] 121) (v : Value) => show (W.setCell ⟨nb, 0, none⟩ v).cell? ⟨ub, 0, none⟩ = some (.int .i64 (up : Int)) ∧ (W.setCell ⟨nb, 0, none⟩ v).cell? ⟨ub, 1, none⟩ = some (.slice uia ul uic) ∧ (W.setCell ⟨nb, 0, none⟩ v).cell? ⟨ub, 2, none⟩ = some (.slice upa ul upc) ∧ (W.setCell ⟨nb, 0, none⟩ v).cell? ⟨mb, 1, none⟩ = some (.slice mia ml mic) ∧ (W.setCell ⟨nb, 0, none⟩ v).cell? ⟨mb, 2, none⟩ = some (.slice mpa ml mpc) from by
        have hne1 : ub ≠ nb := TyAt.ne ⟨_, h.1⟩ ⟨_, h.2.2⟩ (by decide)
        have hne2 : mb ≠ nb := TyAt.ne ⟨_, h.2.1⟩ ⟨_, h.2.2⟩ (by decide)
        have hc : Chg (fun k => k = nb) W (W.setCell ⟨nb, 0, none⟩ v) := chg_set _ W nb 0 v rfl
        have k1 := Chg.box h.1 hc hne1
        have k2 := Chg.box h.2.1 hc hne2
        exact ⟨k1.cell 0 rfl, k1.cell 1 rfl, k1.cell 2 rfl, k2.cell 1 rfl, k2.cell 2 rfl⟩)
      have x5 : w5.cell? ⟨nb, 0, none⟩ = some (.pointer (some ⟨mb, 0, none⟩)) := HNX.out.cell 0 rfl
      have x5d : w5.drew.cell? ⟨nb, 0, none⟩ = some (.pointer (some ⟨mb, 0, none⟩)) := x5
      clear bu bm oiu oim hul hml hup
      refine wp_region_noPanic ?_
      refine wp_region_held_drew (S := (fun W => W.cell? ⟨ub, 0, none⟩ = some (.int .i64 (up : Int)) ∧ W.cell? ⟨ub, 1, none⟩ = some (.slice uia ul uic) ∧ W.cell? ⟨ub, 2, none⟩ = some (.slice upa ul upc) ∧ W.cell? ⟨mb, 1, none⟩ = some (.slice mia ml mic) ∧ W.cell? ⟨mb, 2, none⟩ = some (.slice mpa ml mpc))) (by kernel_rfl) ?_ (fun hHeld => ?_)
      · exact hS0
      refine wpAnyH_take (i := 0) (v := ?_) rfl (by kernel_rfl) (by kernel_rfl) (by kernel_rfl) (fun _ _ _ h => h) (Or.inl ⟨by rfl, ?_⟩) (by assumption) ?_
      rotate_left
      · (intro w hSw; (try dsimp only at hSw); go_simp; try with_reducible rfl)
      try simp only [Act.put]
      refine wpAnyH_take (i := 1) (v := ?_) rfl (by kernel_rfl) (by kernel_rfl) (by kernel_rfl) (fun _ _ _ h => h) (Or.inl ⟨by rfl, ?_⟩) (by assumption) ?_
      rotate_left
      · (intro w hSw; (try dsimp only at hSw); go_simp; try with_reducible rfl)
      try simp only [Act.put]
      refine wpAnyH_take (i := 2) (v := ?_) rfl (by kernel_rfl) (by kernel_rfl) (by kernel_rfl) (fun _ _ _ h => h) (Or.inl ⟨by rfl, ?_⟩) (by assumption) ?_
      rotate_left
      · (intro w hSw; (try dsimp only at hSw); go_simp; try with_reducible rfl)
      try simp only [Act.put]
      refine wpAnyH_take (i := 3) (v := ?_) rfl (by kernel_rfl) (by kernel_rfl) (by kernel_rfl) (fun _ _ _ h => h) (Or.inl ⟨by rfl, ?_⟩) (by assumption) ?_
      rotate_left
      · (intro w hSw; (try dsimp only at hSw); go_simp; try with_reducible rfl)
      try simp only [Act.put]
      refine wpAnyH_take (i := 4) (v := ?_) rfl (by kernel_rfl) (by kernel_rfl) (by kernel_rfl) (fun _ _ _ h => h) (Or.inl ⟨by rfl, ?_⟩) (by assumption) ?_
      rotate_left
      · (intro w hSw; (try dsimp only at hSw); go_simp; try with_reducible rfl)
      try simp only [Act.put]
      refine wpAnyH_take (i := 5) (v := ?_) rfl (by kernel_rfl) (by kernel_rfl) (by kernel_rfl) (fun _ _ _ h => h) (Or.inl ⟨by rfl, ?_⟩) (by assumption) ?_
      rotate_left
      · (intro w hSw; (try dsimp only at hSw); go_simp; try with_reducible rfl)
      try simp only [Act.put]
      refine wpAnyH_take (i := 6) (v := ?_) rfl (by kernel_rfl) (by kernel_rfl) (by kernel_rfl) (fun _ _ _ h => h) (Or.inl ⟨by rfl, ?_⟩) (by assumption) ?_
      rotate_left
      · (intro w hSw; (try dsimp only at hSw); go_simp; try with_reducible rfl)
      try simp only [Act.put]
      refine wpAnyH_take (i := 7) (v := ?_) rfl (by kernel_rfl) (by kernel_rfl) (by kernel_rfl) (fun _ _ _ h => h) (Or.inl ⟨by rfl, ?_⟩) (by assumption) ?_
      rotate_left
      · (intro w hSw; (try dsimp only at hSw); go_simp; try with_reducible rfl)
      try simp only [Act.put]
      refine wpAnyH_take (i := 8) (v := ?_) rfl (by kernel_rfl) (by kernel_rfl) (by kernel_rfl) (fun _ _ _ h => h) (Or.inl ⟨by rfl, ?_⟩) (by assumption) ?_
      rotate_left
      · (intro w hSw; (try dsimp only at hSw); go_simp; try with_reducible rfl)
      try simp only [Act.put]
      refine wpAnyH_take (i := 14) (v := ?_) rfl (by kernel_rfl) (by kernel_rfl) (by kernel_rfl) (fun _ _ _ h => h) (Or.inl ⟨by rfl, ?_⟩) (by assumption) ?_
      rotate_left
      · (intro w hSw; (try dsimp only at hSw); go_simp; try with_reducible rfl)
      try simp only [Act.put]
      refine wpAnyH_take (i := 15) (v := ?_) rfl (by kernel_rfl) (by kernel_rfl) (by kernel_rfl) (fun _ _ _ h => h) (Or.inl ⟨by rfl, ?_⟩) (by assumption) ?_
      rotate_left
      · (intro w hSw; (try dsimp only at hSw); go_simp; try with_reducible rfl)
      try simp only [Act.put]
      refine wpAnyH_take (i := 16) (v := ?_) rfl (by kernel_rfl) (by kernel_rfl) (by kernel_rfl) (fun _ _ _ h => h) (Or.inl ⟨by rfl, ?_⟩) (by assumption) ?_
      rotate_left
      · (intro w hSw; (try dsimp only at hSw); go_simp; try with_reducible rfl)
      try simp only [Act.put]
      refine wpAnyH_take (i := 17) (v := ?_) rfl (by kernel_rfl) (by kernel_rfl) (by kernel_rfl) (fun _ _ _ h => h) (Or.inl ⟨by rfl, ?_⟩) (by assumption) ?_
      rotate_left
      · (intro w hSw; (try dsimp only at hSw); go_simp; try with_reducible rfl)
      try simp only [Act.put]
      refine wpAnyH_ready (rs := [9, 18]) (by kernel_rfl) (by simp) ?_
      refine AllReadyH.cons rfl (fun K hK => ?_) (AllReadyH.cons rfl (fun K hK => ?_) AllReadyH.nil)
      go_simp
      refine hK.out _ _ ?_ (fun hHeld => ?_)
      · first | exact hS0 | exact hSix
      clear hK K
      try simp only [Act.put]
      refine wpAnyH_take (i := 10) (v := ?_) rfl (by kernel_rfl) (by kernel_rfl) (by kernel_rfl) (fun _ _ _ h => h) (Or.inl ⟨by rfl, ?_⟩) (by assumption) ?_
      rotate_left
      · (intro w hSw; (try dsimp only at hSw); go_simp; try with_reducible rfl)
      try simp only [Act.put]
      refine wpAnyH_take (i := 11) (v := ?_) rfl (by kernel_rfl) (by kernel_rfl) (by kernel_rfl) (fun _ _ _ h => h) (Or.inl ⟨by rfl, ?_⟩) (by assumption) ?_
      rotate_left
      · (intro w hSw; (try dsimp only at hSw); go_simp; try with_reducible rfl)
      try simp only [Act.put]
      refine wpAnyH_take (i := 12) (v := ?_) rfl (by kernel_rfl) (by kernel_rfl) (by kernel_rfl) (fun _ _ _ h => h) (Or.inl ⟨by rfl, ?_⟩) (by assumption) ?_
      rotate_left
      · (intro w hSw; (try dsimp only at hSw); go_simp; try with_reducible rfl)
      try simp only [Act.put]
      refine wpAnyH_ready (rs := [13, 18]) (by kernel_rfl) (by simp) ?_
      refine AllReadyH.cons rfl (fun K hK => ?_) (AllReadyH.cons rfl (fun K hK => ?_) AllReadyH.nil)
      refine step_cat tInts (by rfl) _ _ (by rfl) B uia ul uic (idV uL) (by rfl) HOU.out mia ml mic (idV mL) (by rfl) HOM.out (ints_one _) (by omega) (by decide) hB5 ?_
      intro ia' ic' w6 hown6 hgr6 hno6
      obtain ⟨hbx6, hpu6, hpm6, hz6⟩ := H1S.out w6 hgr6
      have hSix := HBXS.out w6 hbx6
      have x6 : w6.cell? ⟨nb, 0, none⟩ = some (.pointer (some ⟨mb, 0, none⟩)) := hbx6.2.2.cell 0 rfl
      refine hK.out _ _ ?_ (fun hHeld => ?_)
      · exact hSix
      clear hK K
      try simp only [Act.put]
      refine wpAnyH_ready (rs := [18]) (by kernel_rfl) (by simp) ?_
      refine AllReadyH.cons rfl (fun K hK => ?_) AllReadyH.nil
      go_simp
      refine hK.out _ _ ?_ (fun hHeld => ?_)
      · first | exact hS0 | exact hSix
      clear hK K
      try simp only [Act.put]
      refine wpAnyH_take (i := 19) (v := ?_) rfl (by kernel_rfl) (by kernel_rfl) (by kernel_rfl) (fun _ _ _ h => h) (Or.inl ⟨by rfl, ?_⟩) (by assumption) ?_
      rotate_left
      · (intro w hSw; (try dsimp only at hSw); go_simp; try with_reducible rfl)
      try simp only [Act.put]
      refine wpAnyH_take (i := 20) (v := ?_) rfl (by kernel_rfl) (by kernel_rfl) (by kernel_rfl) (fun _ _ _ h => h) (Or.inl ⟨by rfl, ?_⟩) (by assumption) ?_
      rotate_left
      · (intro w hSw; (try dsimp only at hSw); go_simp; try with_reducible rfl)
      try simp only [Act.put]
      refine wpAnyH_take (i := 21) (v := ?_) rfl (by kernel_rfl) (by kernel_rfl) (by kernel_rfl) (fun _ _ _ h => h) (Or.inl ⟨by rfl, ?_⟩) (by assumption) ?_
      rotate_left
      · (intro w hSw; (try dsimp only at hSw); go_simp; try with_reducible rfl)
      try simp only [Act.put]
      refine wpAnyH_ready (rs := [22]) (by kernel_rfl) (by simp) ?_
      refine AllReadyH.cons rfl (fun K hK => ?_) AllReadyH.nil
      refine step_cat tPts (by rfl) _ _ (by rfl) B upa ul upc (ptV uL) (by rfl) hpu6 mpa ml mpc (ptV mL) (by rfl) hpm6 (flat_one ptL_one _) (by omega) (by decide) (Nat.le_trans hB5 hz6) ?_
      intro pa' pc' w7 hown7 hgr7 hno7
      have hbx7 := H2S.out w6 w7 hbx6 hpu6 hgr7
      have hSeven := HBXS.out w7 hbx7
      have hfa7 : ∀ o, (w7.alloc o).frozen? ⟨nb, 0, none⟩ = false := fun o => (hbx7.2.2.alloc o).free 0
      have hsa7 : ∀ o, (w7.alloc o).cell? ⟨nb, 0, none⟩ = some (.pointer (some ⟨mb, 0, none⟩)) := fun o => (hbx7.2.2.alloc o).cell 0 rfl
      have hba7 := fun o => HBXS.out (w7.alloc o) ⟨hbx7.1.alloc o, hbx7.2.1.alloc o, hbx7.2.2.alloc o⟩
      have hbs7 := fun o v => HSN.out (w7.alloc o) ⟨hbx7.1.alloc o, hbx7.2.1.alloc o, hbx7.2.2.alloc o⟩ v
      refine hK.out _ _ ?_ (fun hHeld => ?_)
      · exact hSeven
      clear hK K
      try simp only [Act.put]
      refine wpAnyH_take (i := 23) (v := ?_) rfl (by kernel_rfl) (by kernel_rfl) (by kernel_rfl) (fun _ _ _ h => h) (Or.inl ⟨by rfl, ?_⟩) (by assumption) ?_
      rotate_left
      · (intro w hSw; (try dsimp only at hSw); go_simp; try with_reducible rfl)
      try simp only [Act.put]
      refine wpAnyH_ready (rs := [24]) (by kernel_rfl) (by simp) ?_
      refine AllReadyH.cons rfl (fun K hK => ?_) AllReadyH.nil
      go_simp
      refine hK.out _ _ ?_ (fun hHeld => ?_)
      · exact hba7 _
      clear hK K
      try simp only [Act.put]
      refine wpAnyH_ready (rs := [25]) (by kernel_rfl) (by simp) ?_
      refine AllReadyH.cons rfl (fun K hK => ?_) AllReadyH.nil
      go_simp
      refine hK.out _ _ ?_ (fun hHeld => ?_)
      · exact hbs7 _ _
      clear hK K
      try simp only [Act.put]
      refine wpAnyH_done (by kernel_rfl) ?_ _
      refine NoPanic.normal ?_
      rotate_left
      go_simp
      refine hK.out _ _ ?_ (fun hHeld => ?_)
      · first | exact hS0 | exact hSix
      clear hK K
      try simp only [Act.put]
      refine wpAnyH_take (i := 19) (v := ?_) rfl (by kernel_rfl) (by kernel_rfl) (by kernel_rfl) (fun _ _ _ h => h) (Or.inl ⟨by rfl, ?_⟩) (by assumption) ?_
      rotate_left
      · (intro w hSw; (try dsimp only at hSw); go_simp; try with_reducible rfl)
      try simp only [Act.put]
      refine wpAnyH_take (i := 20) (v := ?_) rfl (by kernel_rfl) (by kernel_rfl) (by kernel_rfl) (fun _ _ _ h => h) (Or.inl ⟨by rfl, ?_⟩) (by assumption) ?_
      rotate_left
      · (intro w hSw; (try dsimp only at hSw); go_simp; try with_reducible rfl)
      try simp only [Act.put]
      refine wpAnyH_take (i := 21) (v := ?_) rfl (by kernel_rfl) (by kernel_rfl) (by kernel_rfl) (fun _ _ _ h => h) (Or.inl ⟨by rfl, ?_⟩) (by assumption) ?_
      rotate_left
      · (intro w hSw; (try dsimp only at hSw); go_simp; try with_reducible rfl)
      try simp only [Act.put]
      refine wpAnyH_ready (rs := [13]) (by kernel_rfl) (by simp) ?_
      refine AllReadyH.cons rfl (fun K hK => ?_) AllReadyH.nil
      refine step_cat tInts (by rfl) _ _ (by rfl) B uia ul uic (idV uL) (by rfl) HOU.out mia ml mic (idV mL) (by rfl) HOM.out (ints_one _) (by omega) (by decide) hB5 ?_
      intro ia' ic' w6 hown6 hgr6 hno6
      obtain ⟨hbx6, hpu6, hpm6, hz6⟩ := H1S.out w6 hgr6
      have hSix := HBXS.out w6 hbx6
      have x6 : w6.cell? ⟨nb, 0, none⟩ = some (.pointer (some ⟨mb, 0, none⟩)) := hbx6.2.2.cell 0 rfl
      refine hK.out _ _ ?_ (fun hHeld => ?_)
      · exact hSix
      clear hK K
      try simp only [Act.put]
      refine wpAnyH_ready (rs := [22]) (by kernel_rfl) (by simp) ?_
      refine AllReadyH.cons rfl (fun K hK => ?_) AllReadyH.nil
      refine step_cat tPts (by rfl) _ _ (by rfl) B upa ul upc (ptV uL) (by rfl) hpu6 mpa ml mpc (ptV mL) (by rfl) hpm6 (flat_one ptL_one _) (by omega) (by decide) (Nat.le_trans hB5 hz6) ?_
      intro pa' pc' w7 hown7 hgr7 hno7
      have hbx7 := H2S.out w6 w7 hbx6 hpu6 hgr7
      have hSeven := HBXS.out w7 hbx7
      have hfa7 : ∀ o, (w7.alloc o).frozen? ⟨nb, 0, none⟩ = false := fun o => (hbx7.2.2.alloc o).free 0
      have hsa7 : ∀ o, (w7.alloc o).cell? ⟨nb, 0, none⟩ = some (.pointer (some ⟨mb, 0, none⟩)) := fun o => (hbx7.2.2.alloc o).cell 0 rfl
      have hba7 := fun o => HBXS.out (w7.alloc o) ⟨hbx7.1.alloc o, hbx7.2.1.alloc o, hbx7.2.2.alloc o⟩
      have hbs7 := fun o v => HSN.out (w7.alloc o) ⟨hbx7.1.alloc o, hbx7.2.1.alloc o, hbx7.2.2.alloc o⟩ v
      refine hK.out _ _ ?_ (fun hHeld => ?_)
      · exact hSeven
      clear hK K
      try simp only [Act.put]
      refine wpAnyH_take (i := 23) (v := ?_) rfl (by kernel_rfl) (by kernel_rfl) (by kernel_rfl) (fun _ _ _ h => h) (Or.inl ⟨by rfl, ?_⟩) (by assumption) ?_
      rotate_left
      · (intro w hSw; (try dsimp only at hSw); go_simp; try with_reducible rfl)
      try simp only [Act.put]
      refine wpAnyH_ready (rs := [24]) (by kernel_rfl) (by simp) ?_
      refine AllReadyH.cons rfl (fun K hK => ?_) AllReadyH.nil
      go_simp
      refine hK.out _ _ ?_ (fun hHeld => ?_)
      · exact hba7 _
      clear hK K
      try simp only [Act.put]
      refine wpAnyH_ready (rs := [25]) (by kernel_rfl) (by simp) ?_
      refine AllReadyH.cons rfl (fun K hK => ?_) AllReadyH.nil
      go_simp
      refine hK.out _ _ ?_ (fun hHeld => ?_)
      · exact hbs7 _ _
      clear hK K
      try simp only [Act.put]
      refine wpAnyH_done (by kernel_rfl) ?_ _
      refine NoPanic.normal ?_
      rotate_left
      go_simp
      refine hK.out _ _ ?_ (fun hHeld => ?_)
      · first | exact hS0 | exact hSix
      clear hK K
      try simp only [Act.put]
      refine wpAnyH_take (i := 19) (v := ?_) rfl (by kernel_rfl) (by kernel_rfl) (by kernel_rfl) (fun _ _ _ h => h) (Or.inl ⟨by rfl, ?_⟩) (by assumption) ?_
      rotate_left
      · (intro w hSw; (try dsimp only at hSw); go_simp; try with_reducible rfl)
      try simp only [Act.put]
      refine wpAnyH_take (i := 20) (v := ?_) rfl (by kernel_rfl) (by kernel_rfl) (by kernel_rfl) (fun _ _ _ h => h) (Or.inl ⟨by rfl, ?_⟩) (by assumption) ?_
      rotate_left
      · (intro w hSw; (try dsimp only at hSw); go_simp; try with_reducible rfl)
      try simp only [Act.put]
      refine wpAnyH_take (i := 21) (v := ?_) rfl (by kernel_rfl) (by kernel_rfl) (by kernel_rfl) (fun _ _ _ h => h) (Or.inl ⟨by rfl, ?_⟩) (by assumption) ?_
      rotate_left
      · (intro w hSw; (try dsimp only at hSw); go_simp; try with_reducible rfl)
      try simp only [Act.put]
      refine wpAnyH_ready (rs := [9]) (by kernel_rfl) (by simp) ?_
      refine AllReadyH.cons rfl (fun K hK => ?_) AllReadyH.nil
      go_simp
      refine hK.out _ _ ?_ (fun hHeld => ?_)
      · first | exact hS0 | exact hSix
      clear hK K
      try simp only [Act.put]
      refine wpAnyH_take (i := 10) (v := ?_) rfl (by kernel_rfl) (by kernel_rfl) (by kernel_rfl) (fun _ _ _ h => h) (Or.inl ⟨by rfl, ?_⟩) (by assumption) ?_
      rotate_left
      · (intro w hSw; (try dsimp only at hSw); go_simp; try with_reducible rfl)
      try simp only [Act.put]
      refine wpAnyH_take (i := 11) (v := ?_) rfl (by kernel_rfl) (by kernel_rfl) (by kernel_rfl) (fun _ _ _ h => h) (Or.inl ⟨by rfl, ?_⟩) (by assumption) ?_
      rotate_left
      · (intro w hSw; (try dsimp only at hSw); go_simp; try with_reducible rfl)
      try simp only [Act.put]
      refine wpAnyH_take (i := 12) (v := ?_) rfl (by kernel_rfl) (by kernel_rfl) (by kernel_rfl) (fun _ _ _ h => h) (Or.inl ⟨by rfl, ?_⟩) (by assumption) ?_
      rotate_left
      · (intro w hSw; (try dsimp only at hSw); go_simp; try with_reducible rfl)
      try simp only [Act.put]
      refine wpAnyH_ready (rs := [13]) (by kernel_rfl) (by simp) ?_
      refine AllReadyH.cons rfl (fun K hK => ?_) AllReadyH.nil
      refine step_cat tInts (by rfl) _ _ (by rfl) B uia ul uic (idV uL) (by rfl) HOU.out mia ml mic (idV mL) (by rfl) HOM.out (ints_one _) (by omega) (by decide) hB5 ?_
      intro ia' ic' w6 hown6 hgr6 hno6
      obtain ⟨hbx6, hpu6, hpm6, hz6⟩ := H1S.out w6 hgr6
      have hSix := HBXS.out w6 hbx6
      have x6 : w6.cell? ⟨nb, 0, none⟩ = some (.pointer (some ⟨mb, 0, none⟩)) := hbx6.2.2.cell 0 rfl
      refine hK.out _ _ ?_ (fun hHeld => ?_)
      · exact hSix
      clear hK K
      try simp only [Act.put]
      refine wpAnyH_ready (rs := [22]) (by kernel_rfl) (by simp) ?_
      refine AllReadyH.cons rfl (fun K hK => ?_) AllReadyH.nil
      refine step_cat tPts (by rfl) _ _ (by rfl) B upa ul upc (ptV uL) (by rfl) hpu6 mpa ml mpc (ptV mL) (by rfl) hpm6 (flat_one ptL_one _) (by omega) (by decide) (Nat.le_trans hB5 hz6) ?_
      intro pa' pc' w7 hown7 hgr7 hno7
      have hbx7 := H2S.out w6 w7 hbx6 hpu6 hgr7
      have hSeven := HBXS.out w7 hbx7
      have hfa7 : ∀ o, (w7.alloc o).frozen? ⟨nb, 0, none⟩ = false := fun o => (hbx7.2.2.alloc o).free 0
      have hsa7 : ∀ o, (w7.alloc o).cell? ⟨nb, 0, none⟩ = some (.pointer (some ⟨mb, 0, none⟩)) := fun o => (hbx7.2.2.alloc o).cell 0 rfl
      have hba7 := fun o => HBXS.out (w7.alloc o) ⟨hbx7.1.alloc o, hbx7.2.1.alloc o, hbx7.2.2.alloc o⟩
      have hbs7 := fun o v => HSN.out (w7.alloc o) ⟨hbx7.1.alloc o, hbx7.2.1.alloc o, hbx7.2.2.alloc o⟩ v
      refine hK.out _ _ ?_ (fun hHeld => ?_)
      · exact hSeven
      clear hK K
      try simp only [Act.put]
      refine wpAnyH_take (i := 23) (v := ?_) rfl (by kernel_rfl) (by kernel_rfl) (by kernel_rfl) (fun _ _ _ h => h) (Or.inl ⟨by rfl, ?_⟩) (by assumption) ?_
      rotate_left
      · (intro w hSw; (try dsimp only at hSw); go_simp; try with_reducible rfl)
      try simp only [Act.put]
      refine wpAnyH_ready (rs := [24]) (by kernel_rfl) (by simp) ?_
      refine AllReadyH.cons rfl (fun K hK => ?_) AllReadyH.nil
      go_simp
      refine hK.out _ _ ?_ (fun hHeld => ?_)
      · exact hba7 _
      clear hK K
      try simp only [Act.put]
      refine wpAnyH_ready (rs := [25]) (by kernel_rfl) (by simp) ?_
      refine AllReadyH.cons rfl (fun K hK => ?_) AllReadyH.nil
      go_simp
      refine hK.out _ _ ?_ (fun hHeld => ?_)
      · exact hbs7 _ _
      clear hK K
      try simp only [Act.put]
      refine wpAnyH_done (by kernel_rfl) ?_ _
      refine NoPanic.normal ?_
      rotate_left
      all_goals
        have hJ2 := HI.out.join2 HJ.out HU.out HJP2.out HC4.out HC.out hgr6 (by simp only; rw [← HUL.out, ← HML.out]; exact hown6) hno6 hgr7 (by simp only; rw [← HUL.out, ← HML.out]; exact hown7) hno7 rfl
        simp only [← HUL.out, ← HML.out] at hJ2
        have HPI := Kp.mk hJ2.1
        have HR8 := Kp.mk (Chg.box HR5.out hJ2.2 (fun e => by
          rcases e with (e | e) | e
          · exact TyAt.ne ⟨_, HR5.out⟩ (ty_own HC.out.hu.ids e).1 (by decide) rfl
          · exact TyAt.ne ⟨_, HR5.out⟩ (ty_own HC.out.hu.ps e).1 (by decide) rfl
          · exact TyAt.ne ⟨_, HR5.out⟩ ⟨_, HNX.out⟩ (by decide) e))
        clear hJ2 HI HR HC HC4 HRW HG HR5 hR5 HNX HBU HBM HOU HOM HBXS hS0 H1S H2S HSN x5 x5d hown6 hgr6 hno6 hbx6 hpu6 hpm6 hz6 hSix x6 hown7 hgr7 hno7 hbx7 hSeven hfa7 hsa7 hba7 hbs7 hB5 HJP HJP2 HROW
        generalize (w7.alloc (.cells #[.int .i64 ((up : Int) + 1), .slice ia' (ul + ml) ic', .slice pa' (ul + ml) pc'] 123)).setCell ⟨nb, 0, none⟩ (.pointer (some ⟨w7.heap.size, 0, none⟩)) = w8 at *
        generalize ({ b := w7.heap.size, pw := mp + 1, ia := ia', ic := ic', pa := pa', pc := pc', L := uL ++ mL } : Bt) = m' at *
        have hel : (T1.eraseIdx j).length = n1 - 1 := by rw [List.length_eraseIdx, if_pos HJ.out, HN1.out]
        have hsb8 := HPI.out.st.box
        have hrow8 := own_slc HPI.out.st.row
        rw [hel] at hsb8 hrow8
        have z8 : w8.cell? ⟨s, 0, none⟩ = some (.slice (some ⟨g, 0, none⟩) (n1 - 1) bc1) := hsb8.cell 0 rfl
        have HSB8 := Kp.mk hsb8
        have CI2 := Kp.mk (indexBt_any (some ⟨g, 0, none⟩) bc1 (n1 - 1) nb m'.b m'.pw B (T1.eraseIdx j) _ _ w8 hrow8 hel (by omega) HPI.out.st.each HPI.out.nbx HPI.out.bt.box)
        clear hsb8 hrow8 hel
        go_wp2_with fail
        refine CI2.out.mono ?_
        rintro e w9 ⟨r', rfl, hr', hb9⟩
        have z9 : w9.cell? ⟨s, 0, none⟩ = some (.slice (some ⟨g, 0, none⟩) (n1 - 1) bc1) := (HSB8.out.below hb9.out).cell 0 rfl
        have HZ9 := Kp.mk z9
        have HI9 := Kp.mk (HPI.out.below hb9.out)
        have HR9 := Kp.mk (HR8.out.below hb9.out)
        have HRP := Kp.mk hr'
        clear z8 z9 CI2 hr' HPI HR8 hb9
        go_wp2
        go_roundw
        case rel => exact ⟨r', some ⟨g, 0, none⟩, bc1, T1.eraseIdx j, m', rfl, HRP.out, HI9, HR9⟩
        case measure =>
          rw [HZ9.out, show wr.cell? ⟨s, 0, none⟩ = some (.slice (some ⟨g, 0, none⟩) n1 bc1) from HSB.out.cell 0 rfl]
          simp [sliceLen]; omega

end Go.Proofs.YtladgklnacihkaaGreat.Dy

/- Points that come and go: one act. -/
namespace Go.Proofs.YtladgklnacihkaaGreat.Dy
set_option linter.unusedVariables false
open Go.RowKit

def acA (x : Ac) : Array Value := actA x.kind x.p.x x.p.y x.p.w x.a x.b x.c x.d x.id x.k
/-- What do hands back. -/
def DoRet (B s : Nat) (ba : Option Addr) (T : List Bt) (st : St) (x : Ac) (w : World) (e : Ending) (w' : World) : Prop :=
  ∃ (ba' : Option Addr) (bc' : Nat) (T' : List Bt) (ra : Option Addr) (m rc : Nat) (r : An), e = .returned (.agg #[.int .i64 r.code, .int .i64 r.n, .slice ra m rc]) ∧ Kp (IsAn st x r) ∧ Kp (StoS w' B s ba' bc' T' (step st x)) ∧ Kp (w'.ownsRow w.heap.size 3 1 (.slice ra m rc) m (ints r.ids)) ∧ Kp (Chg (Foot s ba T) w w') ∧ Kp (∀ k, Foot s ba' T' k → Foot s ba T k ∨ w.heap.size ≤ k) ∧ Kp (∀ k, blk ra = some k → ¬ Foot s ba' T' k)
theorem isAn_put {s : St} {x : Ac} (h : x.kind = 1) : IsAn s x ⟨0, s.next, []⟩ := by unfold IsAn; rw [if_pos h]
theorem isAn_cut {s : St} {x : Ac} (h : x.kind = 2) : IsAn s x ⟨if x.id ∈ s.A.map (·.1) then 0 else 7, 0, []⟩ := by unfold IsAn; rw [if_neg (by omega), if_pos h]
theorem isAn_cnt {s : St} {x : Ac} (h : x.kind = 3) : IsAn s x ⟨0, (cntR (s.A.map (·.2)) x.a x.b x.c x.d : Nat), []⟩ := by unfold IsAn; rw [if_neg (by omega), if_neg (by omega), if_pos h]
theorem isAn_top {s : St} {x : Ac} {ids : List Int} (h : x.kind = 4) (hb : IsBest wtI (s.A.filter (fun p => inR x.a x.b x.c x.d p.2)) x.k.toNat ids) : IsAn s x ⟨0, 0, ids⟩ := by unfold IsAn; rw [if_neg (by omega), if_neg (by omega), if_neg (by omega), if_pos h]; exact ⟨rfl, rfl, hb⟩
theorem isAn_near {s : St} {x : Ac} {ids : List Int} (h : x.kind = 5) (hb : IsBest (dist2 x.p.x x.p.y) s.A x.k.toNat ids) : IsAn s x ⟨0, 0, ids⟩ := by unfold IsAn; rw [if_neg (by omega), if_neg (by omega), if_neg (by omega), if_neg (by omega)]; exact ⟨rfl, rfl, hb⟩
theorem own_nil_int (w : World) (B : Nat) : w.ownsRow B 3 1 (.slice none 0 0) 0 (ints []) := World.ownsRow_nil _ _ _ _

set_option maxRecDepth 100000 in
set_option maxHeartbeats 8000000 in
theorem do1_any (B s : Nat) (ba : Option Addr) (bc : Nat) (T : List Bt) (st : St) (px py pw a b c d id : Int) (kk : Nat) (w : World) (h : StoS w B s ba bc T st) (hx : Ac.Ok ⟨1, ⟨px, py, pw⟩, a, b, c, d, id, (kk : Int)⟩) (hA : st.A.length ≤ 149) (hn : st.next ≤ 1000) (hB : B ≤ w.heap.size) (hk2 : kk ≤ 200) :
    Calls Tryz.prog 22 #[.pointer (some ⟨s, 0, none⟩), .agg #[.int .i64 1, .int .i64 px, .int .i64 py, .int .i64 pw, .int .i64 a, .int .i64 b, .int .i64 c, .int .i64 d, .int .i64 id, .int .i64 (kk : Int)]] w (DoRet B s ba T st ⟨1, ⟨px, py, pw⟩, a, b, c, d, id, (kk : Int)⟩ w) := by
  have ha := below_alloc (Nat.le_refl w.heap.size) (.cells #[.int .i64 1, .int .i64 px, .int .i64 py, .int .i64 pw, .int .i64 a, .int .i64 b, .int .i64 c, .int .i64 d, .int .i64 id, .int .i64 (kk : Int)] 32)
  have ha2 := below_then_alloc ha (.cells #[.int .i64 0, .int .i64 0, .slice none 0 0] 39)
  have HA := Kp.mk ha2
  have H1 := Kp.mk (h.below ha2)
  have HX1 := Kp.mk ((Box.new w #[.int .i64 1, .int .i64 px, .int .i64 py, .int .i64 pw, .int .i64 a, .int .i64 b, .int .i64 c, .int .i64 d, .int .i64 id, .int .i64 (kk : Int)] 32).alloc (.cells #[.int .i64 0, .int .i64 0, .slice none 0 0] 39))
  have hr1 := Box.new (w.alloc (.cells #[.int .i64 1, .int .i64 px, .int .i64 py, .int .i64 pw, .int .i64 a, .int .i64 b, .int .i64 c, .int .i64 d, .int .i64 id, .int .i64 (kk : Int)] 32)) #[.int .i64 0, .int .i64 0, .slice none 0 0] 39
  rw [alloc_size] at hr1
  have HR1 := Kp.mk hr1
  have HFT := Kp.mk (fun k (hk : Foot s ba T k) => (h.stm.lo_foot hk).2)
  obtain ⟨q, hq⟩ : ∃ q, w.heap.size = q := ⟨_, rfl⟩
  obtain ⟨w1, hw1⟩ : ∃ w1, (w.alloc (.cells #[.int .i64 1, .int .i64 px, .int .i64 py, .int .i64 pw, .int .i64 a, .int .i64 b, .int .i64 c, .int .i64 d, .int .i64 id, .int .i64 (kk : Int)] 32)).alloc (.cells #[.int .i64 0, .int .i64 0, .slice none 0 0] 39) = w1 := ⟨_, rfl⟩
  rw [hw1] at HA H1 HR1 HX1
  rw [hq] at HR1 HX1 HFT hB
  have HQ := Kp.mk hq
  have HW1 := Kp.mk hw1
  have HOK := Kp.mk hx
  have hB1 : B ≤ w1.heap.size := by have := HA.out.size; omega
  have hwz := HA.out.size
  have hal := H1.out.alen
  have hlen := H1.out.len
  have x0 : w1.cell? ⟨q, 0, none⟩ = some (.int .i64 1) := HX1.out.cell 0 rfl
  have x1 : w1.cell? ⟨q, 1, none⟩ = some (.int .i64 px) := HX1.out.cell 1 rfl
  have x2 : w1.cell? ⟨q, 2, none⟩ = some (.int .i64 py) := HX1.out.cell 2 rfl
  have x3 : w1.cell? ⟨q, 3, none⟩ = some (.int .i64 pw) := HX1.out.cell 3 rfl
  have x4 : w1.cell? ⟨q, 4, none⟩ = some (.int .i64 a) := HX1.out.cell 4 rfl
  have x5 : w1.cell? ⟨q, 5, none⟩ = some (.int .i64 b) := HX1.out.cell 5 rfl
  have x6 : w1.cell? ⟨q, 6, none⟩ = some (.int .i64 c) := HX1.out.cell 6 rfl
  have x7 : w1.cell? ⟨q, 7, none⟩ = some (.int .i64 d) := HX1.out.cell 7 rfl
  have x8 : w1.cell? ⟨q, 8, none⟩ = some (.int .i64 id) := HX1.out.cell 8 rfl
  have x9 : w1.cell? ⟨q, 9, none⟩ = some (.int .i64 (kk : Int)) := HX1.out.cell 9 rfl
  clear h ha ha2 hr1 hq hw1 hx
  unfold DoRet
  have CP := Kp.mk (put_any B s ba bc T st.next st.A.length ⟨px, py, pw⟩ w1 H1.out.stm hal hA hlen H1.out.pws hn HOK.out.near hB1)
  go_enter Tryz.func22, Tryz.ntmps22
  go_upto_region 1 with (fail)
  simp only [HQ.out]
  rw [HW1.out]
  clear HW1
  go_wp2_with fail
  refine CP.out.mono ?_
  rintro e w2 ⟨ba2, bc2, T2, rfl, hpm, hle, hps, HM, HC2, HF2⟩
  have HS2 := Kp.mk (H1.out.put_on (x := ⟨1, ⟨px, py, pw⟩, a, b, c, d, id, (kk : Int)⟩) rfl HOK.out hpm hle hps HM.out)
  have HO2 := Kp.mk (own_nil_int w2 w1.heap.size)
  have HAN := Kp.mk (isAn_put (s := st) (x := ⟨1, ⟨px, py, pw⟩, a, b, c, d, id, (kk : Int)⟩) rfl)
  clear hpm hle hps HM CP
  have hR := Chg.box HR1.out HC2.out (fun e => by have := HFT.out _ e; omega)
  have f0 : w2.frozen? ⟨q + 1, 0, none⟩ = false := hR.free 0
  have f1 : w2.frozen? ⟨q + 1, 1, none⟩ = false := hR.free 1
  have f2 : w2.frozen? ⟨q + 1, 2, none⟩ = false := hR.free 2
  have r0 : w2.cell? ⟨q + 1, 0, none⟩ = some (.int .i64 0) := hR.cell 0 rfl
  have r1 : w2.cell? ⟨q + 1, 1, none⟩ = some (.int .i64 0) := hR.cell 1 rfl
  have r2 : w2.cell? ⟨q + 1, 2, none⟩ = some (.slice none 0 0) := hR.cell 2 rfl
  have HP := ans_put hR (.int .i64 (0)) (.int .i64 ((st.next : Int))) (.slice none 0 0)
  have HPB := Kp.mk HP.1
  have HS3 := Kp.mk (HS2.out.ans hR HP.2)
  have HO3 := Kp.mk (own_base (own_keep HO2.out HP.2 (fun k hk e => by cases hk; exact TyAt.ne ⟨_, hR⟩ (ty_own HO2.out e).1 (by decide) rfl)) hwz)
  have HC3 := Kp.mk (chg_new (((Chg.of_below (F := Foot s ba T) HA.out)).same HC2.out) HP.2 (by have := HQ.out; omega))
  have HF3 := Kp.mk (fun k hk => (HF2.out k hk).imp (fun h => h) (fun h => Nat.le_trans hwz h))
  clear HP hR HO2 HS2 HC2 HX1 HR1 x0 x1 x2 x3 x4 x5 x6 x7 x8 x9
  go_wp2
  generalize ((w2.setCell ⟨q + 1, 0, none⟩ (.int .i64 (0))).setCell ⟨q + 1, 1, none⟩ (.int .i64 ((st.next : Int)))).setCell ⟨q + 1, 2, none⟩ (.slice none 0 0) = w6 at *
  have p0 : w6.cell? ⟨q + 1, 0, none⟩ = some (.int .i64 (0)) := HPB.out.cell 0 rfl
  have p1 : w6.cell? ⟨q + 1, 1, none⟩ = some (.int .i64 ((st.next : Int))) := HPB.out.cell 1 rfl
  have p2 : w6.cell? ⟨q + 1, 2, none⟩ = some (.slice none 0 0) := HPB.out.cell 2 rfl
  exact bodyPost_ret (v := .agg #[.int .i64 (0), .int .i64 ((st.next : Int)), .slice none 0 0]) (by simp [results, Tryz.results22, go_sem, p0, p1, p2]) rfl ⟨ba2, bc2, T2, none, 0, 0, _, rfl, HAN, HS3, HO3, HC3, HF3, ⟨fun k hk => by cases hk⟩⟩

set_option maxRecDepth 100000 in
set_option maxHeartbeats 8000000 in
theorem do2_any (B s : Nat) (ba : Option Addr) (bc : Nat) (T : List Bt) (st : St) (px py pw a b c d id : Int) (kk : Nat) (w : World) (h : StoS w B s ba bc T st) (hx : Ac.Ok ⟨2, ⟨px, py, pw⟩, a, b, c, d, id, (kk : Int)⟩) (hA : st.A.length ≤ 149) (hn : st.next ≤ 1000) (hB : B ≤ w.heap.size) (hk2 : kk ≤ 200) :
    Calls Tryz.prog 22 #[.pointer (some ⟨s, 0, none⟩), .agg #[.int .i64 2, .int .i64 px, .int .i64 py, .int .i64 pw, .int .i64 a, .int .i64 b, .int .i64 c, .int .i64 d, .int .i64 id, .int .i64 (kk : Int)]] w (DoRet B s ba T st ⟨2, ⟨px, py, pw⟩, a, b, c, d, id, (kk : Int)⟩ w) := by
  have ha := below_alloc (Nat.le_refl w.heap.size) (.cells #[.int .i64 2, .int .i64 px, .int .i64 py, .int .i64 pw, .int .i64 a, .int .i64 b, .int .i64 c, .int .i64 d, .int .i64 id, .int .i64 (kk : Int)] 32)
  have ha2 := below_then_alloc ha (.cells #[.int .i64 0, .int .i64 0, .slice none 0 0] 39)
  have HA := Kp.mk ha2
  have H1 := Kp.mk (h.below ha2)
  have HX1 := Kp.mk ((Box.new w #[.int .i64 2, .int .i64 px, .int .i64 py, .int .i64 pw, .int .i64 a, .int .i64 b, .int .i64 c, .int .i64 d, .int .i64 id, .int .i64 (kk : Int)] 32).alloc (.cells #[.int .i64 0, .int .i64 0, .slice none 0 0] 39))
  have hr1 := Box.new (w.alloc (.cells #[.int .i64 2, .int .i64 px, .int .i64 py, .int .i64 pw, .int .i64 a, .int .i64 b, .int .i64 c, .int .i64 d, .int .i64 id, .int .i64 (kk : Int)] 32)) #[.int .i64 0, .int .i64 0, .slice none 0 0] 39
  rw [alloc_size] at hr1
  have HR1 := Kp.mk hr1
  have HFT := Kp.mk (fun k (hk : Foot s ba T k) => (h.stm.lo_foot hk).2)
  obtain ⟨q, hq⟩ : ∃ q, w.heap.size = q := ⟨_, rfl⟩
  obtain ⟨w1, hw1⟩ : ∃ w1, (w.alloc (.cells #[.int .i64 2, .int .i64 px, .int .i64 py, .int .i64 pw, .int .i64 a, .int .i64 b, .int .i64 c, .int .i64 d, .int .i64 id, .int .i64 (kk : Int)] 32)).alloc (.cells #[.int .i64 0, .int .i64 0, .slice none 0 0] 39) = w1 := ⟨_, rfl⟩
  rw [hw1] at HA H1 HR1 HX1
  rw [hq] at HR1 HX1 HFT hB
  have HQ := Kp.mk hq
  have HW1 := Kp.mk hw1
  have HOK := Kp.mk hx
  have hB1 : B ≤ w1.heap.size := by have := HA.out.size; omega
  have hwz := HA.out.size
  have hal := H1.out.alen
  have hlen := H1.out.len
  have x0 : w1.cell? ⟨q, 0, none⟩ = some (.int .i64 2) := HX1.out.cell 0 rfl
  have x1 : w1.cell? ⟨q, 1, none⟩ = some (.int .i64 px) := HX1.out.cell 1 rfl
  have x2 : w1.cell? ⟨q, 2, none⟩ = some (.int .i64 py) := HX1.out.cell 2 rfl
  have x3 : w1.cell? ⟨q, 3, none⟩ = some (.int .i64 pw) := HX1.out.cell 3 rfl
  have x4 : w1.cell? ⟨q, 4, none⟩ = some (.int .i64 a) := HX1.out.cell 4 rfl
  have x5 : w1.cell? ⟨q, 5, none⟩ = some (.int .i64 b) := HX1.out.cell 5 rfl
  have x6 : w1.cell? ⟨q, 6, none⟩ = some (.int .i64 c) := HX1.out.cell 6 rfl
  have x7 : w1.cell? ⟨q, 7, none⟩ = some (.int .i64 d) := HX1.out.cell 7 rfl
  have x8 : w1.cell? ⟨q, 8, none⟩ = some (.int .i64 id) := HX1.out.cell 8 rfl
  have x9 : w1.cell? ⟨q, 9, none⟩ = some (.int .i64 (kk : Int)) := HX1.out.cell 9 rfl
  clear h ha ha2 hr1 hq hw1 hx
  unfold DoRet
  have CP := Kp.mk (scut_any B s ba bc T st.next st.A.length id w1 H1.out.stm hal (by omega) (by omega))
  go_enter Tryz.func22, Tryz.ntmps22
  go_upto_region 1 with (fail)
  simp only [HQ.out]
  rw [HW1.out]
  clear HW1
  go_wp2_with fail
  refine CP.out.mono ?_
  rintro e w2 ⟨T2, ct2, code, rfl, hr, HM, HC2⟩
  have hS : Kp (StoS w2 B s ba bc T2 (step st ⟨2, ⟨px, py, pw⟩, a, b, c, d, id, (kk : Int)⟩)) ∧ Kp (IsAn st ⟨2, ⟨px, py, pw⟩, a, b, c, d, id, (kk : Int)⟩ ⟨code, 0, []⟩) ∧ Kp (∀ k, Foot s ba T2 k → Foot s ba T k ∨ w1.heap.size ≤ k) := by
    rcases hr with ⟨rfl, rfl, rfl, hno⟩ | ⟨rfl, rfl, i, j, hi, hj, hid, rfl⟩
    · obtain ⟨h1, h2⟩ := H1.out.cut_no (x := ⟨2, ⟨px, py, pw⟩, a, b, c, d, id, (kk : Int)⟩) hno rfl HM.out
      have h3 := isAn_cut (s := st) (x := ⟨2, ⟨px, py, pw⟩, a, b, c, d, id, (kk : Int)⟩) rfl
      rw [if_neg h2] at h3
      exact ⟨⟨h1⟩, ⟨h3⟩, ⟨fun k hk => .inl hk⟩⟩
    · obtain ⟨h1, h2⟩ := H1.out.cut_yes (x := ⟨2, ⟨px, py, pw⟩, a, b, c, d, id, (kk : Int)⟩) hi hj hid rfl HM.out HOK.out
      have h3 := isAn_cut (s := st) (x := ⟨2, ⟨px, py, pw⟩, a, b, c, d, id, (kk : Int)⟩) rfl
      rw [if_pos h2] at h3
      refine ⟨⟨h1⟩, ⟨h3⟩, ⟨fun k hk => .inl ?_⟩⟩
      rcases hk with hk | hk | ⟨t, ht, hk⟩
      · exact .inl hk
      · exact .inr (.inl hk)
      · rcases List.mem_or_eq_of_mem_set ht with h4 | rfl
        · exact .inr (.inr ⟨t, h4, hk⟩)
        · exact .inr (.inr ⟨_, List.getElem_mem hi, hk⟩)
  obtain ⟨HS2, HAN, HF2⟩ := hS
  have HO2 := Kp.mk (own_nil_int w2 w1.heap.size)
  clear hr HM CP
  have hR := Chg.box HR1.out HC2.out (fun e => by have := HFT.out _ e; omega)
  have f0 : w2.frozen? ⟨q + 1, 0, none⟩ = false := hR.free 0
  have f1 : w2.frozen? ⟨q + 1, 1, none⟩ = false := hR.free 1
  have f2 : w2.frozen? ⟨q + 1, 2, none⟩ = false := hR.free 2
  have r0 : w2.cell? ⟨q + 1, 0, none⟩ = some (.int .i64 0) := hR.cell 0 rfl
  have r1 : w2.cell? ⟨q + 1, 1, none⟩ = some (.int .i64 0) := hR.cell 1 rfl
  have r2 : w2.cell? ⟨q + 1, 2, none⟩ = some (.slice none 0 0) := hR.cell 2 rfl
  have HP := ans_put hR (.int .i64 (code)) (.int .i64 (0)) (.slice none 0 0)
  have HPB := Kp.mk HP.1
  have HS3 := Kp.mk (HS2.out.ans hR HP.2)
  have HO3 := Kp.mk (own_base (own_keep HO2.out HP.2 (fun k hk e => by cases hk; exact TyAt.ne ⟨_, hR⟩ (ty_own HO2.out e).1 (by decide) rfl)) hwz)
  have HC3 := Kp.mk (chg_new (((Chg.of_below (F := Foot s ba T) HA.out)).same HC2.out) HP.2 (by have := HQ.out; omega))
  have HF3 := Kp.mk (fun k hk => (HF2.out k hk).imp (fun h => h) (fun h => Nat.le_trans hwz h))
  clear HP hR HO2 HS2 HC2 HX1 HR1 x0 x1 x2 x3 x4 x5 x6 x7 x8 x9
  go_wp2
  generalize ((w2.setCell ⟨q + 1, 0, none⟩ (.int .i64 (code))).setCell ⟨q + 1, 1, none⟩ (.int .i64 (0))).setCell ⟨q + 1, 2, none⟩ (.slice none 0 0) = w6 at *
  have p0 : w6.cell? ⟨q + 1, 0, none⟩ = some (.int .i64 (code)) := HPB.out.cell 0 rfl
  have p1 : w6.cell? ⟨q + 1, 1, none⟩ = some (.int .i64 (0)) := HPB.out.cell 1 rfl
  have p2 : w6.cell? ⟨q + 1, 2, none⟩ = some (.slice none 0 0) := HPB.out.cell 2 rfl
  exact bodyPost_ret (v := .agg #[.int .i64 (code), .int .i64 (0), .slice none 0 0]) (by simp [results, Tryz.results22, go_sem, p0, p1, p2]) rfl ⟨ba, bc, T2, none, 0, 0, _, rfl, HAN, HS3, HO3, HC3, HF3, ⟨fun k hk => by cases hk⟩⟩

set_option maxRecDepth 100000 in
set_option maxHeartbeats 8000000 in
theorem do3_any (B s : Nat) (ba : Option Addr) (bc : Nat) (T : List Bt) (st : St) (px py pw a b c d id : Int) (kk : Nat) (w : World) (h : StoS w B s ba bc T st) (hx : Ac.Ok ⟨3, ⟨px, py, pw⟩, a, b, c, d, id, (kk : Int)⟩) (hA : st.A.length ≤ 149) (hn : st.next ≤ 1000) (hB : B ≤ w.heap.size) (hk2 : kk ≤ 200) :
    Calls Tryz.prog 22 #[.pointer (some ⟨s, 0, none⟩), .agg #[.int .i64 3, .int .i64 px, .int .i64 py, .int .i64 pw, .int .i64 a, .int .i64 b, .int .i64 c, .int .i64 d, .int .i64 id, .int .i64 (kk : Int)]] w (DoRet B s ba T st ⟨3, ⟨px, py, pw⟩, a, b, c, d, id, (kk : Int)⟩ w) := by
  have ha := below_alloc (Nat.le_refl w.heap.size) (.cells #[.int .i64 3, .int .i64 px, .int .i64 py, .int .i64 pw, .int .i64 a, .int .i64 b, .int .i64 c, .int .i64 d, .int .i64 id, .int .i64 (kk : Int)] 32)
  have ha2 := below_then_alloc ha (.cells #[.int .i64 0, .int .i64 0, .slice none 0 0] 39)
  have HA := Kp.mk ha2
  have H1 := Kp.mk (h.below ha2)
  have HX1 := Kp.mk ((Box.new w #[.int .i64 3, .int .i64 px, .int .i64 py, .int .i64 pw, .int .i64 a, .int .i64 b, .int .i64 c, .int .i64 d, .int .i64 id, .int .i64 (kk : Int)] 32).alloc (.cells #[.int .i64 0, .int .i64 0, .slice none 0 0] 39))
  have hr1 := Box.new (w.alloc (.cells #[.int .i64 3, .int .i64 px, .int .i64 py, .int .i64 pw, .int .i64 a, .int .i64 b, .int .i64 c, .int .i64 d, .int .i64 id, .int .i64 (kk : Int)] 32)) #[.int .i64 0, .int .i64 0, .slice none 0 0] 39
  rw [alloc_size] at hr1
  have HR1 := Kp.mk hr1
  have HFT := Kp.mk (fun k (hk : Foot s ba T k) => (h.stm.lo_foot hk).2)
  obtain ⟨q, hq⟩ : ∃ q, w.heap.size = q := ⟨_, rfl⟩
  obtain ⟨w1, hw1⟩ : ∃ w1, (w.alloc (.cells #[.int .i64 3, .int .i64 px, .int .i64 py, .int .i64 pw, .int .i64 a, .int .i64 b, .int .i64 c, .int .i64 d, .int .i64 id, .int .i64 (kk : Int)] 32)).alloc (.cells #[.int .i64 0, .int .i64 0, .slice none 0 0] 39) = w1 := ⟨_, rfl⟩
  rw [hw1] at HA H1 HR1 HX1
  rw [hq] at HR1 HX1 HFT hB
  have HQ := Kp.mk hq
  have HW1 := Kp.mk hw1
  have HOK := Kp.mk hx
  have hB1 : B ≤ w1.heap.size := by have := HA.out.size; omega
  have hwz := HA.out.size
  have hal := H1.out.alen
  have hlen := H1.out.len
  have x0 : w1.cell? ⟨q, 0, none⟩ = some (.int .i64 3) := HX1.out.cell 0 rfl
  have x1 : w1.cell? ⟨q, 1, none⟩ = some (.int .i64 px) := HX1.out.cell 1 rfl
  have x2 : w1.cell? ⟨q, 2, none⟩ = some (.int .i64 py) := HX1.out.cell 2 rfl
  have x3 : w1.cell? ⟨q, 3, none⟩ = some (.int .i64 pw) := HX1.out.cell 3 rfl
  have x4 : w1.cell? ⟨q, 4, none⟩ = some (.int .i64 a) := HX1.out.cell 4 rfl
  have x5 : w1.cell? ⟨q, 5, none⟩ = some (.int .i64 b) := HX1.out.cell 5 rfl
  have x6 : w1.cell? ⟨q, 6, none⟩ = some (.int .i64 c) := HX1.out.cell 6 rfl
  have x7 : w1.cell? ⟨q, 7, none⟩ = some (.int .i64 d) := HX1.out.cell 7 rfl
  have x8 : w1.cell? ⟨q, 8, none⟩ = some (.int .i64 id) := HX1.out.cell 8 rfl
  have x9 : w1.cell? ⟨q, 9, none⟩ = some (.int .i64 (kk : Int)) := HX1.out.cell 9 rfl
  clear h ha ha2 hr1 hq hw1 hx
  unfold DoRet
  have CP := Kp.mk (countIn_any B s ba bc T st.next st.A.length a b c d w1 H1.out.stm (by omega) (by omega) H1.out.near)
  have HCN := Kp.mk (cntR_perm (H1.out.perm.map (·.2)) a b c d)
  go_enter Tryz.func22, Tryz.ntmps22
  go_upto_region 1 with (fail)
  simp only [HQ.out]
  rw [HW1.out]
  clear HW1
  go_wp2_with fail
  refine CP.out.mono ?_
  rintro e w2 ⟨rfl, HB2⟩
  have HS2 := Kp.mk (show StoS w2 B s ba bc T (step st ⟨3, ⟨px, py, pw⟩, a, b, c, d, id, (kk : Int)⟩) from by rw [step_look (by simp only; omega)]; exact H1.out.below HB2.out)
  have HC2 := Kp.mk (Chg.of_below (F := Foot s ba T) HB2.out)
  have HF2 := Kp.mk (fun k (hk : Foot s ba T k) => (Or.inl hk : Foot s ba T k ∨ w1.heap.size ≤ k))
  have HO2 := Kp.mk (own_nil_int w2 w1.heap.size)
  have HAN := isAn_cnt (s := st) (x := ⟨3, ⟨px, py, pw⟩, a, b, c, d, id, (kk : Int)⟩) rfl
  simp only at HAN
  rw [← HCN.out] at HAN
  have HAN := Kp.mk HAN
  clear CP HB2 HCN
  generalize (cntR ((allL T).map (·.2)) a b c d : Nat) = cc at *
  have hR := Chg.box HR1.out HC2.out (fun e => by have := HFT.out _ e; omega)
  have f0 : w2.frozen? ⟨q + 1, 0, none⟩ = false := hR.free 0
  have f1 : w2.frozen? ⟨q + 1, 1, none⟩ = false := hR.free 1
  have f2 : w2.frozen? ⟨q + 1, 2, none⟩ = false := hR.free 2
  have r0 : w2.cell? ⟨q + 1, 0, none⟩ = some (.int .i64 0) := hR.cell 0 rfl
  have r1 : w2.cell? ⟨q + 1, 1, none⟩ = some (.int .i64 0) := hR.cell 1 rfl
  have r2 : w2.cell? ⟨q + 1, 2, none⟩ = some (.slice none 0 0) := hR.cell 2 rfl
  have HP := ans_put hR (.int .i64 (0)) (.int .i64 ((cc : Int))) (.slice none 0 0)
  have HPB := Kp.mk HP.1
  have HS3 := Kp.mk (HS2.out.ans hR HP.2)
  have HO3 := Kp.mk (own_base (own_keep HO2.out HP.2 (fun k hk e => by cases hk; exact TyAt.ne ⟨_, hR⟩ (ty_own HO2.out e).1 (by decide) rfl)) hwz)
  have HC3 := Kp.mk (chg_new (((Chg.of_below (F := Foot s ba T) HA.out)).same HC2.out) HP.2 (by have := HQ.out; omega))
  have HF3 := Kp.mk (fun k hk => (HF2.out k hk).imp (fun h => h) (fun h => Nat.le_trans hwz h))
  clear HP hR HO2 HS2 HC2 HX1 HR1 x0 x1 x2 x3 x4 x5 x6 x7 x8 x9
  go_wp2
  generalize ((w2.setCell ⟨q + 1, 0, none⟩ (.int .i64 (0))).setCell ⟨q + 1, 1, none⟩ (.int .i64 ((cc : Int)))).setCell ⟨q + 1, 2, none⟩ (.slice none 0 0) = w6 at *
  have p0 : w6.cell? ⟨q + 1, 0, none⟩ = some (.int .i64 (0)) := HPB.out.cell 0 rfl
  have p1 : w6.cell? ⟨q + 1, 1, none⟩ = some (.int .i64 ((cc : Int))) := HPB.out.cell 1 rfl
  have p2 : w6.cell? ⟨q + 1, 2, none⟩ = some (.slice none 0 0) := HPB.out.cell 2 rfl
  exact bodyPost_ret (v := .agg #[.int .i64 (0), .int .i64 ((cc : Int)), .slice none 0 0]) (by simp [results, Tryz.results22, go_sem, p0, p1, p2]) rfl ⟨ba, bc, T, none, 0, 0, _, rfl, HAN, HS3, HO3, HC3, HF3, ⟨fun k hk => by cases hk⟩⟩

set_option maxRecDepth 100000 in
set_option maxHeartbeats 8000000 in
theorem do4_any (B s : Nat) (ba : Option Addr) (bc : Nat) (T : List Bt) (st : St) (px py pw a b c d id : Int) (kk : Nat) (w : World) (h : StoS w B s ba bc T st) (hx : Ac.Ok ⟨4, ⟨px, py, pw⟩, a, b, c, d, id, (kk : Int)⟩) (hA : st.A.length ≤ 149) (hn : st.next ≤ 1000) (hB : B ≤ w.heap.size) (hk2 : kk ≤ 200) :
    Calls Tryz.prog 22 #[.pointer (some ⟨s, 0, none⟩), .agg #[.int .i64 4, .int .i64 px, .int .i64 py, .int .i64 pw, .int .i64 a, .int .i64 b, .int .i64 c, .int .i64 d, .int .i64 id, .int .i64 (kk : Int)]] w (DoRet B s ba T st ⟨4, ⟨px, py, pw⟩, a, b, c, d, id, (kk : Int)⟩ w) := by
  have ha := below_alloc (Nat.le_refl w.heap.size) (.cells #[.int .i64 4, .int .i64 px, .int .i64 py, .int .i64 pw, .int .i64 a, .int .i64 b, .int .i64 c, .int .i64 d, .int .i64 id, .int .i64 (kk : Int)] 32)
  have ha2 := below_then_alloc ha (.cells #[.int .i64 0, .int .i64 0, .slice none 0 0] 39)
  have HA := Kp.mk ha2
  have H1 := Kp.mk (h.below ha2)
  have HX1 := Kp.mk ((Box.new w #[.int .i64 4, .int .i64 px, .int .i64 py, .int .i64 pw, .int .i64 a, .int .i64 b, .int .i64 c, .int .i64 d, .int .i64 id, .int .i64 (kk : Int)] 32).alloc (.cells #[.int .i64 0, .int .i64 0, .slice none 0 0] 39))
  have hr1 := Box.new (w.alloc (.cells #[.int .i64 4, .int .i64 px, .int .i64 py, .int .i64 pw, .int .i64 a, .int .i64 b, .int .i64 c, .int .i64 d, .int .i64 id, .int .i64 (kk : Int)] 32)) #[.int .i64 0, .int .i64 0, .slice none 0 0] 39
  rw [alloc_size] at hr1
  have HR1 := Kp.mk hr1
  have HFT := Kp.mk (fun k (hk : Foot s ba T k) => (h.stm.lo_foot hk).2)
  obtain ⟨q, hq⟩ : ∃ q, w.heap.size = q := ⟨_, rfl⟩
  obtain ⟨w1, hw1⟩ : ∃ w1, (w.alloc (.cells #[.int .i64 4, .int .i64 px, .int .i64 py, .int .i64 pw, .int .i64 a, .int .i64 b, .int .i64 c, .int .i64 d, .int .i64 id, .int .i64 (kk : Int)] 32)).alloc (.cells #[.int .i64 0, .int .i64 0, .slice none 0 0] 39) = w1 := ⟨_, rfl⟩
  rw [hw1] at HA H1 HR1 HX1
  rw [hq] at HR1 HX1 HFT hB
  have HQ := Kp.mk hq
  have HW1 := Kp.mk hw1
  have HOK := Kp.mk hx
  have hB1 : B ≤ w1.heap.size := by have := HA.out.size; omega
  have hwz := HA.out.size
  have hal := H1.out.alen
  have hlen := H1.out.len
  have x0 : w1.cell? ⟨q, 0, none⟩ = some (.int .i64 4) := HX1.out.cell 0 rfl
  have x1 : w1.cell? ⟨q, 1, none⟩ = some (.int .i64 px) := HX1.out.cell 1 rfl
  have x2 : w1.cell? ⟨q, 2, none⟩ = some (.int .i64 py) := HX1.out.cell 2 rfl
  have x3 : w1.cell? ⟨q, 3, none⟩ = some (.int .i64 pw) := HX1.out.cell 3 rfl
  have x4 : w1.cell? ⟨q, 4, none⟩ = some (.int .i64 a) := HX1.out.cell 4 rfl
  have x5 : w1.cell? ⟨q, 5, none⟩ = some (.int .i64 b) := HX1.out.cell 5 rfl
  have x6 : w1.cell? ⟨q, 6, none⟩ = some (.int .i64 c) := HX1.out.cell 6 rfl
  have x7 : w1.cell? ⟨q, 7, none⟩ = some (.int .i64 d) := HX1.out.cell 7 rfl
  have x8 : w1.cell? ⟨q, 8, none⟩ = some (.int .i64 id) := HX1.out.cell 8 rfl
  have x9 : w1.cell? ⟨q, 9, none⟩ = some (.int .i64 (kk : Int)) := HX1.out.cell 9 rfl
  clear h ha ha2 hr1 hq hw1 hx
  unfold DoRet
  have CP := Kp.mk (topIn_any B s ba bc T st.next st.A.length 4 px py pw a b c d id kk w1 H1.out.stm (by omega) (by omega) H1.out.near hk2 HOK.out.near.1 HOK.out.near.2.1)
  unfold actA at CP
  go_enter Tryz.func22, Tryz.ntmps22
  go_upto_region 1 with (fail)
  simp only [HQ.out]
  rw [HW1.out]
  clear HW1
  go_wp2_with fail
  refine CP.out.mono ?_
  rintro e w2 ⟨ra, m, rc, ids, rfl, HI, HO2, HB2⟩
  have HS2 := Kp.mk (show StoS w2 B s ba bc T (step st ⟨4, ⟨px, py, pw⟩, a, b, c, d, id, (kk : Int)⟩) from by rw [step_look (by simp only; omega)]; exact H1.out.below HB2.out)
  have HC2 := Kp.mk (Chg.of_below (F := Foot s ba T) HB2.out)
  have HF2 := Kp.mk (fun k (hk : Foot s ba T k) => (Or.inl hk : Foot s ba T k ∨ w1.heap.size ≤ k))
  have HAN := Kp.mk (isAn_top (s := st) (x := ⟨4, ⟨px, py, pw⟩, a, b, c, d, id, (kk : Int)⟩) (ids := ids) rfl (by simp only [Int.toNat_natCast]; exact HI.out.perm (H1.out.perm.filter _).symm))
  have HND := Kp.mk (fun k (hk : blk ra = some k) (hf : Foot s ba T k) => (by have h1 := (ty_own HO2.out hk).2; have h2 := HFT.out k hf; have h3 := HQ.out; omega : False))
  clear CP HB2 HI
  have hR := Chg.box HR1.out HC2.out (fun e => by have := HFT.out _ e; omega)
  have f0 : w2.frozen? ⟨q + 1, 0, none⟩ = false := hR.free 0
  have f1 : w2.frozen? ⟨q + 1, 1, none⟩ = false := hR.free 1
  have f2 : w2.frozen? ⟨q + 1, 2, none⟩ = false := hR.free 2
  have r0 : w2.cell? ⟨q + 1, 0, none⟩ = some (.int .i64 0) := hR.cell 0 rfl
  have r1 : w2.cell? ⟨q + 1, 1, none⟩ = some (.int .i64 0) := hR.cell 1 rfl
  have r2 : w2.cell? ⟨q + 1, 2, none⟩ = some (.slice none 0 0) := hR.cell 2 rfl
  have HP := ans_put hR (.int .i64 (0)) (.int .i64 (0)) (.slice ra m rc)
  have HPB := Kp.mk HP.1
  have HS3 := Kp.mk (HS2.out.ans hR HP.2)
  have HO3 := Kp.mk (own_base (own_keep HO2.out HP.2 (fun k hk e => by cases hk; exact TyAt.ne ⟨_, hR⟩ (ty_own HO2.out e).1 (by decide) rfl)) hwz)
  have HC3 := Kp.mk (chg_new (((Chg.of_below (F := Foot s ba T) HA.out)).same HC2.out) HP.2 (by have := HQ.out; omega))
  have HF3 := Kp.mk (fun k hk => (HF2.out k hk).imp (fun h => h) (fun h => Nat.le_trans hwz h))
  clear HP hR HO2 HS2 HC2 HX1 HR1 x0 x1 x2 x3 x4 x5 x6 x7 x8 x9
  go_wp2
  generalize ((w2.setCell ⟨q + 1, 0, none⟩ (.int .i64 (0))).setCell ⟨q + 1, 1, none⟩ (.int .i64 (0))).setCell ⟨q + 1, 2, none⟩ (.slice ra m rc) = w6 at *
  have p0 : w6.cell? ⟨q + 1, 0, none⟩ = some (.int .i64 (0)) := HPB.out.cell 0 rfl
  have p1 : w6.cell? ⟨q + 1, 1, none⟩ = some (.int .i64 (0)) := HPB.out.cell 1 rfl
  have p2 : w6.cell? ⟨q + 1, 2, none⟩ = some (.slice ra m rc) := HPB.out.cell 2 rfl
  exact bodyPost_ret (v := .agg #[.int .i64 (0), .int .i64 (0), .slice ra m rc]) (by simp [results, Tryz.results22, go_sem, p0, p1, p2]) rfl ⟨ba, bc, T, ra, m, rc, _, rfl, HAN, HS3, HO3, HC3, HF3, HND⟩

set_option maxRecDepth 100000 in
set_option maxHeartbeats 8000000 in
theorem do5_any (B s : Nat) (ba : Option Addr) (bc : Nat) (T : List Bt) (st : St) (px py pw a b c d id : Int) (kk : Nat) (w : World) (h : StoS w B s ba bc T st) (hx : Ac.Ok ⟨5, ⟨px, py, pw⟩, a, b, c, d, id, (kk : Int)⟩) (hA : st.A.length ≤ 149) (hn : st.next ≤ 1000) (hB : B ≤ w.heap.size) (hk2 : kk ≤ 200) :
    Calls Tryz.prog 22 #[.pointer (some ⟨s, 0, none⟩), .agg #[.int .i64 5, .int .i64 px, .int .i64 py, .int .i64 pw, .int .i64 a, .int .i64 b, .int .i64 c, .int .i64 d, .int .i64 id, .int .i64 (kk : Int)]] w (DoRet B s ba T st ⟨5, ⟨px, py, pw⟩, a, b, c, d, id, (kk : Int)⟩ w) := by
  have ha := below_alloc (Nat.le_refl w.heap.size) (.cells #[.int .i64 5, .int .i64 px, .int .i64 py, .int .i64 pw, .int .i64 a, .int .i64 b, .int .i64 c, .int .i64 d, .int .i64 id, .int .i64 (kk : Int)] 32)
  have ha2 := below_then_alloc ha (.cells #[.int .i64 0, .int .i64 0, .slice none 0 0] 39)
  have HA := Kp.mk ha2
  have H1 := Kp.mk (h.below ha2)
  have HX1 := Kp.mk ((Box.new w #[.int .i64 5, .int .i64 px, .int .i64 py, .int .i64 pw, .int .i64 a, .int .i64 b, .int .i64 c, .int .i64 d, .int .i64 id, .int .i64 (kk : Int)] 32).alloc (.cells #[.int .i64 0, .int .i64 0, .slice none 0 0] 39))
  have hr1 := Box.new (w.alloc (.cells #[.int .i64 5, .int .i64 px, .int .i64 py, .int .i64 pw, .int .i64 a, .int .i64 b, .int .i64 c, .int .i64 d, .int .i64 id, .int .i64 (kk : Int)] 32)) #[.int .i64 0, .int .i64 0, .slice none 0 0] 39
  rw [alloc_size] at hr1
  have HR1 := Kp.mk hr1
  have HFT := Kp.mk (fun k (hk : Foot s ba T k) => (h.stm.lo_foot hk).2)
  obtain ⟨q, hq⟩ : ∃ q, w.heap.size = q := ⟨_, rfl⟩
  obtain ⟨w1, hw1⟩ : ∃ w1, (w.alloc (.cells #[.int .i64 5, .int .i64 px, .int .i64 py, .int .i64 pw, .int .i64 a, .int .i64 b, .int .i64 c, .int .i64 d, .int .i64 id, .int .i64 (kk : Int)] 32)).alloc (.cells #[.int .i64 0, .int .i64 0, .slice none 0 0] 39) = w1 := ⟨_, rfl⟩
  rw [hw1] at HA H1 HR1 HX1
  rw [hq] at HR1 HX1 HFT hB
  have HQ := Kp.mk hq
  have HW1 := Kp.mk hw1
  have HOK := Kp.mk hx
  have hB1 : B ≤ w1.heap.size := by have := HA.out.size; omega
  have hwz := HA.out.size
  have hal := H1.out.alen
  have hlen := H1.out.len
  have x0 : w1.cell? ⟨q, 0, none⟩ = some (.int .i64 5) := HX1.out.cell 0 rfl
  have x1 : w1.cell? ⟨q, 1, none⟩ = some (.int .i64 px) := HX1.out.cell 1 rfl
  have x2 : w1.cell? ⟨q, 2, none⟩ = some (.int .i64 py) := HX1.out.cell 2 rfl
  have x3 : w1.cell? ⟨q, 3, none⟩ = some (.int .i64 pw) := HX1.out.cell 3 rfl
  have x4 : w1.cell? ⟨q, 4, none⟩ = some (.int .i64 a) := HX1.out.cell 4 rfl
  have x5 : w1.cell? ⟨q, 5, none⟩ = some (.int .i64 b) := HX1.out.cell 5 rfl
  have x6 : w1.cell? ⟨q, 6, none⟩ = some (.int .i64 c) := HX1.out.cell 6 rfl
  have x7 : w1.cell? ⟨q, 7, none⟩ = some (.int .i64 d) := HX1.out.cell 7 rfl
  have x8 : w1.cell? ⟨q, 8, none⟩ = some (.int .i64 id) := HX1.out.cell 8 rfl
  have x9 : w1.cell? ⟨q, 9, none⟩ = some (.int .i64 (kk : Int)) := HX1.out.cell 9 rfl
  clear h ha ha2 hr1 hq hw1 hx
  unfold DoRet
  have CP := Kp.mk (nearTo_any B s ba bc T st.next st.A.length 5 px py pw a b c d id kk w1 H1.out.stm (by omega) (by omega) H1.out.near hk2 HOK.out.near.1 HOK.out.near.2.1)
  unfold actA at CP
  go_enter Tryz.func22, Tryz.ntmps22
  go_upto_region 1 with (fail)
  simp only [HQ.out]
  rw [HW1.out]
  clear HW1
  go_wp2_with fail
  refine CP.out.mono ?_
  rintro e w2 ⟨ra, m, rc, ids, rfl, HI, HO2, HB2⟩
  have HS2 := Kp.mk (show StoS w2 B s ba bc T (step st ⟨5, ⟨px, py, pw⟩, a, b, c, d, id, (kk : Int)⟩) from by rw [step_look (by simp only; omega)]; exact H1.out.below HB2.out)
  have HC2 := Kp.mk (Chg.of_below (F := Foot s ba T) HB2.out)
  have HF2 := Kp.mk (fun k (hk : Foot s ba T k) => (Or.inl hk : Foot s ba T k ∨ w1.heap.size ≤ k))
  have HAN := Kp.mk (isAn_near (s := st) (x := ⟨5, ⟨px, py, pw⟩, a, b, c, d, id, (kk : Int)⟩) (ids := ids) rfl (by simp only [Int.toNat_natCast]; exact HI.out.perm (by rw [List.filter_eq_self.2 (fun _ _ => rfl)]; exact H1.out.perm.symm)))
  have HND := Kp.mk (fun k (hk : blk ra = some k) (hf : Foot s ba T k) => (by have h1 := (ty_own HO2.out hk).2; have h2 := HFT.out k hf; have h3 := HQ.out; omega : False))
  clear CP HB2 HI
  have hR := Chg.box HR1.out HC2.out (fun e => by have := HFT.out _ e; omega)
  have f0 : w2.frozen? ⟨q + 1, 0, none⟩ = false := hR.free 0
  have f1 : w2.frozen? ⟨q + 1, 1, none⟩ = false := hR.free 1
  have f2 : w2.frozen? ⟨q + 1, 2, none⟩ = false := hR.free 2
  have r0 : w2.cell? ⟨q + 1, 0, none⟩ = some (.int .i64 0) := hR.cell 0 rfl
  have r1 : w2.cell? ⟨q + 1, 1, none⟩ = some (.int .i64 0) := hR.cell 1 rfl
  have r2 : w2.cell? ⟨q + 1, 2, none⟩ = some (.slice none 0 0) := hR.cell 2 rfl
  have HP := ans_put hR (.int .i64 (0)) (.int .i64 (0)) (.slice ra m rc)
  have HPB := Kp.mk HP.1
  have HS3 := Kp.mk (HS2.out.ans hR HP.2)
  have HO3 := Kp.mk (own_base (own_keep HO2.out HP.2 (fun k hk e => by cases hk; exact TyAt.ne ⟨_, hR⟩ (ty_own HO2.out e).1 (by decide) rfl)) hwz)
  have HC3 := Kp.mk (chg_new (((Chg.of_below (F := Foot s ba T) HA.out)).same HC2.out) HP.2 (by have := HQ.out; omega))
  have HF3 := Kp.mk (fun k hk => (HF2.out k hk).imp (fun h => h) (fun h => Nat.le_trans hwz h))
  clear HP hR HO2 HS2 HC2 HX1 HR1 x0 x1 x2 x3 x4 x5 x6 x7 x8 x9
  go_wp2
  generalize ((w2.setCell ⟨q + 1, 0, none⟩ (.int .i64 (0))).setCell ⟨q + 1, 1, none⟩ (.int .i64 (0))).setCell ⟨q + 1, 2, none⟩ (.slice ra m rc) = w6 at *
  have p0 : w6.cell? ⟨q + 1, 0, none⟩ = some (.int .i64 (0)) := HPB.out.cell 0 rfl
  have p1 : w6.cell? ⟨q + 1, 1, none⟩ = some (.int .i64 (0)) := HPB.out.cell 1 rfl
  have p2 : w6.cell? ⟨q + 1, 2, none⟩ = some (.slice ra m rc) := HPB.out.cell 2 rfl
  exact bodyPost_ret (v := .agg #[.int .i64 (0), .int .i64 (0), .slice ra m rc]) (by simp [results, Tryz.results22, go_sem, p0, p1, p2]) rfl ⟨ba, bc, T, ra, m, rc, _, rfl, HAN, HS3, HO3, HC3, HF3, HND⟩

theorem do_any (B s : Nat) (ba : Option Addr) (bc : Nat) (T : List Bt) (st : St) (x : Ac) (w : World) (h : StoS w B s ba bc T st) (hx : x.Ok) (hA : st.A.length ≤ 149) (hn : st.next ≤ 1000) (hB : B ≤ w.heap.size) :
    Calls Tryz.prog 22 #[.pointer (some ⟨s, 0, none⟩), .agg (acA x)] w (DoRet B s ba T st x w) := by
  obtain ⟨kd, ⟨px, py, pw⟩, a, b, c, d, id, k⟩ := x
  obtain ⟨h1, h2⟩ := hx.kind
  obtain ⟨k1, k2⟩ := hx.k
  simp only at h1 h2 k1 k2
  obtain ⟨kk, rfl⟩ : ∃ kk : Nat, k = kk := ⟨k.toNat, by omega⟩
  rcases (show kd = 1 ∨ kd = 2 ∨ kd = 3 ∨ kd = 4 ∨ kd = 5 by omega) with rfl | rfl | rfl | rfl | rfl
  · exact do1_any B s ba bc T st px py pw a b c d id kk w h hx hA hn hB (by omega)
  · exact do2_any B s ba bc T st px py pw a b c d id kk w h hx hA hn hB (by omega)
  · exact do3_any B s ba bc T st px py pw a b c d id kk w h hx hA hn hB (by omega)
  · exact do4_any B s ba bc T st px py pw a b c d id kk w h hx hA hn hB (by omega)
  · exact do5_any B s ba bc T st px py pw a b c d id kk w h hx hA hn hB (by omega)

end Go.Proofs.YtladgklnacihkaaGreat.Dy

