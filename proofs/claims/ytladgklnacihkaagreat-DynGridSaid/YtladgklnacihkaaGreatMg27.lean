import Derived.Test.YtladgklnacihkaaGreatMg26
import Derived.Test.YtladgklnacihkaaGreatMg19
/- Points that come and go: topIn and nearTo. -/
namespace Go.Proofs.YtladgklnacihkaaGreat.Dy
set_option linter.unusedVariables false
open Go.RowKit

theorem allL_near {T : List Bt} (h : ∀ a ∈ allL T, a.2.Near) {t : Bt} (ht : t ∈ T) : ∀ p ∈ t.L, p.2.Near := fun p hp => h p (List.mem_flatMap.2 ⟨t, ht, hp⟩)
theorem mem_len {T : List Bt} {t : Bt} (ht : t ∈ T) : t.L.length ≤ (allL T).length := by
  obtain ⟨i, hi, rfl⟩ := List.getElem_of_mem ht
  exact allL_len hi

set_option maxRecDepth 100000 in
set_option maxHeartbeats 8000000 in
theorem topIn_any (B s : Nat) (ba : Option Addr) (bc : Nat) (T : List Bt) (nx ct : Nat) (k x y w0 a b c d id : Int) (kk : Nat) (w : World) (h : StM w B s ba bc T nx ct) (hct : (allL T).length ≤ 150) (hT : T.length ≤ 1000) (hN : ∀ a ∈ allL T, a.2.Near) (hkk : kk ≤ 200) (hx : -1048576 ≤ x ∧ x ≤ 1048576) (hy : -1048576 ≤ y ∧ y ≤ 1048576) :
    Calls Tryz.prog 42 #[.pointer (some ⟨s, 0, none⟩), .agg (actA k x y w0 a b c d id (kk : Int))] w fun e w' => ∃ (ra : Option Addr) (m rc : Nat) (ids : List Int), e = .returned (.agg #[.int .i64 0, .int .i64 0, .slice ra m rc]) ∧ Kp (IsBest (wtI) ((allL T).filter (fun p => inR a b c d p.2)) kk ids) ∧ Kp (w'.ownsRow w.heap.size 3 1 (.slice ra m rc) m (ints ids)) ∧ Kp (Below w.heap.size w w') := by
  show Calls _ _ #[_, .agg #[.int .i64 k, .int .i64 x, .int .i64 y, .int .i64 w0, .int .i64 a, .int .i64 b, .int .i64 c, .int .i64 d, .int .i64 id, .int .i64 (kk : Int)]] _ _
  have ha := below_alloc (Nat.le_refl w.heap.size) (.cells #[.int .i64 k, .int .i64 x, .int .i64 y, .int .i64 w0, .int .i64 a, .int .i64 b, .int .i64 c, .int .i64 d, .int .i64 id, .int .i64 (kk : Int)] 32)
  have ha2 := below_then_alloc ha (.cells #[.int .i64 0, .int .i64 0, .slice none 0 0] 39)
  have HA := Kp.mk ha2
  have H1 := Kp.mk (h.below ha2)
  have HX1 := Kp.mk ((Box.new w #[.int .i64 k, .int .i64 x, .int .i64 y, .int .i64 w0, .int .i64 a, .int .i64 b, .int .i64 c, .int .i64 d, .int .i64 id, .int .i64 (kk : Int)] 32).alloc (.cells #[.int .i64 0, .int .i64 0, .slice none 0 0] 39))
  have hr1 := Box.new (w.alloc (.cells #[.int .i64 k, .int .i64 x, .int .i64 y, .int .i64 w0, .int .i64 a, .int .i64 b, .int .i64 c, .int .i64 d, .int .i64 id, .int .i64 (kk : Int)] 32)) #[.int .i64 0, .int .i64 0, .slice none 0 0] 39
  rw [alloc_size] at hr1
  have HR1 := Kp.mk hr1
  obtain ⟨q, hq⟩ : ∃ q, w.heap.size = q := ⟨_, rfl⟩
  obtain ⟨w1, hw1⟩ : ∃ w1, (w.alloc (.cells #[.int .i64 k, .int .i64 x, .int .i64 y, .int .i64 w0, .int .i64 a, .int .i64 b, .int .i64 c, .int .i64 d, .int .i64 id, .int .i64 (kk : Int)] 32)).alloc (.cells #[.int .i64 0, .int .i64 0, .slice none 0 0] 39) = w1 := ⟨_, rfl⟩
  rw [hw1] at HA H1 HR1 HX1
  rw [hq] at HR1 HX1
  have HQ := Kp.mk hq
  have HW1 := Kp.mk hw1
  have HNR := Kp.mk hN
  have hst := H1.out
  have CB := Kp.mk (best_any B s ba bc T nx ct kk 63 65 #[.pointer (some ⟨q, 0, none⟩)] #[] (inR a b c d) (wtI) w1 hst hct hT (by omega)
    (enters_of Tryz.func63 (by kernel_rfl) rfl) (enters_of Tryz.func65 (by kernel_rfl) rfl)
    (fun W hW t ht => show Calls _ _ #[_, _] _ _ from topOf_any t B q k x y w0 a b c d id kk W ((hst.each t ht).below hW) (HX1.out.below hW) (Nat.le_trans (mem_len ht) hct) (allL_near HNR.out ht) )
    (fun W hW p hp => show Calls _ _ #[_] _ _ from topBy_any p W (by obtain ⟨z, hz, rfl⟩ := List.mem_map.1 hp; exact HNR.out z hz)))
  have t0 : decide ((kk : Int) < 0) = false := decide_eq_false (by omega)
  have x9 : w1.cell? ⟨q, 9, none⟩ = some (.int .i64 (kk : Int)) := HX1.out.cell 9 rfl

  clear h ha ha2 hr1 hq hw1 hN hst
  go_enter Tryz.func42, Tryz.ntmps42
  go_upto_region 1 with (fail)
  simp only [HQ.out]
  rw [HW1.out]
  clear HW1
  go_wp2_with fail
  refine CB.out.mono ?_
  rintro e w2 ⟨ra, m, rc, ids, rfl, HI, HO, HB2⟩
  have hR := HR1.out.below HB2.out
  have f0 : w2.frozen? ⟨q + 1, 0, none⟩ = false := hR.free 0
  have f1 : w2.frozen? ⟨q + 1, 1, none⟩ = false := hR.free 1
  have f2 : w2.frozen? ⟨q + 1, 2, none⟩ = false := hR.free 2
  have r0 : w2.cell? ⟨q + 1, 0, none⟩ = some (.int .i64 0) := hR.cell 0 rfl
  have r1 : w2.cell? ⟨q + 1, 1, none⟩ = some (.int .i64 0) := hR.cell 1 rfl
  have r2 : w2.cell? ⟨q + 1, 2, none⟩ = some (.slice none 0 0) := hR.cell 2 rfl
  have HP := ans_put hR (.int .i64 0) (.int .i64 0) (.slice ra m rc)
  have HPB := Kp.mk HP.1
  have HO2 := Kp.mk (own_base (own_keep HO.out HP.2 (fun k hk e => by cases hk; exact TyAt.ne ⟨_, hR⟩ (ty_own HO.out e).1 (by decide) rfl)) HA.out.size)
  have HC := Kp.mk ((Chg.below (B := w.heap.size) (F := fun k => w.heap.size ≤ k) (chg_new (((Chg.of_below (F := fun k => w.heap.size ≤ k) HA.out)).same (Chg.of_below HB2.out)) HP.2 (by have := HQ.out; omega)) (Nat.le_refl _) (fun _ h => h)))
  clear HP hR HO HB2 CB H1 HX1 HR1 x9
  go_wp2
  generalize ((w2.setCell ⟨q + 1, 0, none⟩ (.int .i64 0)).setCell ⟨q + 1, 1, none⟩ (.int .i64 0)).setCell ⟨q + 1, 2, none⟩ (.slice ra m rc) = w6 at *
  have p0 : w6.cell? ⟨q + 1, 0, none⟩ = some (.int .i64 0) := HPB.out.cell 0 rfl
  have p1 : w6.cell? ⟨q + 1, 1, none⟩ = some (.int .i64 0) := HPB.out.cell 1 rfl
  have p2 : w6.cell? ⟨q + 1, 2, none⟩ = some (.slice ra m rc) := HPB.out.cell 2 rfl
  exact bodyPost_ret (v := .agg #[.int .i64 0, .int .i64 0, .slice ra m rc]) (by simp [results, Tryz.results42, go_sem, p0, p1, p2]) rfl ⟨ra, m, rc, ids, rfl, HI, HO2, HC⟩

set_option maxRecDepth 100000 in
set_option maxHeartbeats 8000000 in
theorem nearTo_any (B s : Nat) (ba : Option Addr) (bc : Nat) (T : List Bt) (nx ct : Nat) (k x y w0 a b c d id : Int) (kk : Nat) (w : World) (h : StM w B s ba bc T nx ct) (hct : (allL T).length ≤ 150) (hT : T.length ≤ 1000) (hN : ∀ a ∈ allL T, a.2.Near) (hkk : kk ≤ 200) (hx : -1048576 ≤ x ∧ x ≤ 1048576) (hy : -1048576 ≤ y ∧ y ≤ 1048576) :
    Calls Tryz.prog 43 #[.pointer (some ⟨s, 0, none⟩), .agg (actA k x y w0 a b c d id (kk : Int))] w fun e w' => ∃ (ra : Option Addr) (m rc : Nat) (ids : List Int), e = .returned (.agg #[.int .i64 0, .int .i64 0, .slice ra m rc]) ∧ Kp (IsBest (dist2 x y) ((allL T).filter (fun p => (fun _ : Pt => true) p.2)) kk ids) ∧ Kp (w'.ownsRow w.heap.size 3 1 (.slice ra m rc) m (ints ids)) ∧ Kp (Below w.heap.size w w') := by
  show Calls _ _ #[_, .agg #[.int .i64 k, .int .i64 x, .int .i64 y, .int .i64 w0, .int .i64 a, .int .i64 b, .int .i64 c, .int .i64 d, .int .i64 id, .int .i64 (kk : Int)]] _ _
  have ha := below_alloc (Nat.le_refl w.heap.size) (.cells #[.int .i64 k, .int .i64 x, .int .i64 y, .int .i64 w0, .int .i64 a, .int .i64 b, .int .i64 c, .int .i64 d, .int .i64 id, .int .i64 (kk : Int)] 32)
  have ha2 := below_then_alloc ha (.cells #[.int .i64 0, .int .i64 0, .slice none 0 0] 39)
  have HA := Kp.mk ha2
  have H1 := Kp.mk (h.below ha2)
  have HX1 := Kp.mk ((Box.new w #[.int .i64 k, .int .i64 x, .int .i64 y, .int .i64 w0, .int .i64 a, .int .i64 b, .int .i64 c, .int .i64 d, .int .i64 id, .int .i64 (kk : Int)] 32).alloc (.cells #[.int .i64 0, .int .i64 0, .slice none 0 0] 39))
  have hr1 := Box.new (w.alloc (.cells #[.int .i64 k, .int .i64 x, .int .i64 y, .int .i64 w0, .int .i64 a, .int .i64 b, .int .i64 c, .int .i64 d, .int .i64 id, .int .i64 (kk : Int)] 32)) #[.int .i64 0, .int .i64 0, .slice none 0 0] 39
  rw [alloc_size] at hr1
  have HR1 := Kp.mk hr1
  obtain ⟨q, hq⟩ : ∃ q, w.heap.size = q := ⟨_, rfl⟩
  obtain ⟨w1, hw1⟩ : ∃ w1, (w.alloc (.cells #[.int .i64 k, .int .i64 x, .int .i64 y, .int .i64 w0, .int .i64 a, .int .i64 b, .int .i64 c, .int .i64 d, .int .i64 id, .int .i64 (kk : Int)] 32)).alloc (.cells #[.int .i64 0, .int .i64 0, .slice none 0 0] 39) = w1 := ⟨_, rfl⟩
  rw [hw1] at HA H1 HR1 HX1
  rw [hq] at HR1 HX1
  have HQ := Kp.mk hq
  have HW1 := Kp.mk hw1
  have HNR := Kp.mk hN
  have hst := H1.out
  have CB := Kp.mk (best_any B s ba bc T nx ct kk 66 68 #[.pointer (some ⟨q, 0, none⟩)] #[.pointer (some ⟨q, 0, none⟩)] (fun _ => true) (dist2 x y) w1 hst hct hT (by omega)
    (enters_of Tryz.func66 (by kernel_rfl) rfl) (enters_of Tryz.func68 (by kernel_rfl) rfl)
    (fun W hW t ht => show Calls _ _ #[_, _] _ _ from nearOf_any t B q k x y w0 a b c d id kk W ((hst.each t ht).below hW) (HX1.out.below hW) (Nat.le_trans (mem_len ht) hct) (allL_near HNR.out ht) hx hy)
    (fun W hW p hp => show Calls _ _ #[_, _] _ _ from nearBy_any p q k x y w0 a b c d id kk W (HX1.out.below hW) (by obtain ⟨z, hz, rfl⟩ := List.mem_map.1 hp; exact HNR.out z hz) hx hy))
  have t0 : decide ((kk : Int) < 0) = false := decide_eq_false (by omega)
  have x9 : w1.cell? ⟨q, 9, none⟩ = some (.int .i64 (kk : Int)) := HX1.out.cell 9 rfl
  have FX := Kp.mk (fun W => fits_any x W hx)
  have FY := Kp.mk (fun W => fits_any y W hy)
  have x1 : w1.cell? ⟨q, 1, none⟩ = some (.int .i64 x) := HX1.out.cell 1 rfl
  have x2 : w1.cell? ⟨q, 2, none⟩ = some (.int .i64 y) := HX1.out.cell 2 rfl
  clear h ha ha2 hr1 hq hw1 hN hst
  go_enter Tryz.func43, Tryz.ntmps43
  go_upto_region 1 with (fail)
  simp only [HQ.out]
  rw [HW1.out]
  clear HW1
  go_wp2_with (first
    | (go_at_call 58; with_reducible refine (FX.out _).mono ?_; rintro e w' ⟨rfl, rfl⟩)
    | (go_at_call 58; with_reducible refine (FY.out _).mono ?_; rintro e w' ⟨rfl, rfl⟩)
    | fail)
  refine CB.out.mono ?_
  rintro e w2 ⟨ra, m, rc, ids, rfl, HI, HO, HB2⟩
  have hR := HR1.out.below HB2.out
  have f0 : w2.frozen? ⟨q + 1, 0, none⟩ = false := hR.free 0
  have f1 : w2.frozen? ⟨q + 1, 1, none⟩ = false := hR.free 1
  have f2 : w2.frozen? ⟨q + 1, 2, none⟩ = false := hR.free 2
  have r0 : w2.cell? ⟨q + 1, 0, none⟩ = some (.int .i64 0) := hR.cell 0 rfl
  have r1 : w2.cell? ⟨q + 1, 1, none⟩ = some (.int .i64 0) := hR.cell 1 rfl
  have r2 : w2.cell? ⟨q + 1, 2, none⟩ = some (.slice none 0 0) := hR.cell 2 rfl
  have HP := ans_put hR (.int .i64 0) (.int .i64 0) (.slice ra m rc)
  have HPB := Kp.mk HP.1
  have HO2 := Kp.mk (own_base (own_keep HO.out HP.2 (fun k hk e => by cases hk; exact TyAt.ne ⟨_, hR⟩ (ty_own HO.out e).1 (by decide) rfl)) HA.out.size)
  have HC := Kp.mk ((Chg.below (B := w.heap.size) (F := fun k => w.heap.size ≤ k) (chg_new (((Chg.of_below (F := fun k => w.heap.size ≤ k) HA.out)).same (Chg.of_below HB2.out)) HP.2 (by have := HQ.out; omega)) (Nat.le_refl _) (fun _ h => h)))
  clear HP hR HO HB2 CB H1 HX1 HR1 x9
  go_wp2
  generalize ((w2.setCell ⟨q + 1, 0, none⟩ (.int .i64 0)).setCell ⟨q + 1, 1, none⟩ (.int .i64 0)).setCell ⟨q + 1, 2, none⟩ (.slice ra m rc) = w6 at *
  have p0 : w6.cell? ⟨q + 1, 0, none⟩ = some (.int .i64 0) := HPB.out.cell 0 rfl
  have p1 : w6.cell? ⟨q + 1, 1, none⟩ = some (.int .i64 0) := HPB.out.cell 1 rfl
  have p2 : w6.cell? ⟨q + 1, 2, none⟩ = some (.slice ra m rc) := HPB.out.cell 2 rfl
  exact bodyPost_ret (v := .agg #[.int .i64 0, .int .i64 0, .slice ra m rc]) (by simp [results, Tryz.results43, go_sem, p0, p1, p2]) rfl ⟨ra, m, rc, ids, rfl, HI, HO2, HC⟩

end Go.Proofs.YtladgklnacihkaaGreat.Dy

/- Points that come and go: what a store holds (plain facts). -/
namespace Go.Proofs.YtladgklnacihkaaGreat.Dy
set_option linter.unusedVariables false
open Go.RowKit

/-- A store holds what is there. -/
structure StoS (w : World) (B s : Nat) (ba : Option Addr) (bc : Nat) (T : List Bt) (st : St) : Prop where
  stm : StM w B s ba bc T st.next st.A.length
  perm : (allL T).Perm st.A
  inv : st.Inv
  len : T.length ≤ st.next
  pws : ∀ t ∈ T, t.pw ≤ st.next
theorem StoS.below {w w' : World} {B s : Nat} {ba : Option Addr} {bc : Nat} {T : List Bt} {st : St} (h : StoS w B s ba bc T st) (hb : Below w.heap.size w w') : StoS w' B s ba bc T st := ⟨h.stm.below hb, h.perm, h.inv, h.len, h.pws⟩
theorem StoS.ans {w w' : World} {B s : Nat} {ba : Option Addr} {bc : Nat} {T : List Bt} {st : St} {q : Nat} {cs : Array Value} (h : StoS w B s ba bc T st) (hq : Box w q cs 39) (hg : w.grownBy w' (some q)) : StoS w' B s ba bc T st := ⟨h.stm.ans hq hg, h.perm, h.inv, h.len, h.pws⟩
theorem StoS.near {w : World} {B s : Nat} {ba : Option Addr} {bc : Nat} {T : List Bt} {st : St} (h : StoS w B s ba bc T st) : ∀ a ∈ allL T, a.2.Near := fun a ha => h.inv.near a (h.perm.mem_iff.1 ha)
theorem StoS.alen {w : World} {B s : Nat} {ba : Option Addr} {bc : Nat} {T : List Bt} {st : St} (h : StoS w B s ba bc T st) : (allL T).length = st.A.length := h.perm.length_eq
theorem cntR_perm {L M : List Pt} (h : L.Perm M) (a b c d : Int) : cntR L a b c d = cntR M a b c d := by unfold cntR; exact h.countP_eq _
/-- One that is cut. -/
theorem cut_perm {T : List Bt} {i j : Nat} (hi : i < T.length) (hj : j < T[i].L.length) :
    ∃ X Y, allL T = X ++ T[i].L[j] :: Y ∧ allL (T.set i { T[i] with L := T[i].L.eraseIdx j }) = X ++ Y := by
  refine ⟨allL (T.take i) ++ T[i].L.take j, T[i].L.drop (j + 1) ++ allL (T.drop (i + 1)), ?_, ?_⟩
  · have e1 : allL T = allL (T.take i) ++ (T[i].L ++ allL (T.drop (i + 1))) := by
      conv => lhs; rw [show T = T.take i ++ T[i] :: T.drop (i + 1) by simp]
      unfold allL
      rw [List.flatMap_append, List.flatMap_cons]
    have e2 : T[i].L = T[i].L.take j ++ T[i].L[j] :: T[i].L.drop (j + 1) := by simp
    rw [e1, List.append_assoc, ← List.cons_append, ← List.append_assoc (List.take j _), ← e2]
  · rw [List.set_eq_take_append_cons_drop, if_pos hi]
    unfold allL
    rw [List.flatMap_append, List.flatMap_cons, List.eraseIdx_eq_take_drop_succ]
    simp
theorem ids_nodup {A : List IP} (h : A.Pairwise (fun a b => a.1 < b.1)) : (A.map (·.1)).Nodup := by
  unfold List.Nodup
  rw [List.pairwise_map]
  exact h.imp (fun hab e => by omega)
theorem StoS.cut_yes {w w' : World} {B s : Nat} {ba : Option Addr} {bc : Nat} {T : List Bt} {st : St} {x : Ac} {i j : Nat} (h : StoS w B s ba bc T st) (hi : i < T.length) (hj : j < T[i].L.length) (hid : T[i].L[j].1 = x.id) (hk : x.kind = 2)
    (hm : StM w' B s ba bc (T.set i { T[i] with L := T[i].L.eraseIdx j }) st.next (st.A.length - 1)) (hx : x.Ok) : StoS w' B s ba bc (T.set i { T[i] with L := T[i].L.eraseIdx j }) (step st x) ∧ x.id ∈ st.A.map (·.1) := by
  obtain ⟨X, Y, e1, e2⟩ := cut_perm hi hj
  have hp := h.perm
  rw [e1] at hp
  have hnd : ((X ++ T[i].L[j] :: Y).map (·.1)).Nodup := (hp.map _).nodup_iff.2 (ids_nodup h.inv.up)
  have hf : (X ++ T[i].L[j] :: Y).filter (fun a => a.1 != x.id) = X ++ Y := by
    rw [List.map_append, List.map_cons, List.nodup_append] at hnd
    obtain ⟨h1, h2, h3⟩ := hnd
    rw [List.filter_append, List.filter_cons]
    rw [if_neg (by simp [hid])]
    rw [List.filter_eq_self.2 (fun a ha => ?_), List.filter_eq_self.2 (fun a ha => ?_)]
    · rw [bne_iff_ne]
      intro e
      have := (List.nodup_cons.1 h2).1
      exact this (by rw [hid, ← e]; exact List.mem_map.2 ⟨a, ha, rfl⟩)
    · rw [bne_iff_ne]
      intro e
      exact h3 a.1 (List.mem_map.2 ⟨a, ha, rfl⟩) (T[i].L[j].1) List.mem_cons_self (by rw [hid]; exact e)
  have hpf := hp.filter (fun a => a.1 != x.id)
  rw [hf, ← e2] at hpf
  have hlen : (st.A.filter (fun a => a.1 != x.id)).length = st.A.length - 1 := by
    rw [← hpf.length_eq, e2, ← hp.length_eq]; simp
  have hst : step st x = ⟨st.A.filter (fun a => a.1 != x.id), st.next⟩ := by unfold step; rw [if_neg (by omega), if_pos hk]
  refine ⟨⟨?_, ?_, inv_step h.inv hx, ?_, ?_⟩, ?_⟩
  · rw [hst]; simp only; rw [hlen]; exact hm
  · rw [hst]; exact hpf
  · rw [hst, List.length_set]; exact h.len
  · rw [hst]
    intro t ht
    rcases List.mem_or_eq_of_mem_set ht with h1 | rfl
    · exact h.pws t h1
    · exact (show T[i].pw ≤ st.next from h.pws _ (List.getElem_mem hi))
  · rw [← (hp.map _).mem_iff, ← hid]
    simp
theorem StoS.cut_no {w w' : World} {B s : Nat} {ba : Option Addr} {bc : Nat} {T : List Bt} {st : St} {x : Ac} (h : StoS w B s ba bc T st) (hn : ∀ t ∈ T, x.id ∉ t.L.map (·.1)) (hk : x.kind = 2) (hm : StM w' B s ba bc T st.next st.A.length) : StoS w' B s ba bc T (step st x) ∧ x.id ∉ st.A.map (·.1) := by
  have hno : x.id ∉ st.A.map (·.1) := by
    rw [← (h.perm.map _).mem_iff]
    intro hm
    obtain ⟨a, ha, e⟩ := List.mem_map.1 hm
    obtain ⟨t, ht, hat⟩ := List.mem_flatMap.1 ha
    exact hn t ht (List.mem_map.2 ⟨a, hat, e⟩)
  have hst : step st x = st := by
    unfold step
    rw [if_neg (by omega), if_pos hk, List.filter_eq_self.2 (fun a ha => by rw [bne_iff_ne]; intro e; exact hno (List.mem_map.2 ⟨a, ha, e⟩))]
  rw [hst]
  exact ⟨⟨hm, h.perm, h.inv, h.len, h.pws⟩, hno⟩
theorem StoS.put_on {w w' : World} {B s : Nat} {ba ba' : Option Addr} {bc bc' : Nat} {T T' : List Bt} {st : St} {x : Ac} (h : StoS w B s ba bc T st) (hk : x.kind = 1) (hx : x.Ok) (hp : (allL T').Perm (allL T ++ [((st.next : Int), x.p)])) (hl : T'.length ≤ st.next + 1) (hw : ∀ t ∈ T', t.pw ≤ st.next + 1) (hm : StM w' B s ba' bc' T' (st.next + 1) (st.A.length + 1)) : StoS w' B s ba' bc' T' (step st x) := by
  have hst : step st x = ⟨st.A ++ [((st.next : Int), x.p)], st.next + 1⟩ := by unfold step; rw [if_pos hk]
  rw [hst]
  refine ⟨by simpa using hm, hp.trans (List.Perm.append_right _ h.perm), ?_, hl, hw⟩
  rw [← hst]; exact inv_step h.inv hx

end Go.Proofs.YtladgklnacihkaaGreat.Dy

/- Points that come and go: the batch of a new point, whatever block is made first. -/
namespace Go.Proofs.YtladgklnacihkaaGreat.Dy
set_option linter.unusedVariables false
open Go.RowKit

/-- The new batch: a variable nb that points to it. -/
structure NewB (B : Nat) (nx : Nat) (p : Pt) (w W : World) (nb mb gi gp : Nat) : Prop where
  nbx : Box W nb #[.pointer (some ⟨mb, 0, none⟩)] 121
  bt : BtM W B ⟨mb, 0, some ⟨gi, 0, none⟩, 1, some ⟨gp, 0, none⟩, 1, [((nx : Int), p)]⟩
  fresh : w.heap.size ≤ nb ∧ w.heap.size ≤ mb ∧ w.heap.size ≤ gi ∧ w.heap.size ≤ gp
  below : Below w.heap.size w W
theorem al4 (w : World) (o1 o2 o3 o4 : Obj) :
    ((((w.alloc o1).alloc o2).alloc o3).alloc o4).drew.heap[w.heap.size]? = some o1 ∧ ((((w.alloc o1).alloc o2).alloc o3).alloc o4).drew.heap[w.heap.size + 1]? = some o2 ∧
    ((((w.alloc o1).alloc o2).alloc o3).alloc o4).drew.heap[w.heap.size + 1 + 1]? = some o3 ∧ ((((w.alloc o1).alloc o2).alloc o3).alloc o4).drew.heap[w.heap.size + 1 + 1 + 1]? = some o4 ∧
    Below w.heap.size w ((((w.alloc o1).alloc o2).alloc o3).alloc o4).drew := by
  refine ⟨?_, ?_, ?_, ?_, (below_then_alloc (below_then_alloc (below_then_alloc (below_alloc (Nat.le_refl _) _) _) _) _).drew⟩
  · show ((((w.heap.push o1).push o2).push o3).push o4)[w.heap.size]? = some o1
    simp only [Array.getElem?_push, Array.size_push]
    repeat' split
    all_goals first | rfl | (exfalso; omega) | (exfalso; simp_all; done)
  · show ((((w.heap.push o1).push o2).push o3).push o4)[w.heap.size + 1]? = some o2
    simp only [Array.getElem?_push, Array.size_push]
    repeat' split
    all_goals first | rfl | (exfalso; omega) | (exfalso; simp_all; done)
  · show ((((w.heap.push o1).push o2).push o3).push o4)[w.heap.size + 1 + 1]? = some o3
    simp only [Array.getElem?_push, Array.size_push]
    repeat' split
    all_goals first | rfl | (exfalso; omega) | (exfalso; simp_all; done)
  · show ((((w.heap.push o1).push o2).push o3).push o4)[w.heap.size + 1 + 1 + 1]? = some o4
    simp only [Array.getElem?_push, Array.size_push]
    repeat' split
    all_goals first | rfl | (exfalso; omega) | (exfalso; simp_all; done)
theorem new_IQTX (B nx : Nat) (px py pw : Int) (w : World) (hB : B ≤ w.heap.size) : NewB B nx ⟨px, py, pw⟩ w (((((w.alloc (.cells #[.int .i64 (nx : Int)] 3)).alloc (.cells #[.int .i64 px, .int .i64 py, .int .i64 pw] 28)).alloc (.cells #[.pointer (some ⟨w.heap.size + 1 + 1 + 1, 0, none⟩)] 121)).alloc (.cells #[.int .i64 0, .slice (some ⟨w.heap.size, 0, none⟩) 1 1, .slice (some ⟨w.heap.size + 1, 0, none⟩) 1 1] 123)).drew) (w.heap.size + 1 + 1) (w.heap.size + 1 + 1 + 1) (w.heap.size) (w.heap.size + 1) := by
  obtain ⟨a1, a2, a3, a4, ab⟩ := al4 w (.cells #[.int .i64 (nx : Int)] 3) (.cells #[.int .i64 px, .int .i64 py, .int .i64 pw] 28) (.cells #[.pointer (some ⟨w.heap.size + 1 + 1 + 1, 0, none⟩)] 121) (.cells #[.int .i64 0, .slice (some ⟨w.heap.size, 0, none⟩) 1 1, .slice (some ⟨w.heap.size + 1, 0, none⟩) 1 1] 123)
  exact ⟨a3, ⟨a4, by simp only; omega, ⟨rfl, .inr ⟨_, 1, _, rfl, by omega, a1, Nat.le_refl _, by decide, rfl, rfl⟩⟩, ⟨rfl, .inr ⟨_, 1, _, rfl, by omega, a2, Nat.le_refl _, by decide, rfl, rfl⟩⟩⟩, by omega, ab⟩
theorem new_IQXT (B nx : Nat) (px py pw : Int) (w : World) (hB : B ≤ w.heap.size) : NewB B nx ⟨px, py, pw⟩ w (((((w.alloc (.cells #[.int .i64 (nx : Int)] 3)).alloc (.cells #[.int .i64 px, .int .i64 py, .int .i64 pw] 28)).alloc (.cells #[.int .i64 0, .slice (some ⟨w.heap.size, 0, none⟩) 1 1, .slice (some ⟨w.heap.size + 1, 0, none⟩) 1 1] 123)).alloc (.cells #[.pointer (some ⟨w.heap.size + 1 + 1, 0, none⟩)] 121)).drew) (w.heap.size + 1 + 1 + 1) (w.heap.size + 1 + 1) (w.heap.size) (w.heap.size + 1) := by
  obtain ⟨a1, a2, a3, a4, ab⟩ := al4 w (.cells #[.int .i64 (nx : Int)] 3) (.cells #[.int .i64 px, .int .i64 py, .int .i64 pw] 28) (.cells #[.int .i64 0, .slice (some ⟨w.heap.size, 0, none⟩) 1 1, .slice (some ⟨w.heap.size + 1, 0, none⟩) 1 1] 123) (.cells #[.pointer (some ⟨w.heap.size + 1 + 1, 0, none⟩)] 121)
  exact ⟨a4, ⟨a3, by simp only; omega, ⟨rfl, .inr ⟨_, 1, _, rfl, by omega, a1, Nat.le_refl _, by decide, rfl, rfl⟩⟩, ⟨rfl, .inr ⟨_, 1, _, rfl, by omega, a2, Nat.le_refl _, by decide, rfl, rfl⟩⟩⟩, by omega, ab⟩
theorem new_ITQX (B nx : Nat) (px py pw : Int) (w : World) (hB : B ≤ w.heap.size) : NewB B nx ⟨px, py, pw⟩ w (((((w.alloc (.cells #[.int .i64 (nx : Int)] 3)).alloc (.cells #[.pointer (some ⟨w.heap.size + 1 + 1 + 1, 0, none⟩)] 121)).alloc (.cells #[.int .i64 px, .int .i64 py, .int .i64 pw] 28)).alloc (.cells #[.int .i64 0, .slice (some ⟨w.heap.size, 0, none⟩) 1 1, .slice (some ⟨w.heap.size + 1 + 1, 0, none⟩) 1 1] 123)).drew) (w.heap.size + 1) (w.heap.size + 1 + 1 + 1) (w.heap.size) (w.heap.size + 1 + 1) := by
  obtain ⟨a1, a2, a3, a4, ab⟩ := al4 w (.cells #[.int .i64 (nx : Int)] 3) (.cells #[.pointer (some ⟨w.heap.size + 1 + 1 + 1, 0, none⟩)] 121) (.cells #[.int .i64 px, .int .i64 py, .int .i64 pw] 28) (.cells #[.int .i64 0, .slice (some ⟨w.heap.size, 0, none⟩) 1 1, .slice (some ⟨w.heap.size + 1 + 1, 0, none⟩) 1 1] 123)
  exact ⟨a2, ⟨a4, by simp only; omega, ⟨rfl, .inr ⟨_, 1, _, rfl, by omega, a1, Nat.le_refl _, by decide, rfl, rfl⟩⟩, ⟨rfl, .inr ⟨_, 1, _, rfl, by omega, a3, Nat.le_refl _, by decide, rfl, rfl⟩⟩⟩, by omega, ab⟩
theorem new_QITX (B nx : Nat) (px py pw : Int) (w : World) (hB : B ≤ w.heap.size) : NewB B nx ⟨px, py, pw⟩ w (((((w.alloc (.cells #[.int .i64 px, .int .i64 py, .int .i64 pw] 28)).alloc (.cells #[.int .i64 (nx : Int)] 3)).alloc (.cells #[.pointer (some ⟨w.heap.size + 1 + 1 + 1, 0, none⟩)] 121)).alloc (.cells #[.int .i64 0, .slice (some ⟨w.heap.size + 1, 0, none⟩) 1 1, .slice (some ⟨w.heap.size, 0, none⟩) 1 1] 123)).drew) (w.heap.size + 1 + 1) (w.heap.size + 1 + 1 + 1) (w.heap.size + 1) (w.heap.size) := by
  obtain ⟨a1, a2, a3, a4, ab⟩ := al4 w (.cells #[.int .i64 px, .int .i64 py, .int .i64 pw] 28) (.cells #[.int .i64 (nx : Int)] 3) (.cells #[.pointer (some ⟨w.heap.size + 1 + 1 + 1, 0, none⟩)] 121) (.cells #[.int .i64 0, .slice (some ⟨w.heap.size + 1, 0, none⟩) 1 1, .slice (some ⟨w.heap.size, 0, none⟩) 1 1] 123)
  exact ⟨a3, ⟨a4, by simp only; omega, ⟨rfl, .inr ⟨_, 1, _, rfl, by omega, a2, Nat.le_refl _, by decide, rfl, rfl⟩⟩, ⟨rfl, .inr ⟨_, 1, _, rfl, by omega, a1, Nat.le_refl _, by decide, rfl, rfl⟩⟩⟩, by omega, ab⟩
theorem new_QIXT (B nx : Nat) (px py pw : Int) (w : World) (hB : B ≤ w.heap.size) : NewB B nx ⟨px, py, pw⟩ w (((((w.alloc (.cells #[.int .i64 px, .int .i64 py, .int .i64 pw] 28)).alloc (.cells #[.int .i64 (nx : Int)] 3)).alloc (.cells #[.int .i64 0, .slice (some ⟨w.heap.size + 1, 0, none⟩) 1 1, .slice (some ⟨w.heap.size, 0, none⟩) 1 1] 123)).alloc (.cells #[.pointer (some ⟨w.heap.size + 1 + 1, 0, none⟩)] 121)).drew) (w.heap.size + 1 + 1 + 1) (w.heap.size + 1 + 1) (w.heap.size + 1) (w.heap.size) := by
  obtain ⟨a1, a2, a3, a4, ab⟩ := al4 w (.cells #[.int .i64 px, .int .i64 py, .int .i64 pw] 28) (.cells #[.int .i64 (nx : Int)] 3) (.cells #[.int .i64 0, .slice (some ⟨w.heap.size + 1, 0, none⟩) 1 1, .slice (some ⟨w.heap.size, 0, none⟩) 1 1] 123) (.cells #[.pointer (some ⟨w.heap.size + 1 + 1, 0, none⟩)] 121)
  exact ⟨a4, ⟨a3, by simp only; omega, ⟨rfl, .inr ⟨_, 1, _, rfl, by omega, a2, Nat.le_refl _, by decide, rfl, rfl⟩⟩, ⟨rfl, .inr ⟨_, 1, _, rfl, by omega, a1, Nat.le_refl _, by decide, rfl, rfl⟩⟩⟩, by omega, ab⟩
theorem new_QTIX (B nx : Nat) (px py pw : Int) (w : World) (hB : B ≤ w.heap.size) : NewB B nx ⟨px, py, pw⟩ w (((((w.alloc (.cells #[.int .i64 px, .int .i64 py, .int .i64 pw] 28)).alloc (.cells #[.pointer (some ⟨w.heap.size + 1 + 1 + 1, 0, none⟩)] 121)).alloc (.cells #[.int .i64 (nx : Int)] 3)).alloc (.cells #[.int .i64 0, .slice (some ⟨w.heap.size + 1 + 1, 0, none⟩) 1 1, .slice (some ⟨w.heap.size, 0, none⟩) 1 1] 123)).drew) (w.heap.size + 1) (w.heap.size + 1 + 1 + 1) (w.heap.size + 1 + 1) (w.heap.size) := by
  obtain ⟨a1, a2, a3, a4, ab⟩ := al4 w (.cells #[.int .i64 px, .int .i64 py, .int .i64 pw] 28) (.cells #[.pointer (some ⟨w.heap.size + 1 + 1 + 1, 0, none⟩)] 121) (.cells #[.int .i64 (nx : Int)] 3) (.cells #[.int .i64 0, .slice (some ⟨w.heap.size + 1 + 1, 0, none⟩) 1 1, .slice (some ⟨w.heap.size, 0, none⟩) 1 1] 123)
  exact ⟨a2, ⟨a4, by simp only; omega, ⟨rfl, .inr ⟨_, 1, _, rfl, by omega, a3, Nat.le_refl _, by decide, rfl, rfl⟩⟩, ⟨rfl, .inr ⟨_, 1, _, rfl, by omega, a1, Nat.le_refl _, by decide, rfl, rfl⟩⟩⟩, by omega, ab⟩
theorem new_TIQX (B nx : Nat) (px py pw : Int) (w : World) (hB : B ≤ w.heap.size) : NewB B nx ⟨px, py, pw⟩ w (((((w.alloc (.cells #[.pointer (some ⟨w.heap.size + 1 + 1 + 1, 0, none⟩)] 121)).alloc (.cells #[.int .i64 (nx : Int)] 3)).alloc (.cells #[.int .i64 px, .int .i64 py, .int .i64 pw] 28)).alloc (.cells #[.int .i64 0, .slice (some ⟨w.heap.size + 1, 0, none⟩) 1 1, .slice (some ⟨w.heap.size + 1 + 1, 0, none⟩) 1 1] 123)).drew) (w.heap.size) (w.heap.size + 1 + 1 + 1) (w.heap.size + 1) (w.heap.size + 1 + 1) := by
  obtain ⟨a1, a2, a3, a4, ab⟩ := al4 w (.cells #[.pointer (some ⟨w.heap.size + 1 + 1 + 1, 0, none⟩)] 121) (.cells #[.int .i64 (nx : Int)] 3) (.cells #[.int .i64 px, .int .i64 py, .int .i64 pw] 28) (.cells #[.int .i64 0, .slice (some ⟨w.heap.size + 1, 0, none⟩) 1 1, .slice (some ⟨w.heap.size + 1 + 1, 0, none⟩) 1 1] 123)
  exact ⟨a1, ⟨a4, by simp only; omega, ⟨rfl, .inr ⟨_, 1, _, rfl, by omega, a2, Nat.le_refl _, by decide, rfl, rfl⟩⟩, ⟨rfl, .inr ⟨_, 1, _, rfl, by omega, a3, Nat.le_refl _, by decide, rfl, rfl⟩⟩⟩, by omega, ab⟩
theorem new_TQIX (B nx : Nat) (px py pw : Int) (w : World) (hB : B ≤ w.heap.size) : NewB B nx ⟨px, py, pw⟩ w (((((w.alloc (.cells #[.pointer (some ⟨w.heap.size + 1 + 1 + 1, 0, none⟩)] 121)).alloc (.cells #[.int .i64 px, .int .i64 py, .int .i64 pw] 28)).alloc (.cells #[.int .i64 (nx : Int)] 3)).alloc (.cells #[.int .i64 0, .slice (some ⟨w.heap.size + 1 + 1, 0, none⟩) 1 1, .slice (some ⟨w.heap.size + 1, 0, none⟩) 1 1] 123)).drew) (w.heap.size) (w.heap.size + 1 + 1 + 1) (w.heap.size + 1 + 1) (w.heap.size + 1) := by
  obtain ⟨a1, a2, a3, a4, ab⟩ := al4 w (.cells #[.pointer (some ⟨w.heap.size + 1 + 1 + 1, 0, none⟩)] 121) (.cells #[.int .i64 px, .int .i64 py, .int .i64 pw] 28) (.cells #[.int .i64 (nx : Int)] 3) (.cells #[.int .i64 0, .slice (some ⟨w.heap.size + 1 + 1, 0, none⟩) 1 1, .slice (some ⟨w.heap.size + 1, 0, none⟩) 1 1] 123)
  exact ⟨a1, ⟨a4, by simp only; omega, ⟨rfl, .inr ⟨_, 1, _, rfl, by omega, a3, Nat.le_refl _, by decide, rfl, rfl⟩⟩, ⟨rfl, .inr ⟨_, 1, _, rfl, by omega, a2, Nat.le_refl _, by decide, rfl, rfl⟩⟩⟩, by omega, ab⟩

end Go.Proofs.YtladgklnacihkaaGreat.Dy

