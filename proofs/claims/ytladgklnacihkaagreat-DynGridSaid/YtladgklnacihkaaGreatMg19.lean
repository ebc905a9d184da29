import Derived.Test.YtladgklnacihkaaGreatMg18
/- Points that come and go: an id is cut. -/
namespace Go.Proofs.YtladgklnacihkaaGreat.Dy
set_option linter.unusedVariables false
open Go.RowKit

theorem bx_set {w : World} {b i : Nat} {cs : Array Value} {t : TypeId} (h : Box w b cs t) (v : Value) : Box (w.setCell ⟨b, i, none⟩ v) b (cs.setIfInBounds i v) t := heap_setCell_same w b i cs t v h
theorem chg_set (F : Nat → Prop) (w : World) (b i : Nat) (v : Value) (h : F b) : Chg F w (w.setCell ⟨b, i, none⟩ v) := Chg.of_grown (grown_set w b i v) (fun k hk => by cases hk; exact h)
theorem ids_sl {w : World} {B : Nat} {t : Bt} (h : BtM w B t) : SlI w t.ia t.ic (t.L.map (·.1)) := by
  have h1 := own_slc h.ids
  have e : t.L.length = (t.L.map (·.1)).length := by rw [List.length_map]
  unfold SlI
  rw [← e]; exact h1

set_option maxRecDepth 100000 in
set_option maxHeartbeats 4000000 in
theorem bcut_any (t : Bt) (B : Nat) (x : Int) (w : World) (h : BtM w B t) (hn : t.L.length ≤ 1000000) :
    Calls Tryz.prog 62 #[.pointer (some ⟨t.b, 0, none⟩), .int .i64 x] w fun e w' => ∃ r t', e = .returned (.bool r) ∧ ((r = false ∧ x ∉ t.L.map (·.1) ∧ t' = t ∧ w' = w) ∨ (r = true ∧ ∃ j, ∃ hj : j < t.L.length, t.L[j].1 = x ∧ t' = { t with L := t.L.eraseIdx j })) ∧ Kp (BtM w' B t') ∧ Kp (Chg t.has w w') := by
  have H := Kp.mk h
  have C1 := Kp.mk (indexId_any t.ia t.ic t.L.length (t.L.map (·.1)) x w (ids_sl h) (List.length_map ..) hn)
  obtain ⟨b, pw, ia, ic, pa, pc, L⟩ := t
  simp only at H C1 hn ⊢
  clear h
  obtain ⟨n, hln⟩ : ∃ n, n = L.length := ⟨_, rfl⟩
  have HLN := Kp.mk hln
  have hbx : Box w b #[.int .i64 (pw : Int), .slice ia n ic, .slice pa n pc] 123 := by rw [hln]; exact H.out.box
  rw [← hln] at C1 hn
  have z1 : w.cell? ⟨b, 1, none⟩ = some (.slice ia n ic) := hbx.cell 1 rfl
  have HBX := Kp.mk hbx
  clear hbx hln
  go_enter Tryz.func62, Tryz.ntmps62
  go_wp2_with fail
  refine C1.out.mono ?_
  rintro e w1 ⟨r, rfl, hr, rfl⟩
  rcases hr with ⟨rfl, hx⟩ | ⟨j, rfl, hj, hx⟩
  · have HX := Kp.mk hx
    clear hx
    go_wp2
    go_ret
    exact ⟨false, _, rfl, .inl ⟨rfl, HX.out, rfl, rfl⟩, H, ⟨Chg.refl _ _⟩⟩
  · have hjL : j < L.length := by rw [List.length_map] at hj; exact hj
    have hjn : j < n := by rw [HLN.out]; exact hjL
    rw [List.getElem_map] at hx
    have HX := Kp.mk (show (L[j]'hjL).1 = x from hx)
    clear hx hj
    have hn0 : 0 < n := by omega
    have hi0 : w1.ownsRow B 3 1 (.slice ia n ic) n (idV L) := by rw [HLN.out]; exact H.out.ids
    have hp0 : w1.ownsRow B 28 3 (.slice pa n pc) n (ptV L) := by rw [HLN.out]; exact H.out.ps
    obtain ⟨gi, rfl, hgi, _⟩ := own_some hi0 hn0
    obtain ⟨gp, rfl, hgp, _⟩ := own_some hp0 hn0
    have n1 : gi ≠ b := (ty_own hi0 rfl).1.ne ⟨_, HBX.out⟩ (by decide)
    have n2 : gp ≠ b := (ty_own hp0 rfl).1.ne ⟨_, HBX.out⟩ (by decide)
    have n3 : gi ≠ gp := (ty_own hi0 rfl).1.ne (ty_own hp0 rfl).1 (by decide)
    have HI0 := Kp.mk hi0
    have HP0 := Kp.mk hp0
    have CD := Kp.mk (delInt_any B gi n ic j (idV L) w1 hi0 hjn (by omega) (ints_one _))
    have ew : IntKind.i64.wrap ((j : Int) + 1) = (j : Int) + 1 := IntWalk.i64_in _ (by omega)
    have hlt0 : decide ((j : Int) < 0) = false := decide_eq_false (by omega)
    have f1 : w1.frozen? ⟨b, 1, none⟩ = false := HBX.out.free 1
    clear hi0 hp0
    go_wp2_with fail
    refine CD.out.mono ?_
    rintro e w2 ⟨rfl, HI2, HG2⟩
    rw [cutL_idV L j hjL] at HI2
    have HB2 := Kp.mk (Chg.box HBX.out (Chg.of_grown (F := fun k => k = gi) HG2.out (fun k hk => by cases hk; rfl)) (fun e => n1 e.symm))
    have HP2 := Kp.mk (own_keep HP0.out HG2.out (fun k hk => by cases hk; intro e; cases e; exact n3 rfl))
    have f2 : w2.frozen? ⟨b, 1, none⟩ = false := HB2.out.free 1
    have z12 : w2.cell? ⟨b, 1, none⟩ = some (.slice (some ⟨gi, 0, none⟩) n ic) := HB2.out.cell 1 rfl
    have HB3 := Kp.mk (bx_set HB2.out (i := 1) (.slice (some ⟨gi, 0, none⟩) (n - 1) ic))
    have HG3 := Kp.mk (grown_set w2 b 1 (.slice (some ⟨gi, 0, none⟩) (n - 1) ic))
    have HI3 := Kp.mk (own_keep HI2.out HG3.out (fun k hk => by cases hk; intro e; cases e; exact n1 rfl))
    have HP3 := Kp.mk (own_keep HP2.out HG3.out (fun k hk => by cases hk; intro e; cases e; exact n2 rfl))
    clear z1 f1 CD HI0 HP0 HI2 HP2 C1
    obtain ⟨w3, hw3⟩ : ∃ w3, w2.setCell ⟨b, 1, none⟩ (.slice (some ⟨gi, 0, none⟩) (n - 1) ic) = w3 := ⟨_, rfl⟩
    rw [hw3] at HB3 HG3 HI3 HP3
    have hb3 := HB3.out
    simp only [List.setIfInBounds_toArray, List.set_cons_succ, List.set_cons_zero] at hb3
    have HB3' := Kp.mk hb3
    have z2 : w3.cell? ⟨b, 2, none⟩ = some (.slice (some ⟨gp, 0, none⟩) n pc) := hb3.cell 2 rfl
    have CE := Kp.mk (delPt_any B gp n pc j (ptV L) w3 HP3.out hjn (by omega) (fun u hu => flat_one ptL_one _ u hu))
    clear hb3 HB3
    go_wp2_with fail
    refine CE.out.mono ?_
    rintro e w4 ⟨rfl, HP4, HG4⟩
    rw [cutL_ptV L j hjL] at HP4
    have HB4 := Kp.mk (Chg.box HB3'.out (Chg.of_grown (F := fun k => k = gp) HG4.out (fun k hk => by cases hk; rfl)) (fun e => n2 e.symm))
    have HI4 := Kp.mk (own_keep HI3.out HG4.out (fun k hk => by cases hk; intro e; cases e; exact n3 rfl))
    have f4 : w4.frozen? ⟨b, 2, none⟩ = false := HB4.out.free 2
    have z4 : w4.cell? ⟨b, 2, none⟩ = some (.slice (some ⟨gp, 0, none⟩) n pc) := HB4.out.cell 2 rfl
    have HB5 := Kp.mk (bx_set HB4.out (i := 2) (.slice (some ⟨gp, 0, none⟩) (n - 1) pc))
    have HG5 := Kp.mk (grown_set w4 b 2 (.slice (some ⟨gp, 0, none⟩) (n - 1) pc))
    have HI5 := Kp.mk (own_keep HI4.out HG5.out (fun k hk => by cases hk; intro e; cases e; exact n1 rfl))
    have HP5 := Kp.mk (own_keep HP4.out HG5.out (fun k hk => by cases hk; intro e; cases e; exact n2 rfl))
    clear HI4 HP4 HB4 HI3 HP3 CE
    go_wp2
    go_ret
    have hel : (L.eraseIdx j).length = n - 1 := by rw [List.length_eraseIdx, if_pos hjL, HLN.out]
    refine ⟨true, _, rfl, .inr ⟨rfl, j, hjL, HX.out, rfl⟩, ⟨?_, H.out.lo, ?_, ?_⟩, ⟨?_⟩⟩
    · have := HB5.out
      simp only [List.setIfInBounds_toArray, List.set_cons_succ, List.set_cons_zero] at this
      simp only [hel]
      exact this
    · simp only [hel]; exact HI5.out
    · simp only [hel]; exact HP5.out
    · refine Chg.same (Chg.same (Chg.same (Chg.of_grown HG2.out ?_) (Chg.of_grown HG3.out ?_)) (Chg.of_grown HG4.out ?_)) (Chg.of_grown HG5.out ?_)
      all_goals
        intro k hk
        cases hk
      · exact .inr (.inl rfl)
      · exact .inl rfl
      · exact .inr (.inr rfl)
      · exact .inl rfl

end Go.Proofs.YtladgklnacihkaaGreat.Dy

/- Points that come and go: an id is cut out of a store. -/
namespace Go.Proofs.YtladgklnacihkaaGreat.Dy
set_option linter.unusedVariables false
open Go.RowKit

/-- All that is there. -/
def allL (T : List Bt) : List IP := T.flatMap (·.L)
theorem pw_dis {T : List Bt} (h : T.Pairwise Dis) {i j : Nat} (hi : i < T.length) (hj : j < T.length) (hne : i ≠ j) : Dis T[i] T[j] := by
  rcases Nat.lt_or_gt_of_ne hne with h1 | h1
  · exact List.pairwise_iff_getElem.1 h i j hi hj h1
  · exact (List.pairwise_iff_getElem.1 h j i hj hi h1).symm
/-- One batch has changed, the others are as they were. -/
theorem StM.put_back {w w' : World} {B s : Nat} {ba : Option Addr} {bc : Nat} {T : List Bt} {nx ct i : Nat} {t' : Bt} (h : StM w B s ba bc T nx ct) (hi : i < T.length) (hb : t'.b = T[i].b) (hh : ∀ k, t'.has k ↔ T[i].has k) (ht : BtM w' B t') (hc : Chg T[i].has w w') : StM w' B s ba bc (T.set i t') nx ct := by
  have hti := h.each _ (List.getElem_mem hi)
  refine ⟨?_, ?_, h.lo, ?_, ?_⟩
  · rw [List.length_set]
    exact Chg.box h.box hc (hti.not ⟨_, h.box⟩ (by decide) (by decide) (by decide))
  · have e : btV (T.set i t') = btV T := by
      unfold btV
      rw [List.map_set, hb, ← List.getElem_map (fun t : Bt => Value.pointer (some ⟨t.b, 0, none⟩)) (h := by rw [List.length_map]; exact hi), List.set_getElem_self]
    rw [List.length_set, e]
    exact Chg.own h.row hc (fun k hk => hti.not (ty_own h.row hk).1 (by decide) (by decide) (by decide))
  · intro t ht2
    obtain ⟨k, hk, rfl⟩ := List.getElem_of_mem ht2
    rw [List.length_set] at hk
    by_cases e : i = k
    · subst e
      rw [List.getElem_set_self]; exact ht
    · rw [List.getElem_set_ne e]
      exact (h.each _ (List.getElem_mem hk)).chg hc (pw_dis h.dis hk hi (fun h => e h.symm))
  · rw [List.pairwise_iff_getElem]
    intro a b ha hb' hab
    rw [List.length_set] at ha hb'
    intro q h1 h2
    have hd := pw_dis h.dis ha hb' (by omega)
    refine hd q ?_ ?_
    · by_cases e : i = a
      · subst e; rw [List.getElem_set_self] at h1; exact (hh q).1 h1
      · rw [List.getElem_set_ne e] at h1; exact h1
    · by_cases e : i = b
      · subst e; rw [List.getElem_set_self] at h2; exact (hh q).1 h2
      · rw [List.getElem_set_ne e] at h2; exact h2
theorem StM.foot_not {w : World} {B s : Nat} {ba : Option Addr} {bc : Nat} {T : List Bt} {nx ct : Nat} (h : StM w B s ba bc T nx ct) {k : Nat} (hk : w.heap.size ≤ k) : ¬ Foot s ba T k := fun hf => by have := (h.lo_foot hf).2; omega
theorem allL_len {T : List Bt} {i : Nat} (hi : i < T.length) : T[i].L.length ≤ (allL T).length := by
  unfold allL
  have e : T = T.take i ++ T[i] :: T.drop (i + 1) := by simp
  conv => rhs; rw [e]
  rw [List.flatMap_append, List.flatMap_cons, List.length_append, List.length_append]
  omega

theorem StM.rebox {w w' : World} {B s : Nat} {ba : Option Addr} {bc : Nat} {T : List Bt} {nx ct nx' ct' : Nat} (h : StM w B s ba bc T nx ct) (hg : w.grownBy w' (some s)) (hb : Box w' s #[.slice ba T.length bc, .int .i64 (nx' : Int), .int .i64 (ct' : Int)] 71) : StM w' B s ba bc T nx' ct' :=
  ⟨hb, own_keep h.row hg (fun k hk => by cases hk; intro e; exact (ty_own h.row e).1.ne ⟨_, h.box⟩ (by decide) rfl), h.lo,
    fun t ht => (h.each t ht).chg (Chg.of_grown (F := fun k => k = s) hg (fun k hk => by cases hk; rfl)) (fun k hk e => by subst e; exact (h.each t ht).not ⟨_, h.box⟩ (by decide) (by decide) (by decide) hk), h.dis⟩
theorem StM.not_ty {w : World} {B s : Nat} {ba : Option Addr} {bc : Nat} {T : List Bt} {nx ct k : Nat} {e : TypeId} (h : StM w B s ba bc T nx ct) (he : TyAt w k e) (h1 : e ≠ 123) (h2 : e ≠ 3) (h3 : e ≠ 28) (h4 : e ≠ 71) (h5 : e ≠ 121) : ¬ Foot s ba T k := by
  rintro (rfl | hk | ⟨t, ht, hk⟩)
  · exact he.ne ⟨_, h.box⟩ h4 rfl
  · exact he.ne (ty_own h.row hk).1 h5 rfl
  · exact (h.each t ht).not he h1 h2 h3 hk
theorem chg_new {F : Nat → Prop} {w w' w'' : World} {q : Nat} (h : Chg F w w') (hg : w'.grownBy w'' (some q)) (hq : w.heap.size ≤ q) : Chg F w w'' :=
  h.trans (Chg.of_grown (F := fun k => k = q) hg (fun k hk => by cases hk; rfl)) (fun k hk => .inr (by subst hk; exact hq))
theorem StM.ans {w w' : World} {B s : Nat} {ba : Option Addr} {bc : Nat} {T : List Bt} {nx ct q : Nat} {cs : Array Value} (h : StM w B s ba bc T nx ct) (hq : Box w q cs 39) (hg : w.grownBy w' (some q)) : StM w' B s ba bc T nx ct :=
  h.chg (Chg.of_grown (F := fun k => k = q) hg (fun k hk => by cases hk; rfl)) (fun k hk e => by subst e; exact h.not_ty ⟨_, hq⟩ (by decide) (by decide) (by decide) (by decide) (by decide) hk)
/-- An answer is laid into its cell. -/
theorem ans_put {w : World} {q : Nat} {x y z : Value} (h : Box w q #[x, y, z] 39) (c n i : Value) :
    Box (((w.setCell ⟨q, 0, none⟩ c).setCell ⟨q, 1, none⟩ n).setCell ⟨q, 2, none⟩ i) q #[c, n, i] 39 ∧ w.grownBy (((w.setCell ⟨q, 0, none⟩ c).setCell ⟨q, 1, none⟩ n).setCell ⟨q, 2, none⟩ i) (some q) :=
  ⟨bx_set (bx_set (bx_set h c) n) i, grown_trans (grown_trans (grown_set w q 0 c) (grown_set _ q 1 n)) (grown_set _ q 2 i)⟩
set_option maxHeartbeats 1000000 in
theorem no_any (c : Int) (w : World) :
    Calls Tryz.prog 44 #[.int .i64 c] w fun e w' => e = .returned (.agg #[.int .i64 c, .int .i64 0, .slice none 0 0]) ∧ Kp (Below w.heap.size w w') := by
  have HR1 := Box.new w #[.int .i64 c, .int .i64 0, .slice none 0 0] 39
  have HB := Kp.mk (below_alloc (Nat.le_refl w.heap.size) (.cells #[.int .i64 c, .int .i64 0, .slice none 0 0] 39))
  go_enter Tryz.func44, Tryz.ntmps44
  go_wp2
  exact bodyPost_ret (v := .agg #[.int .i64 c, .int .i64 0, .slice none 0 0]) (by simp [results, Tryz.results44, go_sem]) rfl ⟨rfl, HB⟩

set_option maxRecDepth 100000 in
set_option maxHeartbeats 8000000 in
theorem scut_any (B s : Nat) (ba : Option Addr) (bc : Nat) (T : List Bt) (nx ct : Nat) (x : Int) (w : World) (h : StM w B s ba bc T nx ct) (hct : (allL T).length = ct) (hct2 : ct ≤ 1000) (hT : T.length ≤ 1000) :
    Calls Tryz.prog 40 #[.pointer (some ⟨s, 0, none⟩), .int .i64 x] w fun e w' => ∃ (T' : List Bt) (ct' : Nat) (code : Int), e = .returned (.agg #[.int .i64 code, .int .i64 0, .slice none 0 0]) ∧
      ((code = 7 ∧ T' = T ∧ ct' = ct ∧ ∀ t ∈ T, x ∉ t.L.map (·.1)) ∨ (code = 0 ∧ ct' = ct - 1 ∧ ∃ i j, ∃ hi : i < T.length, ∃ hj : j < T[i].L.length, T[i].L[j].1 = x ∧ T' = T.set i { T[i] with L := T[i].L.eraseIdx j })) ∧ Kp (StM w' B s ba bc T' nx ct') ∧ Kp (Chg (Foot s ba T) w w') := by
  have ha := below_alloc (Nat.le_refl w.heap.size) (.cells #[.int .i64 0, .int .i64 0, .slice none 0 0] 39)
  have HA := Kp.mk ha
  have H1 := Kp.mk (h.below ha)
  have HR1 := Kp.mk (Box.new w #[.int .i64 0, .int .i64 0, .slice none 0 0] 39)
  have HFT := Kp.mk (fun k (hk : Foot s ba T k) => (h.lo_foot hk).2)
  obtain ⟨q, hq⟩ : ∃ q, w.heap.size = q := ⟨_, rfl⟩
  obtain ⟨w1, hw1⟩ : ∃ w1, w.alloc (.cells #[.int .i64 0, .int .i64 0, .slice none 0 0] 39) = w1 := ⟨_, rfl⟩
  rw [hw1] at HA H1 HR1
  rw [hq] at HR1 HFT
  have HQ := Kp.mk hq
  have HW1 := Kp.mk hw1
  have HCT := Kp.mk hct
  obtain ⟨n, hn⟩ : ∃ n, T.length = n := ⟨_, rfl⟩
  have HN := Kp.mk hn
  have hbx := H1.out.box
  rw [hn] at hbx hT
  have z0 : w1.cell? ⟨s, 0, none⟩ = some (.slice ba n bc) := hbx.cell 0 rfl
  have HBX := Kp.mk hbx
  clear h ha hq hw1 hct hn hbx
  go_enter Tryz.func40, Tryz.ntmps40
  go_upto_region 1 with (fail)
  simp only [HQ.out]
  rw [HW1.out]
  clear HW1
  go_wp2_with fail
  go_loop [12] (fun i => ∃ k : Nat, k ≤ n ∧ i = .int .i64 k ∧ Kp (∀ j (hj : j < T.length), j < k → x ∉ (T[j]).L.map (·.1))) (fun i => n - (intOf i).toNat)
  case atStart => exact ⟨0, Nat.zero_le _, rfl, ⟨fun j _ h => by omega⟩⟩
  case round =>
    obtain ⟨k, hk, rfl, HX⟩ := hrel
    by_cases hlt : k < n
    · have hkT : k < T.length := by rw [HN.out]; exact hlt
      have hrow := own_slc H1.out.row
      rw [HN.out] at hrow
      obtain ⟨b, off, rfl, c1⟩ := hrow.cell k (by rw [btV_length]; exact hkT)
      rw [show (btV T)[k]'(by rw [btV_length]; exact hkT) = .pointer (some ⟨T[k].b, 0, none⟩) by simp [btV]] at c1
      have hM := H1.out.each _ (List.getElem_mem hkT)
      have C := Kp.mk (bcut_any T[k] B x w1 hM (by have := allL_len hkT; have := HCT.out; omega))
      have hal := allL_len hkT
      obtain ⟨t, htk⟩ : ∃ t, T[k] = t := ⟨_, rfl⟩
      rw [htk] at c1 C hal
      have HTK := Kp.mk htk
      clear hrow hM htk
      go_wp2_with fail
      refine C.out.mono ?_
      rintro e w2 ⟨r, t', rfl, hr, HT', HC'⟩
      rcases hr with ⟨rfl, hnx, rfl, rfl⟩ | ⟨rfl, j, hj, hjx, rfl⟩
      · have HNX := Kp.mk hnx
        clear hnx C
        go_wp2_with fail
        go_round
        case rel =>
          refine ⟨k + 1, by omega, by go_num, ⟨fun j hj hjk => ?_⟩⟩
          rcases Nat.lt_or_eq_of_le (Nat.le_of_lt_succ hjk) with h | rfl
          · exact HX.out j hj h
          · rw [HTK.out]; exact HNX.out
        case measure => simp [intOf]; omega
      · have HST := Kp.mk (H1.out.put_back (t' := { t with L := t.L.eraseIdx j }) hkT (by rw [HTK.out]) (fun _ => by rw [HTK.out]; exact Iff.rfl) HT'.out (by rw [HTK.out]; exact HC'.out))
        have HJ := Kp.mk hjx
        have hct1 : 1 ≤ ct := by have := HCT.out; omega
        have hb2 := HST.out.box
        rw [List.length_set, HN.out] at hb2
        have z2 : w2.cell? ⟨s, 2, none⟩ = some (.int .i64 (ct : Int)) := hb2.cell 2 rfl
        have f2 : w2.frozen? ⟨s, 2, none⟩ = false := hb2.free 2
        have HB3 := Kp.mk (bx_set hb2 (i := 2) (.int .i64 ((ct : Int) - 1)))
        have hg3 := grown_set w2 s 2 (.int .i64 ((ct : Int) - 1))
        have hqs : q ≠ s := by have := HFT.out s (.inl rfl); omega
        have hqT : ¬ t.has q := fun hh => by have := HFT.out q (.inr (.inr ⟨_, List.getElem_mem hkT, by rw [HTK.out]; exact hh⟩)); omega
        have HR2 := Chg.box HR1.out HC'.out hqT
        have HR3 := Kp.mk (Chg.box HR2 (Chg.of_grown (F := fun k => k = s) hg3 (fun k hk => by cases hk; rfl)) hqs)
        have ew : IntKind.i64.wrap ((ct : Int) - 1) = (ct : Int) - 1 := IntWalk.i64_in _ (by omega)
        clear hb2 HR2 hjx C
        have HG3 := Kp.mk hg3
        clear hg3
        obtain ⟨w3, hw3⟩ : ∃ w3, w2.setCell ⟨s, 2, none⟩ (.int .i64 ((ct : Int) - 1)) = w3 := ⟨_, rfl⟩
        rw [hw3] at HB3 HG3 HR3
        have HW3 := Kp.mk hw3
        clear hw3
        go_upto_region 6 with (fail)
        rw [HW3.out]
        clear HW3 z2 f2
        have r0 : w3.cell? ⟨q, 0, none⟩ = some (.int .i64 0) := HR3.out.cell 0 rfl
        have r1 : w3.cell? ⟨q, 1, none⟩ = some (.int .i64 0) := HR3.out.cell 1 rfl
        have r2 : w3.cell? ⟨q, 2, none⟩ = some (.slice none 0 0) := HR3.out.cell 2 rfl
        have f0 : w3.frozen? ⟨q, 0, none⟩ = false := HR3.out.free 0
        have f1 : w3.frozen? ⟨q, 1, none⟩ = false := HR3.out.free 1
        have f2 : w3.frozen? ⟨q, 2, none⟩ = false := HR3.out.free 2
        have HP := ans_put HR3.out (.int .i64 0) (.int .i64 0) (.slice none 0 0)
        have HST3 : StM w3 B s (some ⟨b, off, none⟩) bc (T.set k { t with L := t.L.eraseIdx j }) nx (ct - 1) := HST.out.rebox HG3.out (by
          have := HB3.out
          simp only [List.setIfInBounds_toArray, List.set_cons_succ, List.set_cons_zero] at this
          rw [List.length_set, HN.out, show (((ct - 1 : Nat) : Int)) = (ct : Int) - 1 by omega]
          exact this)
        have HF := Kp.mk (HST3.ans HR3.out HP.2)
        have HC := Kp.mk (chg_new (((Chg.of_below HA.out).trans (F' := Foot s (some ⟨b, off, none⟩) T) (HC'.out.weak (fun k hk => .inr (.inr ⟨_, List.getElem_mem hkT, by rw [HTK.out]; exact hk⟩))) (fun _ h => .inl h)).same (Chg.of_grown (F := Foot s (some ⟨b, off, none⟩) T) HG3.out (fun k hk => by cases hk; exact .inl rfl))) HP.2 (by rw [HQ.out]; exact Nat.le_refl _))
        have HPB := Kp.mk HP.1
        clear HP HST3
        go_wp2
        obtain ⟨w4, hw4⟩ : ∃ w4, ((w3.setCell ⟨q, 0, none⟩ (.int .i64 0)).setCell ⟨q, 1, none⟩ (.int .i64 0)).setCell ⟨q, 2, none⟩ (.slice none 0 0) = w4 := ⟨_, rfl⟩
        rw [hw4] at HPB HF HC ⊢
        have p0 : w4.cell? ⟨q, 0, none⟩ = some (.int .i64 0) := HPB.out.cell 0 rfl
        have p1 : w4.cell? ⟨q, 1, none⟩ = some (.int .i64 0) := HPB.out.cell 1 rfl
        have p2 : w4.cell? ⟨q, 2, none⟩ = some (.slice none 0 0) := HPB.out.cell 2 rfl
        clear hw4
        refine bodyPost_ret (v := .agg #[.int .i64 0, .int .i64 0, .slice none 0 0]) (by simp [results, Tryz.results40, go_sem, p0, p1, p2]) rfl ⟨_, ct - 1, 0, rfl, .inr ⟨rfl, rfl, k, j, hkT, by rw [HTK.out]; exact hj, by simp only [HTK.out]; exact HJ.out, rfl⟩, ?_, HC⟩
        simp only [HTK.out]
        exact HF
    · obtain rfl : k = n := by omega
      have C := Kp.mk (no_any 7 w1)
      go_wp2_with fail
      refine C.out.mono ?_
      rintro e w2 ⟨rfl, HB2⟩
      have H2 := H1.out.below HB2.out
      have HR2 := HR1.out.below HB2.out
      have f0 : w2.frozen? ⟨q, 0, none⟩ = false := HR2.free 0
      have f1 : w2.frozen? ⟨q, 1, none⟩ = false := HR2.free 1
      have f2 : w2.frozen? ⟨q, 2, none⟩ = false := HR2.free 2
      have r0 : w2.cell? ⟨q, 0, none⟩ = some (.int .i64 0) := HR2.cell 0 rfl
      have r1 : w2.cell? ⟨q, 1, none⟩ = some (.int .i64 0) := HR2.cell 1 rfl
      have r2 : w2.cell? ⟨q, 2, none⟩ = some (.slice none 0 0) := HR2.cell 2 rfl
      have HP := ans_put HR2 (.int .i64 7) (.int .i64 0) (.slice none 0 0)
      have HF := Kp.mk (H2.ans HR2 HP.2)
      have HC := Kp.mk (chg_new (F := Foot s ba T) ((Chg.of_below HA.out).same (Chg.of_below HB2.out)) HP.2 (by rw [HQ.out]; exact Nat.le_refl _))
      have HPB := Kp.mk HP.1
      clear HP H2 HR2 C
      go_wp2
      obtain ⟨w4, hw4⟩ : ∃ w4, ((w2.setCell ⟨q, 0, none⟩ (.int .i64 7)).setCell ⟨q, 1, none⟩ (.int .i64 0)).setCell ⟨q, 2, none⟩ (.slice none 0 0) = w4 := ⟨_, rfl⟩
      rw [hw4] at HPB HF HC ⊢
      have p0 : w4.cell? ⟨q, 0, none⟩ = some (.int .i64 7) := HPB.out.cell 0 rfl
      have p1 : w4.cell? ⟨q, 1, none⟩ = some (.int .i64 0) := HPB.out.cell 1 rfl
      have p2 : w4.cell? ⟨q, 2, none⟩ = some (.slice none 0 0) := HPB.out.cell 2 rfl
      clear hw4
      exact bodyPost_ret (v := .agg #[.int .i64 7, .int .i64 0, .slice none 0 0]) (by simp [results, Tryz.results40, go_sem, p0, p1, p2]) rfl ⟨T, ct, 7, rfl, .inl ⟨rfl, rfl, rfl, fun t ht => by
        obtain ⟨j, hj, rfl⟩ := List.getElem_of_mem ht
        exact HX.out j hj (by rw [← HN.out]; exact hj)⟩, HF, HC⟩

set_option maxHeartbeats 1000000 in
theorem fits_any (n : Int) (w : World) (h : -1048576 ≤ n ∧ n ≤ 1048576) :
    Calls Tryz.prog 58 #[.int .i64 n] w fun e w' => e = .returned (.bool true) ∧ w = w' := by
  obtain ⟨h1, h2⟩ := h
  go_enter Tryz.func58, Tryz.ntmps58
  go_wp2
  go_ret
  exact ⟨rfl, rfl⟩


end Go.Proofs.YtladgklnacihkaaGreat.Dy

/- Points that come and go: those in a rectangle are counted. -/
namespace Go.Proofs.YtladgklnacihkaaGreat.Dy
set_option linter.unusedVariables false
open Go.RowKit

set_option maxRecDepth 100000 in
set_option maxHeartbeats 2000000 in
theorem gcount0 (a : Option Addr) (cap : Nat) (X0 Y0 X1 Y1 : Int) (w : World) (h : SlF ptL 3 w a 0 cap []) :
    Calls Tryz.prog 11 #[.slice a 0 cap, .agg #[.int .i64 X0, .int .i64 Y0, .int .i64 X1, .int .i64 Y1]] w fun e w' => e = .returned (.tuple #[.int .i64 0, .int .i64 0]) ∧ Below w.heap.size w w' := by
  have HA := Kp.mk (below_alloc (Nat.le_refl w.heap.size) (.cells #[.int .i64 X0, .int .i64 Y0, .int .i64 X1, .int .i64 Y1] 30))
  have H1 := Kp.mk (SlF.below h HA.out)
  have CC := Kp.mk (gcheck_any a cap 0 [] _ H1.out (by omega) (by simp))
  clear h
  go_enter Tryz.func11, Tryz.ntmps11
  go_wp2_with fail
  refine CC.out.mono ?_
  rintro e w1 ⟨rfl, HB1⟩
  have HBB1 := Kp.mk (below_step HA.out HB1.out)
  clear CC H1 HA HB1
  go_wp2
  refine bodyPost_ret (v := .tuple #[.int .i64 0, .int .i64 0]) (by simp [results, Tryz.results11, go_sem]) rfl ?_
  exact ⟨rfl, HBB1.out⟩
theorem gcountN (a : Option Addr) (cap n : Nat) (L : List Pt) (X0 Y0 X1 Y1 : Int) (w : World) (h : SlF ptL 3 w a n cap L) (hl : L.length = n) (hn : n ≤ 150) (hN : ∀ p ∈ L, p.Near) :
    Calls Tryz.prog 11 #[.slice a n cap, .agg #[.int .i64 X0, .int .i64 Y0, .int .i64 X1, .int .i64 Y1]] w fun e w' => e = .returned (.tuple #[.int .i64 (cntR L X0 Y0 X1 Y1 : Nat), .int .i64 0]) ∧ Below w.heap.size w w' := by
  rcases Nat.eq_zero_or_pos n with rfl | h0
  · obtain rfl : L = [] := List.length_eq_zero_iff.1 hl
    refine (gcount0 a cap X0 Y0 X1 Y1 w h).mono ?_
    rintro e w' ⟨rfl, hb⟩
    exact ⟨by simp [cntR], hb⟩
  · exact gcount_any a cap n L X0 Y0 X1 Y1 w h h0 hn hN

theorem BtM.pts {w : World} {B : Nat} {t : Bt} (h : BtM w B t) : SlF ptL 3 w t.pa t.L.length t.pc (t.L.map (·.2)) := own_slc h.ps
theorem cntR_flat (T : List Bt) (X0 Y0 X1 Y1 : Int) (k : Nat) (h : k < T.length) : cntR ((allL (T.take (k + 1))).map (·.2)) X0 Y0 X1 Y1 = cntR ((allL (T.take k)).map (·.2)) X0 Y0 X1 Y1 + cntR (T[k].L.map (·.2)) X0 Y0 X1 Y1 := by
  unfold cntR allL
  rw [List.take_succ_eq_append_getElem h, List.flatMap_append, List.map_append, List.countP_append]
  simp
theorem cntR_le (L : List Pt) (X0 Y0 X1 Y1 : Int) : cntR L X0 Y0 X1 Y1 ≤ L.length := List.countP_le_length
attribute [local irreducible] cntR

set_option maxRecDepth 100000 in
set_option maxHeartbeats 8000000 in
theorem countIn_any (B s : Nat) (ba : Option Addr) (bc : Nat) (T : List Bt) (nx ct : Nat) (X0 Y0 X1 Y1 : Int) (w : World) (h : StM w B s ba bc T nx ct) (hct : (allL T).length ≤ 150) (hT : T.length ≤ 1000) (hN : ∀ a ∈ allL T, a.2.Near) :
    Calls Tryz.prog 41 #[.pointer (some ⟨s, 0, none⟩), .agg #[.int .i64 X0, .int .i64 Y0, .int .i64 X1, .int .i64 Y1]] w fun e w' => e = .returned (.agg #[.int .i64 0, .int .i64 (cntR ((allL T).map (·.2)) X0 Y0 X1 Y1 : Nat), .slice none 0 0]) ∧ Kp (Below w.heap.size w w') := by
  have ha := below_alloc (Nat.le_refl w.heap.size) (.cells #[.int .i64 X0, .int .i64 Y0, .int .i64 X1, .int .i64 Y1] 30)
  have ha2 := below_then_alloc ha (.cells #[.int .i64 0, .int .i64 0, .slice none 0 0] 39)
  have HA := Kp.mk ha2
  have H1 := Kp.mk (h.below ha2)
  have HX1 := Kp.mk ((Box.new w #[.int .i64 X0, .int .i64 Y0, .int .i64 X1, .int .i64 Y1] 30).alloc (.cells #[.int .i64 0, .int .i64 0, .slice none 0 0] 39))
  have hr1 := Box.new (w.alloc (.cells #[.int .i64 X0, .int .i64 Y0, .int .i64 X1, .int .i64 Y1] 30)) #[.int .i64 0, .int .i64 0, .slice none 0 0] 39
  rw [alloc_size] at hr1
  have HR1 := Kp.mk hr1
  obtain ⟨q, hq⟩ : ∃ q, w.heap.size = q := ⟨_, rfl⟩
  obtain ⟨w1, hw1⟩ : ∃ w1, (w.alloc (.cells #[.int .i64 X0, .int .i64 Y0, .int .i64 X1, .int .i64 Y1] 30)).alloc (.cells #[.int .i64 0, .int .i64 0, .slice none 0 0] 39) = w1 := ⟨_, rfl⟩
  rw [hw1] at HA H1 HR1 HX1
  rw [hq] at HR1 HX1
  have HQ := Kp.mk hq
  have HW1 := Kp.mk hw1
  have HCT := Kp.mk hct
  have HNR := Kp.mk hN
  obtain ⟨n, hn⟩ : ∃ n, T.length = n := ⟨_, rfl⟩
  have HN := Kp.mk hn
  have hbx := H1.out.box
  rw [hn] at hbx hT
  have z0 : w1.cell? ⟨s, 0, none⟩ = some (.slice ba n bc) := hbx.cell 0 rfl
  have HBX := Kp.mk hbx
  clear h ha ha2 hr1 hq hw1 hct hn hbx hN
  go_enter Tryz.func41, Tryz.ntmps41
  go_upto_region 1 with (fail)
  simp only [HQ.out]
  rw [HW1.out]
  clear HW1
  go_wp2_with fail
  go_loopw [5, 15] (fun v i wr => ∃ k : Nat, k ≤ n ∧ i = .int .i64 k ∧ v = .int .i64 (cntR ((allL (T.take k)).map (·.2)) X0 Y0 X1 Y1 : Nat) ∧ Kp (Below w1.heap.size w1 wr)) (fun _ i _ => n - (intOf i).toNat)
  case atStart => exact ⟨0, Nat.zero_le _, rfl, by simp [allL, cntR], ⟨Below.refl _ _⟩⟩
  case round =>
    obtain ⟨k, hk, rfl, rfl, HB⟩ := hrel
    by_cases hlt : k < n
    · have hkT : k < T.length := by rw [HN.out]; exact hlt
      have hrow := own_slc (H1.out.below HB.out).row
      rw [HN.out] at hrow
      obtain ⟨b, off, rfl, c1⟩ := hrow.cell k (by rw [btV_length]; exact hkT)
      rw [show (btV T)[k]'(by rw [btV_length]; exact hkT) = .pointer (some ⟨T[k].b, 0, none⟩) by simp [btV]] at c1
      have hM := (H1.out.below HB.out).each _ (List.getElem_mem hkT)
      have hal := allL_len hkT
      have hsum := cntR_flat T X0 Y0 X1 Y1 k hkT
      have hnr : ∀ p ∈ T[k].L.map (·.2), p.Near := fun p hp => by
        obtain ⟨a, ha, rfl⟩ := List.mem_map.1 hp
        exact HNR.out a (List.mem_flatMap.2 ⟨_, List.getElem_mem hkT, ha⟩)
      obtain ⟨t, ht⟩ : ∃ t, T[k] = t := ⟨_, rfl⟩
      rw [ht] at c1 hM hal hsum hnr
      have C := Kp.mk (fun x : Later wr => gcountN t.pa t.pc t.L.length (t.L.map (·.2)) X0 Y0 X1 Y1 x.val (SlF.below hM.pts x.le) (List.length_map ..) (by have := HCT.out; omega) hnr)
      have y0 := later_cell (show wr.cell? ⟨t.b, 2, none⟩ = some (.slice t.pa t.L.length t.pc) from hM.box.cell 2 rfl)
      have hx := HX1.out.below HB.out
      have r0 := later_cell (show wr.cell? ⟨q, 0, none⟩ = some (.int .i64 X0) from hx.cell 0 rfl)
      have r1 := later_cell (show wr.cell? ⟨q, 1, none⟩ = some (.int .i64 Y0) from hx.cell 1 rfl)
      have r2 := later_cell (show wr.cell? ⟨q, 2, none⟩ = some (.int .i64 X1) from hx.cell 2 rfl)
      have r3 := later_cell (show wr.cell? ⟨q, 3, none⟩ = some (.int .i64 Y1) from hx.cell 3 rfl)
      have hle1 := cntR_le ((allL (T.take k)).map (·.2)) X0 Y0 X1 Y1
      have hle2 := cntR_le (t.L.map (·.2)) X0 Y0 X1 Y1
      have hle3 : ((allL (T.take k)).map (·.2)).length ≤ 150 := by
        rw [List.length_map]
        have e : T = T.take k ++ T.drop k := by simp
        have h2 : (allL T).length = (allL (T.take k)).length + (allL (T.drop k)).length := by
          conv => lhs; rw [e]
          unfold allL
          rw [List.flatMap_append, List.length_append]
        have := HCT.out; omega
      rw [List.length_map] at hle2
      have HSUM := Kp.mk hsum
      have hal2 := HCT.out
      generalize cntR ((allL (T.take k)).map (·.2)) X0 Y0 X1 Y1 = c at *
      generalize cntR (t.L.map (·.2)) X0 Y0 X1 Y1 = d at *
      have ew : IntKind.i64.wrap ((c : Int) + d) = (c : Int) + d := IntWalk.i64_in _ (by omega)
      obtain ⟨tb, tpw, tia, tic, tpa, tpc, tL⟩ := t
      simp only at c1 y0 C
      clear hrow hM hx hsum hnr ht
      go_upto_region 5 with (fail)
      refine region_later (by kernel_rfl) (by kernel_rfl) ?_
      iterate 11 (go_big_quiet_step ((go_at_call 11; with_reducible exact q_later (C.out _))))
      refine wpQuiet_nil ?_
      rintro w' ⟨xl, rfl⟩
      have HB2 := Kp.mk (HB.out.trans (xl.le.mono HB.out.size))
      generalize xl.val = w' at *
      clear r0 r1 r2 r3 y0 C c1
      go_wp2
      go_roundw
      case rel => exact ⟨k + 1, by omega, by go_num, by rw [HSUM.out]; push_cast; rfl, HB2⟩
      case measure => simp [intOf]; omega
    · obtain rfl : k = n := by omega
      rw [List.take_of_length_le (by rw [HN.out]; exact Nat.le_refl _)]
      obtain ⟨c, hc⟩ : ∃ c, cntR ((allL T).map (·.2)) X0 Y0 X1 Y1 = c := ⟨_, rfl⟩
      rw [hc]
      have HCC := Kp.mk hc
      clear hc
      have hR := HR1.out.below HB.out
      have f0 : wr.frozen? ⟨q + 1, 0, none⟩ = false := hR.free 0
      have f1 : wr.frozen? ⟨q + 1, 1, none⟩ = false := hR.free 1
      have f2 : wr.frozen? ⟨q + 1, 2, none⟩ = false := hR.free 2
      have r0 : wr.cell? ⟨q + 1, 0, none⟩ = some (.int .i64 0) := hR.cell 0 rfl
      have r1 : wr.cell? ⟨q + 1, 1, none⟩ = some (.int .i64 0) := hR.cell 1 rfl
      have r2 : wr.cell? ⟨q + 1, 2, none⟩ = some (.slice none 0 0) := hR.cell 2 rfl
      have HP := ans_put hR (.int .i64 0) (.int .i64 (c : Int)) (.slice none 0 0)
      have HPB := Kp.mk HP.1
      have HC := Kp.mk ((Chg.below (B := w.heap.size) (F := fun k => w.heap.size ≤ k) (chg_new (((Chg.of_below (F := fun k => w.heap.size ≤ k) HA.out)).same (Chg.of_below HB.out)) HP.2 (by have := HQ.out; omega)) (Nat.le_refl _) (fun _ h => h)))
      clear HP hR
      go_wp2
      generalize ((wr.setCell ⟨q + 1, 0, none⟩ (.int .i64 0)).setCell ⟨q + 1, 1, none⟩ (.int .i64 (c : Int))).setCell ⟨q + 1, 2, none⟩ (.slice none 0 0) = w6 at *
      have p0 : w6.cell? ⟨q + 1, 0, none⟩ = some (.int .i64 0) := HPB.out.cell 0 rfl
      have p1 : w6.cell? ⟨q + 1, 1, none⟩ = some (.int .i64 (c : Int)) := HPB.out.cell 1 rfl
      have p2 : w6.cell? ⟨q + 1, 2, none⟩ = some (.slice none 0 0) := HPB.out.cell 2 rfl
      exact bodyPost_ret (v := .agg #[.int .i64 0, .int .i64 (c : Int), .slice none 0 0]) (by simp [results, Tryz.results41, go_sem, p0, p1, p2]) rfl ⟨by rw [HCC.out], HC⟩

end Go.Proofs.YtladgklnacihkaaGreat.Dy

