import Derived.Test.YtladgklnacihkaaGreatMg28
import Derived.Test.YtladgklnacihkaaGreatMg3
import Derived.Test.YtladgklnacihkaaGreatMg1
import Derived.Test.YtladgklnacihkaaGreatMg23
import Derived.Deep.CutBlock
/- Points that come and go: Play. -/
namespace Go.Proofs.YtladgklnacihkaaGreat.Dy
set_option linter.unusedVariables false
open Go.RowKit

def acL (x : Ac) : List Value := [.int .i64 x.kind, .int .i64 x.p.x, .int .i64 x.p.y, .int .i64 x.p.w, .int .i64 x.a, .int .i64 x.b, .int .i64 x.c, .int .i64 x.d, .int .i64 x.id, .int .i64 x.k]
theorem acL_len (x : Ac) : (acL x).length = 10 := rfl
theorem acL_one (x : Ac) : ∀ v ∈ acL x, v.oneCell' = true := by simp [acL, Value.oneCell']
theorem info_ac : (Tryz.prog.info? 32).map (fun i => (i.zero, i.size, i.bytes)) = some (some (.agg #[.int .i64 0, .int .i64 0, .int .i64 0, .int .i64 0, .int .i64 0, .int .i64 0, .int .i64 0, .int .i64 0, .int .i64 0, .int .i64 0]), 10, 80) := by kernel_rfl
theorem tActs : ElemTy Tryz.prog 25 32 10 80 (.agg #[.int .i64 0, .int .i64 0, .int .i64 0, .int .i64 0, .int .i64 0, .int .i64 0, .int .i64 0, .int .i64 0, .int .i64 0, .int .i64 0]) :=
  ⟨Tryz.underlying25, by obtain ⟨i0, hi, h0, h1, h2⟩ := info_parts info_ac; exact ⟨i0, hi, h0, h1, h2⟩, rfl, by decide⟩
/-- An answer, as it lies. -/
structure Aw where
  r : An
  ra : Option Addr
  m : Nat
  rc : Nat
instance : Inhabited Aw := ⟨⟨⟨0, 0, []⟩, none, 0, 0⟩⟩
def anL (a : Aw) : List Value := [.int .i64 a.r.code, .int .i64 a.r.n, .slice a.ra a.m a.rc]
theorem anL_len (a : Aw) : (anL a).length = 3 := rfl
theorem anL_one (a : Aw) : ∀ v ∈ anL a, v.oneCell' = true := by simp [anL, Value.oneCell']
theorem info_an : (Tryz.prog.info? 39).map (fun i => (i.zero, i.size, i.bytes)) = some (some (.agg #[.int .i64 0, .int .i64 0, .slice none 0 0]), 3, 40) := by kernel_rfl
theorem tAns : ElemTy Tryz.prog 33 39 3 40 (.agg #[.int .i64 0, .int .i64 0, .slice none 0 0]) :=
  ⟨Tryz.underlying33, by obtain ⟨i0, hi, h0, h1, h2⟩ := info_parts info_an; exact ⟨i0, hi, h0, h1, h2⟩, rfl, by decide⟩
/-- What Play hands back. -/
structure Played (w' : World) (B : Nat) (L : List Ac) (oa : Option Addr) (n oc : Nat) (R : List Aw) : Prop where
  len : R.length = n
  ans : ∀ j (h : j < R.length) (h' : j < L.length), IsAn (stAt L j) L[j] R[j].r
  row : w'.ownsRow B 39 3 (.slice oa n oc) n (flat anL R)
  ids : ∀ a ∈ R, w'.ownsRow B 3 1 (.slice a.ra a.m a.rc) a.m (ints a.r.ids)
theorem Played.below {w w' : World} {B : Nat} {L : List Ac} {oa : Option Addr} {n oc : Nat} {R : List Aw} (h : Played w B L oa n oc R) (hb : Below w.heap.size w w') : Played w' B L oa n oc R := ⟨h.len, h.ans, own_below h.row hb, fun a ha => own_below (h.ids a ha) hb⟩

theorem StoS.row_keep {w w' : World} {B B' s m n c : Nat} {ba oa : Option Addr} {bc : Nat} {T : List Bt} {st : St} {xs : List Value} (h : StoS w B s ba bc T st) (ho : w.ownsRow B' 39 3 (.slice oa m c) n xs) (hg : w.grownBy w' (blk oa)) : StoS w' B s ba bc T st :=
  ⟨h.stm.chg (F := fun k => blk oa = some k) (Chg.of_grown hg (fun k hk => hk)) (fun k hk e => h.stm.not_ty (ty_own ho e).1 (by decide) (by decide) (by decide) (by decide) (by decide) hk), h.perm, h.inv, h.len, h.pws⟩
/-- One more answer. -/
theorem played_more {L : List Ac} {k s : Nat} {wq w2 w4 : World} {oa oa' ba ba' : Option Addr} {oc oc' bc' : Nat} {R : List Aw} {T T' : List Bt} {a : Aw} {x : Ac} (hkL : k < L.length) (hx : L[k] = x)
    (hP : Played wq s L oa k oc R) (hNF : ∀ a ∈ R, ∀ q, blk a.ra = some q → ¬ Foot s ba T q) (hSQ : ∀ q, blk oa = some q → ¬ Foot s ba T q) (hA : IsAn (stAt L k) x a.r) (hS : StoS w2 s s ba' bc' T' (step (stAt L k) x)) (hO : w2.ownsRow wq.heap.size 3 1 (.slice a.ra a.m a.rc) a.m (ints a.r.ids)) (hsq : s ≤ wq.heap.size)
    (hC : Chg (Foot s ba T) wq w2) (hF : ∀ k, Foot s ba' T' k → Foot s ba T k ∨ wq.heap.size ≤ k) (hN : ∀ k, blk a.ra = some k → ¬ Foot s ba' T' k)
    (hR4 : w4.ownsRow s 39 3 (.slice oa' (k + 1) oc') (k + 1) (flat anL R ++ anL a)) (hg : w2.grownBy w4 (blk oa)) :
    StoS w4 s s ba' bc' T' (stAt L (k + 1)) ∧ Played w4 s L oa' (k + 1) oc' (R ++ [a]) ∧ (∀ b ∈ R ++ [a], ∀ q, blk b.ra = some q → ¬ Foot s ba' T' q) := by
  have hrow2 : w2.ownsRow s 39 3 (.slice oa k oc) k (flat anL R) := Chg.own hP.row hC hSQ
  have hst : stAt L (k + 1) = step (stAt L k) x := by rw [stAt_succ L k hkL, hx]
  have hids : ∀ b ∈ R, w2.ownsRow s 3 1 (.slice b.ra b.m b.rc) b.m (ints b.r.ids) := fun b hb => Chg.own (hP.ids b hb) hC (hNF b hb)
  have key : ∀ {B' : Nat} {b : Aw}, w2.ownsRow B' 3 1 (.slice b.ra b.m b.rc) b.m (ints b.r.ids) → w4.ownsRow B' 3 1 (.slice b.ra b.m b.rc) b.m (ints b.r.ids) := fun {B'} {b} hb => own_keep hb hg (fun q hq e => (ty_own hrow2 hq).1.ne (ty_own hb e).1 (by decide) rfl)
  refine ⟨by rw [hst]; exact hS.row_keep hrow2 hg, ⟨by rw [List.length_append, hP.len]; rfl, ?_, by simpa [flat] using hR4, ?_⟩, ?_⟩
  · intro j h h'
    by_cases hj : j < R.length
    · rw [List.getElem_append_left hj]
      exact hP.ans j hj h'
    · have e : j = k := by rw [List.length_append] at h; have := hP.len; simp at h; omega
      subst e
      rw [List.getElem_append_right (by omega)]
      simp only [hP.len, Nat.sub_self, List.getElem_cons_zero, hx]
      exact hA
  · intro b hb
    rcases List.mem_append.1 hb with hb | hb
    · exact key (hids b hb)
    · rw [List.mem_singleton.1 hb]; exact own_base (key hO) hsq
  · intro b hb q hq
    rcases List.mem_append.1 hb with hb | hb
    · intro hf
      rcases hF q hf with h1 | h1
      · exact hNF b hb q hq h1
      · have := (ty_own (hP.ids b hb) hq).1.lt; omega
    · rw [List.mem_singleton.1 hb] at hq; exact hN q hq

set_option maxRecDepth 100000 in
set_option maxHeartbeats 16000000 in
theorem play_any (la : Option Addr) (lc n : Nat) (L : List Ac) (w : World) (h : SlF acL 10 w la n lc L) (hl : L.length = n) (hn : n ≤ 140) (hok : ∀ x ∈ L, x.Ok) :
    Calls Tryz.prog 13 #[.slice la n lc] w fun e w' => ∃ (oa : Option Addr) (oc : Nat) (R : List Aw), e = .returned (.tuple #[.slice oa n oc, .int .i64 0]) ∧ Kp (Played w' w.heap.size L oa n oc R) ∧ Kp (Below w.heap.size w w') := by
  have ha := below_alloc (Nat.le_refl w.heap.size) (.cells #[.slice none 0 0, .int .i64 0, .int .i64 0] 71)
  have HA := Kp.mk ha
  have HL := Kp.mk h
  have HLL := Kp.mk hl
  have HOK := Kp.mk hok
  have hbx := Box.new w #[.slice none 0 0, .int .i64 0, .int .i64 0] 71
  obtain ⟨s, hs⟩ : ∃ s, w.heap.size = s := ⟨_, rfl⟩
  obtain ⟨w1, hw1⟩ : ∃ w1, w.alloc (.cells #[.slice none 0 0, .int .i64 0, .int .i64 0] 71) = w1 := ⟨_, rfl⟩
  rw [hs] at HA hbx ⊢
  rw [hw1] at HA hbx
  have HST := Kp.mk (show StoS w1 s s none 0 [] (stAt L 0) from ⟨⟨hbx, World.ownsRow_nil _ _ _ _, Nat.le_refl _, fun t ht => absurd ht (by simp), List.Pairwise.nil⟩, List.Perm.refl _, inv_at L hok 0 (Nat.zero_le _), Nat.le_refl _, fun t ht => absurd ht (by simp)⟩)
  have HS := Kp.mk hs
  have HW1 := Kp.mk hw1
  have t300 : decide ((n : Int) > 300) = false := decide_eq_false (by omega)
  have t300' : decide ((300 : Int) < (n : Int)) = false := decide_eq_false (by omega)
  clear h ha hl hok hbx hs hw1
  go_enter Tryz.func13, Tryz.ntmps13
  go_upto_region 4 with (fail)
  simp only [HS.out]
  rw [HW1.out]
  clear HW1
  go_wp2_with fail
  go_loopw [5, 15] (fun v i wr => ∃ (k : Nat) (oa : Option Addr) (oc : Nat) (R : List Aw) (ba : Option Addr) (bc : Nat) (T : List Bt), k ≤ n ∧ i = .int .i64 k ∧ v = .slice oa k oc ∧ Kp (StoS wr s s ba bc T (stAt L k)) ∧ Kp (Played wr s L oa k oc R) ∧ Kp (∀ a ∈ R, ∀ q, blk a.ra = some q → ¬ Foot s ba T q) ∧ Kp (Below s w wr)) (fun _ i _ => n - (intOf i).toNat)
  case atStart => exact ⟨0, none, 0, [], none, 0, [], Nat.zero_le _, rfl, rfl, HST, ⟨⟨rfl, fun j h => absurd h (by simp), World.ownsRow_nil _ _ _ _, fun a ha => absurd ha (by simp)⟩⟩, ⟨fun a ha => absurd ha (by simp)⟩, HA⟩
  case round =>
    clear HST
    obtain ⟨k, oa, oc, R, ba, bc, T, hk, rfl, rfl, HST, HPL, HNF, HB⟩ := hrel
    by_cases hlt : k < n
    · have hkL : k < L.length := by rw [HLL.out]; exact hlt
      have hwl : s ≤ wr.heap.size := by have := HST.out.stm.box.lt; omega
      have hLr := SlF.below HL.out (show Below w.heap.size w wr by rw [HS.out]; exact HB.out)
      obtain ⟨lb, lo, rfl, hbw, co⟩ := hLr.at acL_len (by omega) k hkL
      have hxo := HOK.out _ (List.getElem_mem hkL)
      have hnx := next_at L k (by omega)
      obtain ⟨x, hx⟩ : ∃ x, L[k] = x := ⟨_, rfl⟩
      rw [hx] at co hxo
      have HX := Kp.mk hx
      obtain ⟨kd, ⟨px, py, pw⟩, a, b, c, d, id, kk⟩ := x
      have x0 : wr.cell? ⟨lb, lo + k * 10, none⟩ = some (.int .i64 kd) := co 0 (by omega)
      have x1 : wr.cell? ⟨lb, lo + k * 10 + 1, none⟩ = some (.int .i64 px) := co 1 (by omega)
      have x2 : wr.cell? ⟨lb, lo + k * 10 + 2, none⟩ = some (.int .i64 py) := co 2 (by omega)
      have x3 : wr.cell? ⟨lb, lo + k * 10 + 3, none⟩ = some (.int .i64 pw) := co 3 (by omega)
      have x4 : wr.cell? ⟨lb, lo + k * 10 + 4, none⟩ = some (.int .i64 a) := co 4 (by omega)
      have x5 : wr.cell? ⟨lb, lo + k * 10 + 5, none⟩ = some (.int .i64 b) := co 5 (by omega)
      have x6 : wr.cell? ⟨lb, lo + k * 10 + 6, none⟩ = some (.int .i64 c) := co 6 (by omega)
      have x7 : wr.cell? ⟨lb, lo + k * 10 + 7, none⟩ = some (.int .i64 d) := co 7 (by omega)
      have x8 : wr.cell? ⟨lb, lo + k * 10 + 8, none⟩ = some (.int .i64 id) := co 8 (by omega)
      have x9 : wr.cell? ⟨lb, lo + k * 10 + 9, none⟩ = some (.int .i64 kk) := co 9 (by omega)
      have hal := below_alloc (Nat.le_refl wr.heap.size) (.cells #[.int .i64 kd, .int .i64 px, .int .i64 py, .int .i64 pw, .int .i64 a, .int .i64 b, .int .i64 c, .int .i64 d, .int .i64 id, .int .i64 kk] 32)
      have hbn := Box.new wr #[.int .i64 kd, .int .i64 px, .int .i64 py, .int .i64 pw, .int .i64 a, .int .i64 b, .int .i64 c, .int .i64 d, .int .i64 id, .int .i64 kk] 32
      have HST1 := Kp.mk (HST.out.below hal)
      have HPL1 := Kp.mk (HPL.out.below hal)
      have HB1 := Kp.mk (HB.out.trans (hal.mono hwl))
      clear HST HPL HB hLr co hx hbw
      go_upto_region 8 with (fail)
      obtain ⟨wq, hwq⟩ : ∃ wq, wr.alloc (.cells #[.int .i64 kd, .int .i64 px, .int .i64 py, .int .i64 pw, .int .i64 a, .int .i64 b, .int .i64 c, .int .i64 d, .int .i64 id, .int .i64 kk] 32) = wq := ⟨_, rfl⟩
      rw [hwq] at hbn HST1 HPL1 HB1
      rw [hwq]
      have hsq : s ≤ wq.heap.size := by have := HST1.out.stm.box.lt; omega
      have CD := Kp.mk (do_any s s ba bc T (stAt L k) ⟨kd, ⟨px, py, pw⟩, a, b, c, d, id, kk⟩ wq HST1.out hxo (by omega) (by omega) hsq)
      obtain ⟨tb, htb⟩ : ∃ tb, wr.heap.size = tb := ⟨_, rfl⟩
      rw [htb] at hbn
      have HTB := Kp.mk htb
      unfold acA actA at CD
      simp only at CD
      have y0 : wq.cell? ⟨tb, 0, none⟩ = some (.int .i64 kd) := hbn.cell 0 rfl
      have y1 : wq.cell? ⟨tb, 1, none⟩ = some (.int .i64 px) := hbn.cell 1 rfl
      have y2 : wq.cell? ⟨tb, 2, none⟩ = some (.int .i64 py) := hbn.cell 2 rfl
      have y3 : wq.cell? ⟨tb, 3, none⟩ = some (.int .i64 pw) := hbn.cell 3 rfl
      have y4 : wq.cell? ⟨tb, 4, none⟩ = some (.int .i64 a) := hbn.cell 4 rfl
      have y5 : wq.cell? ⟨tb, 5, none⟩ = some (.int .i64 b) := hbn.cell 5 rfl
      have y6 : wq.cell? ⟨tb, 6, none⟩ = some (.int .i64 c) := hbn.cell 6 rfl
      have y7 : wq.cell? ⟨tb, 7, none⟩ = some (.int .i64 d) := hbn.cell 7 rfl
      have y8 : wq.cell? ⟨tb, 8, none⟩ = some (.int .i64 id) := hbn.cell 8 rfl
      have y9 : wq.cell? ⟨tb, 9, none⟩ = some (.int .i64 kk) := hbn.cell 9 rfl
      simp only [HTB.out]
      clear x0 x1 x2 x3 x4 x5 x6 x7 x8 x9 hwq htb hbn hal
      go_wp2_with fail
      refine CD.out.mono ?_
      rintro e w2 ⟨ba2, bc2, T2, ra, m, rc, r, rfl, HAN, HS2, HO2, HC2, HF2, HN2⟩
      have hSQ : ∀ q, blk oa = some q → ¬ Foot s ba T q := fun q hq => HST1.out.stm.not_ty (ty_own HPL1.out.row hq).1 (by decide) (by decide) (by decide) (by decide) (by decide)
      have HR2 := Kp.mk (Chg.own HPL1.out.row HC2.out hSQ)
      have HSQ := Kp.mk hSQ
      have hs2 : s ≤ w2.heap.size := Nat.le_trans hsq HC2.out.size
      obtain ⟨rcode, rn, rids⟩ := r
      clear y0 y1 y2 y3 y4 y5 y6 y7 y8 y9 CD hSQ
      go_wp2_with (at_builtin; refine wpList_pushS tAns (by rfl) _ _ (by rfl) s oa k oc _ (by rfl) HR2.out 1 _ (by rfl) (by rfl) ?d1 ?d2 (by decide) hs2 ?d4)
      case d1 => simp [Value.oneCell']
      case d2 => omega
      case d4 =>
        intro oa2 oc2 w4 ho4 hg4 hn4
        obtain ⟨h1, h2, h3⟩ := played_more (a := ⟨⟨rcode, rn, rids⟩, ra, m, rc⟩) hkL HX.out HPL1.out HNF.out HSQ.out HAN.out HS2.out HO2.out hsq HC2.out HF2.out HN2.out ho4 hg4
        have HB4 := Kp.mk ((HB1.out.trans (Chg.below HC2.out hsq (fun k hk => (HST1.out.stm.lo_foot hk).1))).trans (below_of_grown hg4 hs2 (fun k hk => (ty_own HR2.out hk).2)))
        have G1 := Kp.mk h1
        have G2 := Kp.mk h2
        have G3 := Kp.mk h3
        clear h1 h2 h3 ho4 hg4 hn4 HR2 HSQ HN2 HF2 HC2 HO2 HS2 HAN HPL1 HST1 HB1
        go_wp2
        go_roundw
        case rel => exact ⟨k + 1, oa2, oc2, _, ba2, bc2, T2, by omega, by go_num, rfl, G1, G2, G3, HB4⟩
        case measure => simp [intOf]; omega
    · obtain rfl : k = n := by omega
      go_wp2
      refine bodyPost_ret (v := .tuple #[.slice oa k oc, .int .i64 0]) (by simp [results, Tryz.results13, go_sem]) rfl ?_
      exact ⟨oa, oc, R, rfl, HPL, HB⟩

end Go.Proofs.YtladgklnacihkaaGreat.Dy

/- The law's own RectOf. -/
namespace Go.Proofs.YtladgklnacihkaaGreat
set_option linter.unusedVariables false
open Go.RowKit

/-- What RectOf hands back: a rectangle below a bound. -/
def RectPost (w : World) (n : Nat) (e : Ending) (w' : World) : Prop :=
  ∃ X0 Y0 X1 Y1 : Nat, X0 ≤ X1 ∧ X1 < n ∧ Y0 ≤ Y1 ∧ Y1 < n ∧ e = .returned (.agg #[.int .i64 X0, .int .i64 Y0, .int .i64 X1, .int .i64 Y1]) ∧ Below w.heap.size w w'

set_option maxHeartbeats 1000000 in
theorem rectOf_any (a b c d : Int) (n : Nat) (w : World) (hn : 0 < n) (hn2 : n ≤ 100000) (wa : (Lit.int .i64 a).wf = true) (wb : (Lit.int .i64 b).wf = true) (wc : (Lit.int .i64 c).wf = true) (wd : (Lit.int .i64 d).wf = true) :
    Calls Tryz.prog 8 #[.int .i64 a, .int .i64 b, .int .i64 c, .int .i64 d, .int .i64 n] w (RectPost w n) := by
  obtain ⟨a1, a2⟩ := wf_bd wa
  obtain ⟨b1, b2⟩ := wf_bd wb
  obtain ⟨c1, c2⟩ := wf_bd wc
  obtain ⟨d1, d2⟩ := wf_bd wd
  obtain ⟨x, hx, xl⟩ := pick_nat a n (by omega)
  obtain ⟨y, hy, yl⟩ := pick_nat b n (by omega)
  obtain ⟨p, hp, pl⟩ := pick_nat c ((n : Int) - x) (by omega)
  obtain ⟨q, hq, ql⟩ := pick_nat d ((n : Int) - y) (by omega)
  have HX := Kp.mk hx
  have HY := Kp.mk hy
  have HP := Kp.mk hp
  have HQ := Kp.mk hq
  clear wa wb wc wd hx hy hp hq
  go_enter Tryz.func8, Tryz.ntmps8
  go_wp2_with fail
  refine (picked_any a n _ (by omega) (by omega) a1 a2).mono ?_
  rintro e w' ⟨rfl, rfl⟩
  rw [HX.out]
  go_wp2_with fail
  refine (picked_any b n _ (by omega) (by omega) b1 b2).mono ?_
  rintro e w' ⟨rfl, rfl⟩
  rw [HY.out]
  go_wp2_with fail
  refine (picked_any c ((n : Int) - x) _ (by omega) (by omega) c1 c2).mono ?_
  rintro e w' ⟨rfl, rfl⟩
  rw [HP.out]
  go_wp2_with fail
  refine (picked_any d ((n : Int) - y) _ (by omega) (by omega) d1 d2).mono ?_
  rintro e w' ⟨rfl, rfl⟩
  rw [HQ.out]
  go_wp2
  exact bodyPost_ret (v := .agg #[.int .i64 x, .int .i64 y, .int .i64 (x + p), .int .i64 (y + q)]) (by simp [results, Tryz.results8, go_sem]) rfl ⟨x, y, x + p, y + q, by omega, by omega, by omega, by omega, by push_cast; rfl, (Below.refl _ _).alloc (Nat.le_refl _) _⟩

end Go.Proofs.YtladgklnacihkaaGreat

/- Acts of chores. -/
namespace Go.Proofs.YtladgklnacihkaaGreat.Dy
set_option linter.unusedVariables false
open Go.RowKit Go.ChangeShapes Go.WideShapes Go.Deep

/-- A chore. -/
structure Ch where
  k : Int
  x : Int
  y : Int
  w : Int
  a : Int
  b : Int
  c : Int
  d : Int
instance : Inhabited Ch := ⟨⟨0, 0, 0, 0, 0, 0, 0, 0⟩⟩
def chL (x : Ch) : List Value := [.int .i64 x.k, .int .i64 x.x, .int .i64 x.y, .int .i64 x.w, .int .i64 x.a, .int .i64 x.b, .int .i64 x.c, .int .i64 x.d]
theorem chL_len (x : Ch) : (chL x).length = 8 := rfl
structure Ch.Wf (h : Ch) : Prop where
  k : (Lit.int .i64 h.k).wf = true
  x : (Lit.int .i64 h.x).wf = true
  y : (Lit.int .i64 h.y).wf = true
  w : (Lit.int .i64 h.w).wf = true
  a : (Lit.int .i64 h.a).wf = true
  b : (Lit.int .i64 h.b).wf = true
  c : (Lit.int .i64 h.c).wf = true
  d : (Lit.int .i64 h.d).wf = true
theorem chores_in {w : World} {a : Option Addr} {len cap : Nat} {zs : List Int} (h : IsFlat 8 w a len cap zs) : ∃ L : List Ch, SlF chL 8 w a len cap L ∧ (∀ x ∈ L, x.Wf) ∧ len ≤ maxLen := by
  obtain ⟨h1, h2, h3, h4⟩ := flat_slc (by omega) h
  have key : ∀ (n : Nat) (zs : List Int), zs.length = n * 8 → (∀ n ∈ zs, (Lit.int .i64 n).wf = true) → ∃ L : List Ch, flat chL L = ints zs ∧ ∀ x ∈ L, x.Wf := by
    intro n
    induction n with
    | zero =>
      intro zs hz _
      obtain rfl : zs = [] := List.length_eq_zero_iff.1 (by omega)
      exact ⟨[], rfl, by simp⟩
    | succ n ih =>
      intro zs hz hw
      obtain ⟨c0, c1, c2, c3, c4, c5, c6, c7, e⟩ := list_of8 (l := zs.take 8) (by rw [List.length_take]; omega)
      have e2 : zs = c0 :: c1 :: c2 :: c3 :: c4 :: c5 :: c6 :: c7 :: zs.drop 8 := by
        conv => lhs; rw [← List.take_append_drop 8 zs, e]
        rfl
      generalize zs.drop 8 = zt at e2
      subst e2
      obtain ⟨L, hL, hwL⟩ := ih zt (by simp at hz; omega) (fun n hn => hw n (by simp [hn]))
      refine ⟨⟨c0, c1, c2, c3, c4, c5, c6, c7⟩ :: L, ?_, fun x hx => ?_⟩
      · have : flat chL (⟨c0, c1, c2, c3, c4, c5, c6, c7⟩ :: L) = chL ⟨c0, c1, c2, c3, c4, c5, c6, c7⟩ ++ flat chL L := by simp [flat]
        rw [this, hL]; rfl
      · rcases List.mem_cons.1 hx with rfl | hx
        · exact ⟨hw c0 (by simp), hw c1 (by simp), hw c2 (by simp), hw c3 (by simp), hw c4 (by simp), hw c5 (by simp), hw c6 (by simp), hw c7 (by simp)⟩
        · exact hwL x hx
  obtain ⟨L, hL, hw⟩ := key len zs h4 h2
  exact ⟨L, by unfold SlF; rw [hL]; exact h1, hw, h3⟩

/-- An act is laid into its cell. -/
theorem act_put {w : World} {q : Nat} {x0 x1 x2 x3 x4 x5 x6 x7 x8 x9 : Value} (h : Box w q #[x0, x1, x2, x3, x4, x5, x6, x7, x8, x9] 32) (y0 y1 y2 y3 y4 y5 y6 y7 y8 y9 : Value) :
    Box ((((((((((w.setCell ⟨q, 0, none⟩ y0).setCell ⟨q, 1, none⟩ y1).setCell ⟨q, 2, none⟩ y2).setCell ⟨q, 3, none⟩ y3).setCell ⟨q, 4, none⟩ y4).setCell ⟨q, 5, none⟩ y5).setCell ⟨q, 6, none⟩ y6).setCell ⟨q, 7, none⟩ y7).setCell ⟨q, 8, none⟩ y8).setCell ⟨q, 9, none⟩ y9) q #[y0, y1, y2, y3, y4, y5, y6, y7, y8, y9] 32 ∧
    w.grownBy ((((((((((w.setCell ⟨q, 0, none⟩ y0).setCell ⟨q, 1, none⟩ y1).setCell ⟨q, 2, none⟩ y2).setCell ⟨q, 3, none⟩ y3).setCell ⟨q, 4, none⟩ y4).setCell ⟨q, 5, none⟩ y5).setCell ⟨q, 6, none⟩ y6).setCell ⟨q, 7, none⟩ y7).setCell ⟨q, 8, none⟩ y8).setCell ⟨q, 9, none⟩ y9) (some q) :=
  ⟨by
    have h0 := bx_set h (i := 0) y0
    simp only [List.setIfInBounds_toArray, List.set_cons_zero] at h0
    have h1 := bx_set h0 (i := 1) y1
    simp only [List.setIfInBounds_toArray, List.set_cons_succ, List.set_cons_zero] at h1
    have h2 := bx_set h1 (i := 2) y2
    simp only [List.setIfInBounds_toArray, List.set_cons_succ, List.set_cons_zero] at h2
    have h3 := bx_set h2 (i := 3) y3
    simp only [List.setIfInBounds_toArray, List.set_cons_succ, List.set_cons_zero] at h3
    have h4 := bx_set h3 (i := 4) y4
    simp only [List.setIfInBounds_toArray, List.set_cons_succ, List.set_cons_zero] at h4
    have h5 := bx_set h4 (i := 5) y5
    simp only [List.setIfInBounds_toArray, List.set_cons_succ, List.set_cons_zero] at h5
    have h6 := bx_set h5 (i := 6) y6
    simp only [List.setIfInBounds_toArray, List.set_cons_succ, List.set_cons_zero] at h6
    have h7 := bx_set h6 (i := 7) y7
    simp only [List.setIfInBounds_toArray, List.set_cons_succ, List.set_cons_zero] at h7
    have h8 := bx_set h7 (i := 8) y8
    simp only [List.setIfInBounds_toArray, List.set_cons_succ, List.set_cons_zero] at h8
    have h9 := bx_set h8 (i := 9) y9
    simp only [List.setIfInBounds_toArray, List.set_cons_succ, List.set_cons_zero] at h9
    exact h9,
   grown_trans (grown_trans (grown_trans (grown_trans (grown_trans (grown_trans (grown_trans (grown_trans (grown_trans (grown_set w q 0 y0) (grown_set _ q 1 y1)) (grown_set _ q 2 y2)) (grown_set _ q 3 y3)) (grown_set _ q 4 y4)) (grown_set _ q 5 y5)) (grown_set _ q 6 y6)) (grown_set _ q 7 y7)) (grown_set _ q 8 y8)) (grown_set _ q 9 y9)⟩

set_option maxRecDepth 100000 in
set_option maxHeartbeats 32000000 in
theorem acts_any (la : Option Addr) (lc m : Nat) (C : List Ch) (w : World) (h : SlF chL 8 w la m lc C) (hl : C.length = m) (hm : m ≤ maxLen) (hw : ∀ x ∈ C, x.Wf) :
    Calls Tryz.prog 5 #[.slice la m lc, .int .i64 100] w fun e w' => ∃ (oa : Option Addr) (n oc : Nat) (L : List Ac), e = .returned (.slice oa n oc) ∧ Kp (L.length = n ∧ n ≤ 100 ∧ ∀ x ∈ L, x.Ok) ∧ Kp (w'.ownsRow w.heap.size 32 10 (.slice oa n oc) n (flat acL L)) ∧ Kp (Below w.heap.size w w') := by
  have H := Kp.mk h
  have HCL := Kp.mk hl
  have HWF := Kp.mk hw
  unfold maxLen at hm
  obtain ⟨B, hB⟩ : ∃ B, w.heap.size = B := ⟨_, rfl⟩
  rw [hB]
  have HBE := Kp.mk hB
  clear h hl hw hB
  go_enter Tryz.func5, Tryz.ntmps5
  go_wp2
  go_loopw [5, 6] (fun v i wr => ∃ (k : Nat) (oa : Option Addr) (oc : Nat) (L : List Ac), k ≤ m ∧ k ≤ 100 ∧ i = .int .i64 k ∧ v = .slice oa k oc ∧ Kp (L.length = k) ∧ Kp (∀ x ∈ L, x.Ok) ∧ Kp (wr.ownsRow B 32 10 (.slice oa k oc) k (flat acL L)) ∧ Kp (Below B w wr)) (fun _ i _ => m - (intOf i).toNat)
  case atStart => exact ⟨0, none, 0, [], Nat.zero_le _, Nat.zero_le _, rfl, rfl, ⟨rfl⟩, ⟨by simp⟩, ⟨World.ownsRow_nil _ _ _ _⟩, ⟨Below.refl _ _⟩⟩
  case round =>
    obtain ⟨k, oa, oc, L, hk, hk2, rfl, rfl, HLL, HLO, HO, HB⟩ := hrel
    by_cases hlt : k < m
    · by_cases h100 : k < 100
      · have hkC : k < C.length := by rw [HCL.out]; exact hlt
        have hwl : B ≤ wr.heap.size := by have := HB.out.size; have := HBE.out; omega
        have hLr := SlF.below H.out (show Below w.heap.size w wr by rw [HBE.out]; exact HB.out)
        obtain ⟨lb, lo, rfl, hbw, co⟩ := hLr.at chL_len (by omega) k hkC
        have hwf := HWF.out _ (List.getElem_mem hkC)
        generalize C[k] = ch at *
        obtain ⟨ck, cx, cy, cw, ca, cb, cc, cd⟩ := ch
        obtain ⟨wk, wx, wy, ww, wa, wb, wc, wd⟩ := hwf
        simp only at wk wx wy ww wa wb wc wd
        obtain ⟨ik1, ik2⟩ := wf_bd wk
        obtain ⟨ix1, ix2⟩ := wf_bd wx
        obtain ⟨iy1, iy2⟩ := wf_bd wy
        obtain ⟨iw1, iw2⟩ := wf_bd ww
        obtain ⟨ia1, ia2⟩ := wf_bd wa
        obtain ⟨ib1, ib2⟩ := wf_bd wb
        have x0 : wr.cell? ⟨lb, lo + k * 8, none⟩ = some (.int .i64 ck) := co 0 (by omega)
        have x1 : wr.cell? ⟨lb, lo + k * 8 + 1, none⟩ = some (.int .i64 cx) := co 1 (by omega)
        have x2 : wr.cell? ⟨lb, lo + k * 8 + 2, none⟩ = some (.int .i64 cy) := co 2 (by omega)
        have x3 : wr.cell? ⟨lb, lo + k * 8 + 3, none⟩ = some (.int .i64 cw) := co 3 (by omega)
        have x4 : wr.cell? ⟨lb, lo + k * 8 + 4, none⟩ = some (.int .i64 ca) := co 4 (by omega)
        have x5 : wr.cell? ⟨lb, lo + k * 8 + 5, none⟩ = some (.int .i64 cb) := co 5 (by omega)
        have x6 : wr.cell? ⟨lb, lo + k * 8 + 6, none⟩ = some (.int .i64 cc) := co 6 (by omega)
        have x7 : wr.cell? ⟨lb, lo + k * 8 + 7, none⟩ = some (.int .i64 cd) := co 7 (by omega)
        have hal := below_alloc (Nat.le_refl wr.heap.size) (.cells #[.int .i64 ck, .int .i64 cx, .int .i64 cy, .int .i64 cw, .int .i64 ca, .int .i64 cb, .int .i64 cc, .int .i64 cd] 52)
        have hbn := Box.new wr #[.int .i64 ck, .int .i64 cx, .int .i64 cy, .int .i64 cw, .int .i64 ca, .int .i64 cb, .int .i64 cc, .int .i64 cd] 52
        have HO1 := Kp.mk (own_below HO.out hal)
        have HB1 := Kp.mk (HB.out.trans (hal.mono hwl))
        obtain ⟨vk, ek, gk⟩ := pick_nat ck 10 (by omega)
        obtain ⟨vx, ex, gx⟩ := pick_nat cx 20 (by omega)
        obtain ⟨vy, ey, gy⟩ := pick_nat cy 20 (by omega)
        obtain ⟨vw, ew, gw⟩ := pick_nat cw 9 (by omega)
        obtain ⟨vi, ei, gi⟩ := pick_nat ca ((k : Int) + 1) (by omega)
        obtain ⟨va, ea, ga⟩ := pick_nat ca 5 (by omega)
        obtain ⟨vb, eb, gb⟩ := pick_nat cb 5 (by omega)
        have CK := Kp.mk (fun W => picked_any ck 10 W (by omega) (by omega) ik1 ik2)
        have CX := Kp.mk (fun W => picked_any cx 20 W (by omega) (by omega) ix1 ix2)
        have CY := Kp.mk (fun W => picked_any cy 20 W (by omega) (by omega) iy1 iy2)
        have CW := Kp.mk (fun W => picked_any cw 9 W (by omega) (by omega) iw1 iw2)
        have CI := Kp.mk (fun W => picked_any ca ((k : Int) + 1) W (by omega) (by omega) ia1 ia2)
        have CA := Kp.mk (fun W => picked_any ca 5 W (by omega) (by omega) ia1 ia2)
        have CB := Kp.mk (fun W => picked_any cb 5 W (by omega) (by omega) ib1 ib2)
        have CR := Kp.mk (fun W => rectOf_any ca cb cc cd 20 W (by omega) (by omega) wa wb wc wd)
        unfold RectPost at CR
        rw [ek] at CK
        rw [ex] at CX
        rw [ey] at CY
        rw [ew] at CW
        rw [ei] at CI
        rw [ea] at CA
        rw [eb] at CB
        have ewk : IntKind.i64.wrap ((k : Int) + 1) = (k : Int) + 1 := IntWalk.i64_in _ (by omega)
        clear HO HB hLr co wk wx wy ww wa wb wc wd ek ex ey ew ei ea eb ik1 ik2 ix1 ix2 iy1 iy2 iw1 iw2 ia1 ia2 ib1 ib2
        go_upto_region 6 with (fail)
        obtain ⟨wq, hwq⟩ : ∃ wq, wr.alloc (.cells #[.int .i64 ck, .int .i64 cx, .int .i64 cy, .int .i64 cw, .int .i64 ca, .int .i64 cb, .int .i64 cc, .int .i64 cd] 52) = wq := ⟨_, rfl⟩
        rw [hwq] at hbn HO1 HB1 hal
        rw [hwq]
        obtain ⟨tb, htb⟩ : ∃ tb, wr.heap.size = tb := ⟨_, rfl⟩
        rw [htb] at hbn
        have hsq : B ≤ wq.heap.size := Nat.le_trans hwl hal.size
        simp only [htb]
        have HBN := Kp.mk hbn
        clear x0 x1 x2 x3 x4 x5 x6 x7 hwq hal hbw hbn htb hwl
        have hS0 : wq.cell? ⟨tb, 1, none⟩ = some (.int .i64 cx) ∧ wq.cell? ⟨tb, 2, none⟩ = some (.int .i64 cy) ∧ wq.cell? ⟨tb, 3, none⟩ = some (.int .i64 cw) := ⟨HBN.out.cell 1 rfl, HBN.out.cell 2 rfl, HBN.out.cell 3 rfl⟩
        have hSA : ∀ o, (wq.alloc o).cell? ⟨tb, 1, none⟩ = some (.int .i64 cx) ∧ (wq.alloc o).cell? ⟨tb, 2, none⟩ = some (.int .i64 cy) ∧ (wq.alloc o).cell? ⟨tb, 3, none⟩ = some (.int .i64 cw) := fun o => ⟨(HBN.out.alloc o).cell 1 rfl, (HBN.out.alloc o).cell 2 rfl, (HBN.out.alloc o).cell 3 rfl⟩
        go_cut [8] (fun v8 wx => ∃ t8, v8 = .pointer (some ⟨t8, 0, none⟩) ∧ Kp (Box wx t8 #[.int .i64 1, .int .i64 vx, .int .i64 vy, .int .i64 vw, .int .i64 0, .int .i64 0, .int .i64 0, .int .i64 0, .int .i64 0, .int .i64 0] 32) ∧ Kp (Below wq.heap.size wq wx) ∧ wq.heap.size ≤ t8)
        case first =>
          go_region_held3 (fun W => W.cell? ⟨tb, 1, none⟩ = some (.int .i64 cx) ∧ W.cell? ⟨tb, 2, none⟩ = some (.int .i64 cy) ∧ W.cell? ⟨tb, 3, none⟩ = some (.int .i64 cw))
            (first | exact hS0 | exact hSA _ | go_keep)
            ((first
              | (go_at_call 6; with_reducible refine (CX.out _).mono ?_; rintro e w' ⟨rfl, rfl⟩)
              | (go_at_call 6; with_reducible refine (CY.out _).mono ?_; rintro e w' ⟨rfl, rfl⟩)
              | (go_at_call 6; with_reducible refine (CW.out _).mono ?_; rintro e w' ⟨rfl, rfl⟩)
              | fail))
          all_goals
            go_wp2
            go_meet
            first
              | exact ⟨_, rfl, ⟨Box.new wq _ _⟩, ⟨(below_alloc (Nat.le_refl _) _).drew⟩, Nat.le_refl _⟩
              | exact ⟨_, rfl, ⟨Box.new wq _ _⟩, ⟨below_alloc (Nat.le_refl _) _⟩, Nat.le_refl _⟩
        case rest =>
        obtain ⟨t8, rfl, HT8, HQ2, ht8⟩ := hcut
        obtain ⟨w2, rfl⟩ : ∃ w2 : World, w2 = wc := ⟨_, rfl⟩
        have HBN2 := Kp.mk (HBN.out.below HQ2.out)
        have HO2 := Kp.mk (own_below HO1.out HQ2.out)
        have HB2 := Kp.mk (HB1.out.trans (HQ2.out.mono hsq))
        have hs2 : B ≤ w2.heap.size := Nat.le_trans hsq HQ2.out.size
        have ht8B : B ≤ t8 := Nat.le_trans hsq ht8
        have hno : ∀ q, blk oa = some q → ¬ q = t8 := fun q hq e => by have := (ty_own HO1.out hq).1.lt; omega
        have htne : tb ≠ t8 := by have := HBN.out.lt; omega
        have y0 : w2.cell? ⟨tb, 0, none⟩ = some (.int .i64 ck) := HBN2.out.cell 0 rfl
        clear hS0 hSA HBN HO1 HB1 HQ2 CX CY CW
        go_upto_block 2 with (first
          | (go_at_call 6; with_reducible refine (CK.out _).mono ?_; rintro e w' ⟨rfl, rfl⟩)
          | fail)
        go_cut [8] (fun v8 wx => ∃ x : Ac, v8 = .pointer (some ⟨t8, 0, none⟩) ∧ x.Ok ∧ Kp (Box wx t8 (acA x) 32) ∧ Kp (Chg (fun k => k = t8) w2 wx))
        case first =>
          have y4 : w2.cell? ⟨tb, 4, none⟩ = some (.int .i64 ca) := HBN2.out.cell 4 rfl
          have y5 : w2.cell? ⟨tb, 5, none⟩ = some (.int .i64 cb) := HBN2.out.cell 5 rfl
          have y6 : w2.cell? ⟨tb, 6, none⟩ = some (.int .i64 cc) := HBN2.out.cell 6 rfl
          have y7 : w2.cell? ⟨tb, 7, none⟩ = some (.int .i64 cd) := HBN2.out.cell 7 rfl
          have FR : ∀ i, w2.frozen? ⟨t8, i, none⟩ = false := fun i => HT8.out.free i
          have u0 : w2.cell? ⟨t8, 0, none⟩ = some (.int .i64 1) := HT8.out.cell 0 rfl
          have u1 : w2.cell? ⟨t8, 1, none⟩ = some (.int .i64 vx) := HT8.out.cell 1 rfl
          have u2 : w2.cell? ⟨t8, 2, none⟩ = some (.int .i64 vy) := HT8.out.cell 2 rfl
          have u3 : w2.cell? ⟨t8, 3, none⟩ = some (.int .i64 vw) := HT8.out.cell 3 rfl
          have u4 : w2.cell? ⟨t8, 4, none⟩ = some (.int .i64 0) := HT8.out.cell 4 rfl
          have u5 : w2.cell? ⟨t8, 5, none⟩ = some (.int .i64 0) := HT8.out.cell 5 rfl
          have u6 : w2.cell? ⟨t8, 6, none⟩ = some (.int .i64 0) := HT8.out.cell 6 rfl
          have u7 : w2.cell? ⟨t8, 7, none⟩ = some (.int .i64 0) := HT8.out.cell 7 rfl
          have u8 : w2.cell? ⟨t8, 8, none⟩ = some (.int .i64 0) := HT8.out.cell 8 rfl
          have u9 : w2.cell? ⟨t8, 9, none⟩ = some (.int .i64 0) := HT8.out.cell 9 rfl
          have hAcO : ∀ (k' : Int) (x y v a b c d i z : Int), 1 ≤ k' ∧ k' ≤ 5 → (0 ≤ x ∧ x < 20) → (0 ≤ y ∧ y < 20) → (0 ≤ v ∧ v < 20) → (0 ≤ z ∧ z < 20) → Ac.Ok ⟨k', ⟨x, y, v⟩, a, b, c, d, i, z⟩ := fun k' x y v a b c d i z h1 h2 h3 h4 h5 => ⟨h1, ⟨by simp only; omega, by simp only; omega, by simp only; omega⟩, by simp only; omega⟩
          by_cases h56 : vk = 5 ∨ vk = 6
          · have HP := act_put HT8.out (.int .i64 2) (.int .i64 0) (.int .i64 0) (.int .i64 0) (.int .i64 0) (.int .i64 0) (.int .i64 0) (.int .i64 0) (.int .i64 vi) (.int .i64 0)
            have HP1 := Kp.mk HP.1
            have HP2 := Kp.mk HP.2
            clear HP
            rcases h56 with rfl | rfl
            all_goals
              go_wp2_with (first
                | (go_at_call 6; with_reducible refine (CI.out _).mono ?_; rintro e w' ⟨rfl, rfl⟩)
                | fail)
              go_meet
              exact ⟨⟨2, ⟨0, 0, 0⟩, 0, 0, 0, 0, vi, 0⟩, rfl, hAcO _ _ _ _ _ _ _ _ _ _ (by omega) (by omega) (by omega) (by omega) (by omega), ⟨HP1.out⟩, ⟨Chg.of_grown HP2.out (fun k hk => by cases hk; rfl)⟩⟩
          · have n5 : ((vk : Int) == 5) = false := by rw [beq_eq_false_iff_ne]; omega
            have n6 : ((vk : Int) == 6) = false := by rw [beq_eq_false_iff_ne]; omega
            by_cases h7 : vk = 7
            · subst h7
              go_wp2_with fail
              refine (CR.out _).mono ?_
              rintro e w3 ⟨X0, Y0, X1, Y1, _, _, _, _, rfl, hb3⟩
              have HT3 := HT8.out.below hb3
              have FR3 : ∀ i, w3.frozen? ⟨t8, i, none⟩ = false := fun i => HT3.free i
              have HP := act_put HT3 (.int .i64 3) (.int .i64 0) (.int .i64 0) (.int .i64 0) (.int .i64 X0) (.int .i64 Y0) (.int .i64 X1) (.int .i64 Y1) (.int .i64 0) (.int .i64 0)
              have HP1 := Kp.mk HP.1
              have HP2 := Kp.mk ((Chg.of_below (F := fun k => k = t8) hb3).same (Chg.of_grown HP.2 (fun k hk => by cases hk; rfl)))
              have z0 : w3.cell? ⟨t8, 0, none⟩ = some (.int .i64 1) := HT3.cell 0 rfl
              have z1 : w3.cell? ⟨t8, 1, none⟩ = some (.int .i64 vx) := HT3.cell 1 rfl
              have z2 : w3.cell? ⟨t8, 2, none⟩ = some (.int .i64 vy) := HT3.cell 2 rfl
              have z3 : w3.cell? ⟨t8, 3, none⟩ = some (.int .i64 vw) := HT3.cell 3 rfl
              have z4 : w3.cell? ⟨t8, 4, none⟩ = some (.int .i64 0) := HT3.cell 4 rfl
              have z5 : w3.cell? ⟨t8, 5, none⟩ = some (.int .i64 0) := HT3.cell 5 rfl
              have z6 : w3.cell? ⟨t8, 6, none⟩ = some (.int .i64 0) := HT3.cell 6 rfl
              have z7 : w3.cell? ⟨t8, 7, none⟩ = some (.int .i64 0) := HT3.cell 7 rfl
              have z8 : w3.cell? ⟨t8, 8, none⟩ = some (.int .i64 0) := HT3.cell 8 rfl
              have z9 : w3.cell? ⟨t8, 9, none⟩ = some (.int .i64 0) := HT3.cell 9 rfl
              clear HP HT3
              go_wp2
              go_meet
              exact ⟨⟨3, ⟨0, 0, 0⟩, X0, Y0, X1, Y1, 0, 0⟩, rfl, hAcO _ _ _ _ _ _ _ _ _ _ (by omega) (by omega) (by omega) (by omega) (by omega), ⟨HP1.out⟩, ⟨HP2.out⟩⟩
            · have n7 : ((vk : Int) == 7) = false := by rw [beq_eq_false_iff_ne]; omega
              by_cases h8 : vk = 8
              · subst h8
                have hS0 : w2.cell? ⟨tb, 4, none⟩ = some (.int .i64 ca) ∧ w2.cell? ⟨tb, 5, none⟩ = some (.int .i64 cb) ∧ w2.cell? ⟨tb, 6, none⟩ = some (.int .i64 cc) ∧ w2.cell? ⟨tb, 7, none⟩ = some (.int .i64 cd) := ⟨y4, y5, y6, y7⟩
                have HSS := Kp.mk (fun (W : World) (hW : Below w2.heap.size w2 W) => show W.cell? ⟨tb, 4, none⟩ = some (.int .i64 ca) ∧ W.cell? ⟨tb, 5, none⟩ = some (.int .i64 cb) ∧ W.cell? ⟨tb, 6, none⟩ = some (.int .i64 cc) ∧ W.cell? ⟨tb, 7, none⟩ = some (.int .i64 cd) from ⟨(HBN2.out.below hW).cell 4 rfl, (HBN2.out.below hW).cell 5 rfl, (HBN2.out.below hW).cell 6 rfl, (HBN2.out.below hW).cell 7 rfl⟩)
                have HGG := Kp.mk (fun (W W' : World) (hW : Below w2.heap.size w2 W) (hg : W.grownBy W' (some t8)) => show W'.cell? ⟨tb, 4, none⟩ = some (.int .i64 ca) ∧ W'.cell? ⟨tb, 5, none⟩ = some (.int .i64 cb) ∧ W'.cell? ⟨tb, 6, none⟩ = some (.int .i64 cc) ∧ W'.cell? ⟨tb, 7, none⟩ = some (.int .i64 cd) from by
                  have hb := Chg.box (HBN2.out.below hW) (Chg.of_grown (F := fun k => k = t8) hg (fun k hk => by cases hk; rfl)) htne
                  exact ⟨hb.cell 4 rfl, hb.cell 5 rfl, hb.cell 6 rfl, hb.cell 7 rfl⟩)
                have hD : Below w2.heap.size w2 w2.drew := (Below.refl _ _).drew
                go_upto_region 13 with (fail)
                go_region_held3 (fun W => W.cell? ⟨tb, 4, none⟩ = some (.int .i64 ca) ∧ W.cell? ⟨tb, 5, none⟩ = some (.int .i64 cb) ∧ W.cell? ⟨tb, 6, none⟩ = some (.int .i64 cc) ∧ W.cell? ⟨tb, 7, none⟩ = some (.int .i64 cd))
                  (first | with_reducible exact HGG.out w3 _ hx3 HP.2 | with_reducible exact hS3 | exact hS0 | go_keep)
                  ((first
                    | (go_at_call 8; refine (CR.out _).mono ?_; rintro e w3 ⟨X0, Y0, X1, Y1, _, _, _, _, rfl, hb3⟩; have hx3 : Below w2.heap.size w2 w3 := hD.trans (hb3.mono hD.size); have hS3 := HSS.out w3 hx3; have HT3 := HT8.out.below hx3; have FR3 : ∀ i, w3.frozen? ⟨t8, i, none⟩ = false := fun i => HT3.free i; have HP := act_put HT3 (.int .i64 4) (.int .i64 0) (.int .i64 0) (.int .i64 0) (.int .i64 X0) (.int .i64 Y0) (.int .i64 X1) (.int .i64 Y1) (.int .i64 0) (.int .i64 va); have z0 : w3.cell? ⟨t8, 0, none⟩ = some (.int .i64 1) := HT3.cell 0 rfl; have z1 : w3.cell? ⟨t8, 1, none⟩ = some (.int .i64 vx) := HT3.cell 1 rfl; have z2 : w3.cell? ⟨t8, 2, none⟩ = some (.int .i64 vy) := HT3.cell 2 rfl; have z3 : w3.cell? ⟨t8, 3, none⟩ = some (.int .i64 vw) := HT3.cell 3 rfl; have z4 : w3.cell? ⟨t8, 4, none⟩ = some (.int .i64 0) := HT3.cell 4 rfl; have z5 : w3.cell? ⟨t8, 5, none⟩ = some (.int .i64 0) := HT3.cell 5 rfl; have z6 : w3.cell? ⟨t8, 6, none⟩ = some (.int .i64 0) := HT3.cell 6 rfl; have z7 : w3.cell? ⟨t8, 7, none⟩ = some (.int .i64 0) := HT3.cell 7 rfl; have z8 : w3.cell? ⟨t8, 8, none⟩ = some (.int .i64 0) := HT3.cell 8 rfl; have z9 : w3.cell? ⟨t8, 9, none⟩ = some (.int .i64 0) := HT3.cell 9 rfl)
                    | (go_at_call 6; with_reducible refine (CA.out _).mono ?_; rintro e w' ⟨rfl, rfl⟩)
                    | fail))
                all_goals
                  have HP1 := Kp.mk HP.1
                  have HP2 := Kp.mk ((Chg.of_below (F := fun k => k = t8) hx3).same (Chg.of_grown HP.2 (fun k hk => by cases hk; rfl)))
                  go_wp2
                  go_meet
                  exact ⟨⟨4, ⟨0, 0, 0⟩, X0, Y0, X1, Y1, 0, va⟩, rfl, hAcO _ _ _ _ _ _ _ _ _ _ (by omega) (by omega) (by omega) (by omega) (by omega), ⟨HP1.out⟩, ⟨HP2.out⟩⟩
              · have n8 : ((vk : Int) == 8) = false := by rw [beq_eq_false_iff_ne]; omega
                by_cases h9 : vk = 9
                · subst h9
                  have l1 := later_cell u1
                  have l2 := later_cell u2
                  have l3 := later_cell u3
                  have l5 := later_cell y5
                  have CB2 := Kp.mk (fun W => (CB.out W).mono (R' := fun e w' => e = .returned (.int .i64 (vb : Int)) ∧ Below W.heap.size W w') (fun e w' h => ⟨h.1, by rw [← h.2]; exact Below.refl _ _⟩))
                  go_upto_region 15 with (fail)
                  refine region_later_tail 6 (by kernel_rfl) (by kernel_rfl) ?_
                  simp only [List.take_succ_cons, List.take_zero, List.drop_succ_cons, List.drop_zero]
                  iterate 6 (go_big_quiet_step ((go_at_call 6; with_reducible exact q_later (CB2.out _))))
                  refine wpQuiet_nil ?_
                  rintro w4 ⟨xl, rfl⟩
                  have HT4 := HT8.out.below xl.le
                  have HXL := Kp.mk xl.le
                  generalize xl.val = w4 at *
                  have FR4 : ∀ i, w4.frozen? ⟨t8, i, none⟩ = false := fun i => HT4.free i
                  have z0 : w4.cell? ⟨t8, 0, none⟩ = some (.int .i64 1) := HT4.cell 0 rfl
                  have z1 : w4.cell? ⟨t8, 1, none⟩ = some (.int .i64 vx) := HT4.cell 1 rfl
                  have z2 : w4.cell? ⟨t8, 2, none⟩ = some (.int .i64 vy) := HT4.cell 2 rfl
                  have z3 : w4.cell? ⟨t8, 3, none⟩ = some (.int .i64 vw) := HT4.cell 3 rfl
                  have z4 : w4.cell? ⟨t8, 4, none⟩ = some (.int .i64 0) := HT4.cell 4 rfl
                  have z5 : w4.cell? ⟨t8, 5, none⟩ = some (.int .i64 0) := HT4.cell 5 rfl
                  have z6 : w4.cell? ⟨t8, 6, none⟩ = some (.int .i64 0) := HT4.cell 6 rfl
                  have z7 : w4.cell? ⟨t8, 7, none⟩ = some (.int .i64 0) := HT4.cell 7 rfl
                  have z8 : w4.cell? ⟨t8, 8, none⟩ = some (.int .i64 0) := HT4.cell 8 rfl
                  have z9 : w4.cell? ⟨t8, 9, none⟩ = some (.int .i64 0) := HT4.cell 9 rfl
                  have HP := act_put HT4 (.int .i64 5) (.int .i64 vx) (.int .i64 vy) (.int .i64 vw) (.int .i64 0) (.int .i64 0) (.int .i64 0) (.int .i64 0) (.int .i64 0) (.int .i64 vb)
                  have HP1 := Kp.mk HP.1
                  have HP2 := Kp.mk ((Chg.of_below (F := fun k => k = t8) HXL.out).same (Chg.of_grown HP.2 (fun k hk => by cases hk; rfl)))
                  clear HP HT4 l1 l2 l3 l5 CB2 HXL u0 u1 u2 u3 u4 u5 u6 u7 u8 u9 FR
                  go_wp2
                  go_meet
                  exact ⟨⟨5, ⟨vx, vy, vw⟩, 0, 0, 0, 0, 0, vb⟩, rfl, hAcO _ _ _ _ _ _ _ _ _ _ (by omega) (by omega) (by omega) (by omega) (by omega), ⟨HP1.out⟩, ⟨HP2.out⟩⟩
                · have n9 : ((vk : Int) == 9) = false := by rw [beq_eq_false_iff_ne]; omega
                  go_wp2
                  go_meet
                  exact ⟨⟨1, ⟨vx, vy, vw⟩, 0, 0, 0, 0, 0, 0⟩, rfl, hAcO _ _ _ _ _ _ _ _ _ _ (by omega) (by omega) (by omega) (by omega) (by omega), ⟨HT8.out⟩, ⟨Chg.refl _ _⟩⟩
        case rest =>
        obtain ⟨x, rfl, hxo, HT3, HC3⟩ := hcut
        obtain ⟨w3, rfl⟩ : ∃ w3 : World, w3 = wc := ⟨_, rfl⟩
        have HO3 := Kp.mk (Chg.own HO2.out HC3.out hno)
        have HB3 := Kp.mk (HB2.out.trans (Chg.below HC3.out hs2 (fun q hq => by subst hq; exact ht8B)))
        have hs3 : B ≤ w3.heap.size := Nat.le_trans hs2 HC3.out.size
        have HXO := Kp.mk hxo
        obtain ⟨xk, ⟨xx, xy, xw⟩, xa, xb, xc, xd, xi, xz⟩ := x
        have hT := HT3.out
        unfold acA actA at hT
        simp only at hT
        have y0 : w3.cell? ⟨t8, 0, none⟩ = some (.int .i64 xk) := hT.cell 0 rfl
        have y1 : w3.cell? ⟨t8, 1, none⟩ = some (.int .i64 xx) := hT.cell 1 rfl
        have y2 : w3.cell? ⟨t8, 2, none⟩ = some (.int .i64 xy) := hT.cell 2 rfl
        have y3 : w3.cell? ⟨t8, 3, none⟩ = some (.int .i64 xw) := hT.cell 3 rfl
        have y4 : w3.cell? ⟨t8, 4, none⟩ = some (.int .i64 xa) := hT.cell 4 rfl
        have y5 : w3.cell? ⟨t8, 5, none⟩ = some (.int .i64 xb) := hT.cell 5 rfl
        have y6 : w3.cell? ⟨t8, 6, none⟩ = some (.int .i64 xc) := hT.cell 6 rfl
        have y7 : w3.cell? ⟨t8, 7, none⟩ = some (.int .i64 xd) := hT.cell 7 rfl
        have y8 : w3.cell? ⟨t8, 8, none⟩ = some (.int .i64 xi) := hT.cell 8 rfl
        have y9 : w3.cell? ⟨t8, 9, none⟩ = some (.int .i64 xz) := hT.cell 9 rfl
        clear hT hxo HC3 HO2 HB2 HT8 HBN2 CK CI CA CB CR
        go_wp2_with (at_builtin; refine wpList_pushS tActs (by rfl) _ _ (by rfl) B oa k oc _ (by rfl) HO3.out 1 _ (by rfl) (by rfl) ?d1 ?d2 (by decide) hs3 ?d4)
        case d1 => simp [Value.oneCell']
        case d2 => omega
        case d4 =>
          intro oa2 oc2 w4 ho4 hg4 hn4
          have G1 := Kp.mk (show w4.ownsRow B 32 10 (.slice oa2 (k + 1) oc2) (k + 1) (flat acL (L ++ [⟨xk, ⟨xx, xy, xw⟩, xa, xb, xc, xd, xi, xz⟩])) from by
            rw [flat_append]; simpa [flat, acL] using ho4)
          have G2 := Kp.mk (HB3.out.trans (below_of_grown hg4 hs3 (fun q hq => (ty_own HO3.out hq).2)))
          have G3 := Kp.mk (show ∀ x ∈ L ++ [(⟨xk, ⟨xx, xy, xw⟩, xa, xb, xc, xd, xi, xz⟩ : Ac)], x.Ok from fun x hx => by
            rcases List.mem_append.1 hx with h1 | h1
            · exact HLO.out x h1
            · rw [List.mem_singleton.1 h1]; exact HXO.out)
          have G4 := Kp.mk (show (L ++ [(⟨xk, ⟨xx, xy, xw⟩, xa, xb, xc, xd, xi, xz⟩ : Ac)]).length = k + 1 from by rw [List.length_append, HLL.out]; rfl)
          clear ho4 hg4 hn4 HO3 HB3 y0 y1 y2 y3 y4 y5 y6 y7 y8 y9
          go_wp2
          go_roundw
          case rel => exact ⟨k + 1, oa2, oc2, _, by omega, by omega, by go_num, rfl, G4, G3, G1, G2⟩
          case measure => simp [intOf]; omega
      · obtain rfl : k = 100 := by omega
        go_wp2
        go_ret
        exact ⟨oa, 100, oc, L, rfl, ⟨HLL.out, by omega, HLO.out⟩, HO, HB⟩
    · obtain rfl : k = m := by omega
      go_wp2
      go_ret
      exact ⟨oa, k, oc, L, rfl, ⟨HLL.out, by omega, HLO.out⟩, HO, HB⟩

end Go.Proofs.YtladgklnacihkaaGreat.Dy

