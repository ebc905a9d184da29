/- The parser: lists of parts. -/
import Derived.Test.YtakabjkhcdkkjaaDoorQryL
import Derived.Shelf.Abstract
namespace Go.Proofs.YtakabjkhcdkkjaaDoor
set_option linter.unusedVariables false
open Go.RowKit Qk

theorem qgrown_step {wo wr w' : World} {r r' : Option Nat} (h : wo.grownBy wr r) (k : wr.grownBy w' r') (hr : ∀ q, r' = some q → wo.heap.size ≤ q ∨ r = some q) : wo.grownBy w' r :=
  ⟨k.os.trans h.os, k.tape.trans h.tape, k.output.trans h.output, Nat.le_trans h.size k.size, fun i hi hne => by
    refine (k.block i (Nat.lt_of_lt_of_le hi h.size) (fun e => ?_)).trans (h.block i hi hne)
    rcases hr i e.symm with h1 | h1
    · omega
    · exact hne h1.symm⟩
/-- A part is parsed by this method: these words are this expression, where no such word follows. -/
def PartC (w0 : World) (f : FuncId) (T : List Wd) (x : Ex) (stop : Wd → Prop) : Prop :=
  ∀ (w : World) (pb lc : Nat) (la : Option Addr) (rest : List Wd), (∀ t, rest.head? = some t → ¬ stop t) → PS w0 w pb la lc (T ++ rest) →
    Calls Tryd.prog f #[.pointer (some ⟨pb, 0, none⟩)] w fun e w' => ∃ (v : ExV) (la' : Option Addr) (lc' : Nat), e = .returned (.agg #[.int .i64 v.k, .int .i64 v.a, .int .i64 v.b, .int .i64 v.c, .int .i64 v.d, .int .i64 v.x, .slice v.sa v.n v.cap]) ∧ Kp (IsExB (fun k => w.heap.size ≤ k) w' x v) ∧ Kp (PS w0 w' pb la' lc' rest) ∧ Kp (w.grownBy w' (some pb))
/-- The words of further parts. -/
def tailW (s : Wd) : List (List Wd × Ex) → List Wd
  | [] => []
  | p :: r => [s] ++ p.1 ++ tailW s r
/-- The parts in memory: none lies in the row itself. -/
structure ListR (B : Nat) (w : World) (n : Nat) (xs : List (List Wd × Ex)) (oa : Option Addr) (oc : Nat) (vs : List ExV) : Prop where
  xlen : xs.length = n
  len : vs.length = n
  row : w.ownsRow B 27 7 (.slice oa n oc) n (flat exL vs)
  parts : ∀ i (h : i < xs.length), IsExB (fun k => B ≤ k ∧ blk oa ≠ some k) w (xs[i]).2 (vs.getD i ev0)
theorem ListR.step {B pb n : Nat} {w w' : World} {xs : List (List Wd × Ex)} {oa : Option Addr} {oc : Nat} {vs : List ExV} (h : ListR B w n xs oa oc vs) (hg : w.grownBy w' (some pb)) (hp : pb < B) : ListR B w' n xs oa oc vs :=
  ⟨h.xlen, h.len, own_keep h.row hg (fun k e e2 => by cases e; have := (own_lt h.row _ e2).1; omega), fun i hi => (h.parts i hi).keep (fun k hk hl => hg.block k hl (fun e => by cases e; omega)) hg.size (fun k hk _ => hk)⟩
theorem ListR.weak {B B' n : Nat} {w : World} {xs : List (List Wd × Ex)} {oa : Option Addr} {oc : Nat} {vs : List ExV} (h : ListR B w n xs oa oc vs) (hB : B' ≤ B) : ListR B' w n xs oa oc vs :=
  ⟨h.xlen, h.len, own_base h.row hB, fun i hi => (h.parts i hi).keep (fun k _ _ => rfl) (Nat.le_refl _) (fun k hk _ => ⟨Nat.le_trans hB hk.1, hk.2⟩)⟩
theorem flat_exL_app (vs : List ExV) (v : ExV) : flat exL (vs ++ [v]) = flat exL vs ++ exL v := by rw [flat_append]; simp [flat]
/-- The first part. -/
theorem ListR.first {B : Nat} {w : World} {p : List Wd × Ex} {v : ExV} (hv : IsExB (fun k => B ≤ k) w p.2 v) (hB : B ≤ w.heap.size) : ListR B (w.alloc (.cells (exL v).toArray 27)) 1 [p] (some ⟨w.heap.size, 0, none⟩) 1 [v] := by
  refine ⟨rfl, rfl, ⟨rfl, .inr ⟨w.heap.size, 1, _, rfl, hB, heap_alloc_new w _, Nat.le_refl _, by decide, rfl, by simp [flat, exL]⟩⟩, fun i hi => ?_⟩
  obtain rfl : i = 0 := by simp at hi; omega
  have hb := below_alloc (Nat.le_refl w.heap.size) (.cells (exL v).toArray 27)
  exact hv.keep (fun k _ hl => hb.block k hl) hb.size (fun k hk hl => ⟨hk, fun e => by simp only [blk, Option.map_some, Option.some.injEq] at e; omega⟩)
/-- One more part. -/
theorem ListR.push {B n : Nat} {w w1 w2 : World} {xs : List (List Wd × Ex)} {oa oa2 : Option Addr} {oc oc2 : Nat} {vs : List ExV} {p : List Wd × Ex} {v : ExV} (h : ListR B w1 n xs oa oc vs) (hv : IsExB (fun k => w.heap.size ≤ k) w1 p.2 v) (hB : B ≤ w.heap.size) (hlt : ∀ k, blk oa = some k → k < w.heap.size)
    (ho : w2.ownsRow B 27 7 (.slice oa2 (n + 1) oc2) (n + 1) (flat exL vs ++ exL v)) (hg : w1.grownBy w2 (blk oa)) (hn : NewOr w1 oa oa2) : ListR B w2 (n + 1) (xs ++ [p]) oa2 oc2 (vs ++ [v]) := by
  have key : ∀ {P : Nat → Prop} {x : Ex} {u : ExV}, IsExB P w1 x u → (∀ k, P k → B ≤ k ∧ blk oa ≠ some k) → IsExB (fun k => B ≤ k ∧ blk oa2 ≠ some k) w2 x u := fun hu hP => hu.keep (fun k hk hl => hg.block k hl (fun e => (hP k hk).2 e.symm)) hg.size (fun k hk hl => ⟨(hP k hk).1, fun e => by
    rcases hn with e2 | ⟨g, e2, hge⟩
    · rw [e2] at e; exact (hP k hk).2 e
    · rw [e2] at e; simp only [Option.some.injEq] at e; omega⟩)
  refine ⟨by simp [h.xlen], by simp [h.len], by simpa [flat_exL_app] using ho, fun i hi => ?_⟩
  rw [List.length_append] at hi
  simp only [List.length_cons, List.length_nil] at hi
  rcases Nat.lt_or_ge i xs.length with h1 | h1
  · rw [List.getElem_append_left h1, getD_at _ _ (by rw [List.length_append, h.len]; have := h.xlen; omega), List.getElem_append_left (by rw [h.len]; have := h.xlen; omega), ← getD_at vs ev0 (by rw [h.len]; have := h.xlen; omega)]
    exact key (h.parts i h1) (fun k hk => hk)
  · obtain rfl : i = xs.length := by omega
    have hxv : xs.length = vs.length := by rw [h.xlen, h.len]
    rw [List.getElem_append_right (Nat.le_refl _), getD_at _ _ (by rw [List.length_append]; simp; omega), List.getElem_append_right (by omega)]
    simp only [hxv, Nat.sub_self, List.getElem_cons_zero]
    exact key hv (fun k hk => ⟨Nat.le_trans hB hk, fun e => by have := hlt k e; omega⟩)
/-- What a list of parts is. -/
def listV (kind : Int) (n : Nat) (oa : Option Addr) (oc : Nat) (vs : List ExV) : ExV := if n = 0 then vs.getD 0 ev0 else ⟨kind, 0, 0, 0, 0, 0, oa, n + 1, oc⟩
def lenV : Value → Nat
  | .slice _ n _ => n
  | _ => 0

set_option maxRecDepth 100000 in
set_option maxHeartbeats 16000000 in
theorem list_one (w0 : World) (kind : Int) (sg : UInt8) (stop : Wd → Prop) (p0 : List Wd × Ex) (ps : List (List Wd × Ex)) (hP : ∀ p ∈ p0 :: ps, PartC w0 29 p.1 p.2 stop) (hsg : ¬ stop [sg]) (hn : ps.length ≤ 2)
    (w : World) (pb lc : Nat) (la : Option Addr) (rest : List Wd) (hr : ∀ t, rest.head? = some t → ¬ stop t ∧ t ≠ [sg]) (h : PS w0 w pb la lc (p0.1 ++ (tailW [sg] ps ++ rest))) :
    Calls Tryd.prog 21 #[.pointer (some ⟨pb, 0, none⟩), .int .i64 kind, str [sg], .func (.func 29) #[.pointer (some ⟨pb, 0, none⟩)] #[]] w fun e w' => ∃ (V : ExV) (vs : List ExV) (oa : Option Addr) (oc : Nat) (la' : Option Addr) (lc' : Nat),
      e = .returned (.agg #[.int .i64 V.k, .int .i64 V.a, .int .i64 V.b, .int .i64 V.c, .int .i64 V.d, .int .i64 V.x, .slice V.sa V.n V.cap]) ∧ Kp (V = listV kind ps.length oa oc vs) ∧ Kp (ListR w.heap.size w' (ps.length + 1) (p0 :: ps) oa oc vs) ∧ Kp (PS w0 w' pb la' lc' rest) ∧ Kp (w.grownBy w' (some pb)) := by
  have eg : ∀ args w, (callFunc 29 args).run Tryd.prog w = .ok (.enter 29 args) w := enters_of Tryd.func29 (by kernel_rfl) rfl
  have HP := Kp.mk hP
  have HR := Kp.mk hr
  have hw0 := h.bel.size
  have hpb : pb < w.heap.size := h.box.lt
  have ha := below_alloc (Nat.le_refl w.heap.size) (.cells #[.int .i64 0, .int .i64 0, .int .i64 0, .int .i64 0, .int .i64 0, .int .i64 0, .slice none 0 0] 27)
  have HA := Kp.mk ha
  have HBX := Kp.mk (Box.new w #[.int .i64 0, .int .i64 0, .int .i64 0, .int .i64 0, .int .i64 0, .int .i64 0, .slice none 0 0] 27)
  have HS := Kp.mk (h.later ha)
  obtain ⟨t8, ht8⟩ : ∃ t8, w.heap.size = t8 := ⟨_, rfl⟩
  obtain ⟨w1, hw1⟩ : ∃ w1, w.alloc (.cells #[.int .i64 0, .int .i64 0, .int .i64 0, .int .i64 0, .int .i64 0, .int .i64 0, .slice none 0 0] 27) = w1 := ⟨_, rfl⟩
  have hz1 : w1.heap.size = t8 + 1 := by rw [← hw1, alloc_size, ht8]
  rw [hw1] at HA HBX HS
  rw [ht8] at HBX
  have HZ1 := Kp.mk hz1
  have HT8 := Kp.mk ht8
  have CP := Kp.mk (HP.out p0 (by simp) w1 pb lc la _ (by
    intro t ht
    cases ps with
    | nil => exact (HR.out t (by simpa [tailW] using ht)).1
    | cons q r => simp [tailW] at ht; subst ht; exact hsg) HS.out)
  clear hP hr h ha hz1
  go_enter Tryd.func21, Tryd.ntmps21
  go_upto_region 1 with (fail)
  clear hw1 ht8
  go_wp2_with fail
  refine CP.out.mono ?_
  rintro e w2 ⟨v, la2, lc2, rfl, HV2, HS2, HG2⟩
  have hz2 := HG2.out.size
  have HL3 := Kp.mk (ListR.first (B := t8 + 1) (p := p0) (v := v) (by rw [← HZ1.out]; exact HV2.out) (by have := HZ1.out; omega))
  have hal := below_alloc (Nat.le_refl w2.heap.size) (.cells #[.int .i64 v.k, .int .i64 v.a, .int .i64 v.b, .int .i64 v.c, .int .i64 v.d, .int .i64 v.x, .slice v.sa v.n v.cap] 27)
  have HS3 := Kp.mk (HS2.out.later hal)
  have HG3 := Kp.mk (show w1.grownBy (w2.alloc (.cells #[.int .i64 v.k, .int .i64 v.a, .int .i64 v.b, .int .i64 v.c, .int .i64 v.d, .int .i64 v.x, .slice v.sa v.n v.cap] 27)) (some pb) from grown_trans HG2.out (grown_of_below hal))
  obtain ⟨w3, hw3⟩ : ∃ w3, w2.alloc (.cells #[.int .i64 v.k, .int .i64 v.a, .int .i64 v.b, .int .i64 v.c, .int .i64 v.d, .int .i64 v.x, .slice v.sa v.n v.cap] 27) = w3 := ⟨_, rfl⟩
  have HL4 := Kp.mk (show ListR (t8 + 1) w3 1 [p0] (some ⟨w2.heap.size, 0, none⟩) 1 [v] from by rw [← hw3]; exact HL3.out)
  rw [hw3] at HS3 HG3
  obtain ⟨q0, hq0⟩ : ∃ q0, w2.heap.size = q0 := ⟨_, rfl⟩
  rw [hq0] at HL4
  clear HV2 HS2 HG2 HL3 CP HS hal
  go_upto_region 2 with (fail)
  try rw [hw3]
  try simp only [hq0]
  clear hw3 hq0 hz2
  go_loopw [9] (fun lv wr => ∃ (j : Nat) (oa : Option Addr) (oc : Nat) (la : Option Addr) (lc : Nat) (vs : List ExV), j ≤ ps.length ∧ lv = .slice oa (j + 1) oc ∧ Kp (ListR (t8 + 1) wr (j + 1) ((p0 :: ps).take (j + 1)) oa oc vs) ∧ Kp (PS w0 wr pb la lc (tailW [sg] (ps.drop j) ++ rest)) ∧ Kp (w1.grownBy wr (some pb))) (fun v _ => 4 - lenV v)
  case atStart => exact ⟨0, _, 1, la2, lc2, [v], Nat.zero_le _, rfl, HL4, HS3, HG3⟩
  case round =>
    obtain ⟨j, oa, oc, la3, lc3, vs, hj, rfl, HL, HS, HG⟩ := hrel
    have k1 : wr.cell? ⟨pb, 1, none⟩ = some (.bool false) := HS.out.box.cell 1 rfl
    have hsr : t8 + 1 ≤ wr.heap.size := by rw [← HZ1.out]; exact HG.out.size
    have hT8 := HT8.out
    by_cases hlt : j < ps.length
    · have hdr : ps.drop j = ps[j] :: ps.drop (j + 1) := List.drop_eq_getElem_cons hlt
      have HS' := Kp.mk (show PS w0 wr pb la3 lc3 ([sg] :: (ps[j].1 ++ (tailW [sg] (ps.drop (j + 1)) ++ rest))) from by
        have := HS.out
        rw [hdr] at this
        simpa [tailW] using this)
      have CT := Kp.mk (takes_yes w0 wr pb la3 lc3 [sg] _ HS'.out)
      have HTK := Kp.mk (show (p0 :: ps).take (j + 2) = (p0 :: ps).take (j + 1) ++ [ps[j]] from by
        rw [List.take_succ_eq_append_getElem (by simp; omega)]; simp)
      have hmem : ps[j] ∈ p0 :: ps := List.mem_cons_of_mem _ (List.getElem_mem hlt)
      have HST := Kp.mk (show ∀ t, (tailW [sg] (ps.drop (j + 1)) ++ rest).head? = some t → ¬ stop t from fun t ht => by
        cases hd : ps.drop (j + 1) with
        | nil => rw [hd] at ht; exact (HR.out t (by simpa [tailW] using ht)).1
        | cons a r => rw [hd] at ht; simp [tailW] at ht; subst ht; exact hsg)
      clear HS HS' hdr
      generalize ps[j] = pj at *
      go_upto_region 3 with (first
        | (go_at_call 28; refine CT.out.mono ?_; rintro e wt ⟨la4, lc4, rfl, HS4, HG4⟩)
        | fail)
      have CPj := Kp.mk (HP.out pj hmem wt pb lc4 la4 _ HST.out HS4.out)
      have HL4' := Kp.mk (HL.out.step HG4.out (by omega))
      have hst : t8 + 1 ≤ wt.heap.size := Nat.le_trans hsr HG4.out.size
      clear CT HL k1 HS4
      go_wp2_with fail
      refine CPj.out.mono ?_
      rintro e w4 ⟨v4, la5, lc5, rfl, HV5, HS5, HG5⟩
      have HL5 := Kp.mk (HL4'.out.step HG5.out (by omega))
      have hs5 : t8 + 1 ≤ w4.heap.size := Nat.le_trans hst HG5.out.size
      have HLT := Kp.mk (show ∀ k, blk oa = some k → k < wt.heap.size from fun k e => (own_lt HL4'.out.row k e).2)
      clear CPj HL4'
      go_wp2_with (at_builtin; refine wpList_pushS tExs (by rfl) _ _ (by rfl) (t8 + 1) oa (j + 1) oc _ (by rfl) HL5.out.row 1 _ (by rfl) (by rfl) ?d1 ?d2 (by decide) hs5 ?d4)
      case d1 => simp [Value.oneCell']
      case d2 => omega
      case d4 =>
        intro oa2 oc2 w5 ho5 hg5 hn5
        have HL6 := Kp.mk (show ListR (t8 + 1) w5 (j + 2) ((p0 :: ps).take (j + 2)) oa2 oc2 (vs ++ [v4]) from by
          rw [HTK.out]
          exact HL5.out.push (w := wt) HV5.out hst HLT.out ho5 hg5 hn5)
        have HS6 := Kp.mk (HS5.out.keep hg5 (fun k e => by have := (own_lt HL5.out.row k e).1; exact ⟨by omega, by omega⟩))
        have HG6 := Kp.mk (show w1.grownBy w5 (some pb) from qgrown_step (grown_trans (grown_trans HG.out HG4.out) HG5.out) hg5 (fun q e => .inl (by rw [HZ1.out]; exact (own_lt HL5.out.row q e).1)))
        clear ho5 hg5 hn5 HL5 HS5 HV5 HG HG4 HG5
        go_wp2
        go_roundw
        case rel => exact ⟨j + 1, oa2, oc2, la5, lc5, vs ++ [v4], hlt, rfl, HL6, HS6, HG6⟩
        case measure => simp [lenV]; omega
    · obtain rfl : j = ps.length := by omega
      have HS' := Kp.mk (show PS w0 wr pb la3 lc3 rest from by
        have := HS.out
        rw [List.drop_length] at this
        simpa [tailW] using this)
      have CT := Kp.mk (takes_no w0 wr pb la3 lc3 [sg] rest HS'.out (fun e => (HR.out _ e).2 rfl))
      have HL4' := Kp.mk (show ListR (t8 + 1) wr (ps.length + 1) (p0 :: ps) oa oc vs from by
        have := HL.out
        rw [show (p0 :: ps).take (ps.length + 1) = p0 :: ps from List.take_of_length_le (by simp)] at this
        exact this)
      clear HS HS' HL
      go_upto_region 4 with (first
        | (go_at_call 28; refine CT.out.mono ?_; rintro e wt ⟨rfl, HS4, HB4⟩)
        | fail)
      have HG5 := Kp.mk (show w1.grownBy wt (some pb) from grown_trans HG.out (grown_of_below HB4.out))
      have HL5 := Kp.mk (HL4'.out.step (pb := pb) (grown_of_below HB4.out) (by omega))
      have hx0 := box_grow HBX.out HG5.out (fun e => by simp only [Option.some.injEq] at e; omega)
      clear CT k1 HG HB4 HL4' HBX
      by_cases h0 : ps.length = 0
      · have hn0 : ((ps.length : Int) + 1 == 1) = true := by rw [h0]; rfl
        obtain ⟨g, rfl, hgl, _⟩ := own_some HL5.out.row (by omega)
        have hvl := HL5.out.len
        obtain ⟨u, hu⟩ : ∃ u, vs.getD 0 ev0 = u := ⟨_, rfl⟩
        have h00 : 0 < vs.length := by omega
        have c := fun jj (hjj : jj < 7) => own_at exL_len HL5.out.row hvl 0 h00 jj hjj
        rw [← getD_at vs ev0 h00, hu] at c
        have c0 : wt.cell? ⟨g, 0, none⟩ = some (.int .i64 u.k) := by simpa [exL] using c 0 (by omega)
        have c1 : wt.cell? ⟨g, 1, none⟩ = some (.int .i64 u.a) := by simpa [exL] using c 1 (by omega)
        have c2 : wt.cell? ⟨g, 2, none⟩ = some (.int .i64 u.b) := by simpa [exL] using c 2 (by omega)
        have c3 : wt.cell? ⟨g, 3, none⟩ = some (.int .i64 u.c) := by simpa [exL] using c 3 (by omega)
        have c4 : wt.cell? ⟨g, 4, none⟩ = some (.int .i64 u.d) := by simpa [exL] using c 4 (by omega)
        have c5 : wt.cell? ⟨g, 5, none⟩ = some (.int .i64 u.x) := by simpa [exL] using c 5 (by omega)
        have c6 : wt.cell? ⟨g, 6, none⟩ = some (.slice u.sa u.n u.cap) := by simpa [exL] using c 6 (by omega)
        clear c
        have b0 : wt.cell? ⟨t8, 0, none⟩ = some (.int .i64 0) := hx0.cell 0 rfl
        have b1 : wt.cell? ⟨t8, 1, none⟩ = some (.int .i64 0) := hx0.cell 1 rfl
        have b2 : wt.cell? ⟨t8, 2, none⟩ = some (.int .i64 0) := hx0.cell 2 rfl
        have b3 : wt.cell? ⟨t8, 3, none⟩ = some (.int .i64 0) := hx0.cell 3 rfl
        have b4 : wt.cell? ⟨t8, 4, none⟩ = some (.int .i64 0) := hx0.cell 4 rfl
        have b5 : wt.cell? ⟨t8, 5, none⟩ = some (.int .i64 0) := hx0.cell 5 rfl
        have b6 : wt.cell? ⟨t8, 6, none⟩ = some (.slice none 0 0) := hx0.cell 6 rfl
        have q0' := hx0.free 0
        have q1' := hx0.free 1
        have q2' := hx0.free 2
        have q3' := hx0.free 3
        have q4' := hx0.free 4
        have q5' := hx0.free 5
        have q6' := hx0.free 6
        have HX9 := Kp.mk (st7_box hx0 (.int .i64 u.k) (.int .i64 u.a) (.int .i64 u.b) (.int .i64 u.c) (.int .i64 u.d) (.int .i64 u.x) (.slice u.sa u.n u.cap))
        have hg9 := st7_grown wt t8 (.int .i64 u.k) (.int .i64 u.a) (.int .i64 u.b) (.int .i64 u.c) (.int .i64 u.d) (.int .i64 u.x) (.slice u.sa u.n u.cap)
        have HL9 := Kp.mk ((HL5.out.step hg9 (by omega)).weak (B' := t8) (by omega))
        have HS9 := Kp.mk (HS4.out.keep hg9 (fun k e => by cases e; exact ⟨by omega, by omega⟩))
        have HG9 := Kp.mk (show w.grownBy _ (some pb) from qgrown_step (grown_trans (grown_of_below HA.out) HG5.out) hg9 (fun q e => .inl (by cases e; rw [HT8.out]; exact Nat.le_refl _)))
        clear hx0 hg9
        go_wp2
        clear b0 b1 b2 b3 b4 b5 b6 q0' q1' q2' q3' q4' q5' q6'
        generalize (((((((wt.setCell ⟨t8, 0, none⟩ (.int .i64 u.k)).setCell ⟨t8, 1, none⟩ (.int .i64 u.a)).setCell ⟨t8, 2, none⟩ (.int .i64 u.b)).setCell ⟨t8, 3, none⟩ (.int .i64 u.c)).setCell ⟨t8, 4, none⟩ (.int .i64 u.d)).setCell ⟨t8, 5, none⟩ (.int .i64 u.x)).setCell ⟨t8, 6, none⟩ (.slice u.sa u.n u.cap)) = w9 at *
        have z0 : w9.cell? ⟨t8, 0, none⟩ = some (.int .i64 u.k) := HX9.out.cell 0 rfl
        have z1 : w9.cell? ⟨t8, 1, none⟩ = some (.int .i64 u.a) := HX9.out.cell 1 rfl
        have z2 : w9.cell? ⟨t8, 2, none⟩ = some (.int .i64 u.b) := HX9.out.cell 2 rfl
        have z3 : w9.cell? ⟨t8, 3, none⟩ = some (.int .i64 u.c) := HX9.out.cell 3 rfl
        have z4 : w9.cell? ⟨t8, 4, none⟩ = some (.int .i64 u.d) := HX9.out.cell 4 rfl
        have z5 : w9.cell? ⟨t8, 5, none⟩ = some (.int .i64 u.x) := HX9.out.cell 5 rfl
        have z6 : w9.cell? ⟨t8, 6, none⟩ = some (.slice u.sa u.n u.cap) := HX9.out.cell 6 rfl
        refine bodyPost_ret (v := .agg #[.int .i64 u.k, .int .i64 u.a, .int .i64 u.b, .int .i64 u.c, .int .i64 u.d, .int .i64 u.x, .slice u.sa u.n u.cap]) (by simp [results, Tryd.results21, go_sem, z0, z1, z2, z3, z4, z5, z6]) rfl ?_
        exact ⟨u, vs, some ⟨g, 0, none⟩, oc, la3, lc3, rfl, ⟨by unfold listV; rw [if_pos h0, hu]⟩, by rw [HT8.out]; exact HL9, HS9, HG9⟩
      · have hn0 : ((ps.length : Int) + 1 == 1) = false := by rw [beq_eq_false_iff_ne]; omega
        have b0 : wt.cell? ⟨t8, 0, none⟩ = some (.int .i64 0) := hx0.cell 0 rfl
        have b1 : wt.cell? ⟨t8, 1, none⟩ = some (.int .i64 0) := hx0.cell 1 rfl
        have b2 : wt.cell? ⟨t8, 2, none⟩ = some (.int .i64 0) := hx0.cell 2 rfl
        have b3 : wt.cell? ⟨t8, 3, none⟩ = some (.int .i64 0) := hx0.cell 3 rfl
        have b4 : wt.cell? ⟨t8, 4, none⟩ = some (.int .i64 0) := hx0.cell 4 rfl
        have b5 : wt.cell? ⟨t8, 5, none⟩ = some (.int .i64 0) := hx0.cell 5 rfl
        have b6 : wt.cell? ⟨t8, 6, none⟩ = some (.slice none 0 0) := hx0.cell 6 rfl
        have q0' := hx0.free 0
        have q1' := hx0.free 1
        have q2' := hx0.free 2
        have q3' := hx0.free 3
        have q4' := hx0.free 4
        have q5' := hx0.free 5
        have q6' := hx0.free 6
        have HX9 := Kp.mk (st7_box hx0 (.int .i64 kind) (.int .i64 0) (.int .i64 0) (.int .i64 0) (.int .i64 0) (.int .i64 0) (.slice oa (ps.length + 1) oc))
        have hg9 := st7_grown wt t8 (.int .i64 kind) (.int .i64 0) (.int .i64 0) (.int .i64 0) (.int .i64 0) (.int .i64 0) (.slice oa (ps.length + 1) oc)
        have HL9 := Kp.mk ((HL5.out.step hg9 (by omega)).weak (B' := t8) (by omega))
        have HS9 := Kp.mk (HS4.out.keep hg9 (fun k e => by cases e; exact ⟨by omega, by omega⟩))
        have HG9 := Kp.mk (show w.grownBy _ (some pb) from qgrown_step (grown_trans (grown_of_below HA.out) HG5.out) hg9 (fun q e => .inl (by cases e; rw [HT8.out]; exact Nat.le_refl _)))
        clear hx0 hg9
        go_wp2
        clear b0 b1 b2 b3 b4 b5 b6 q0' q1' q2' q3' q4' q5' q6'
        generalize (((((((wt.setCell ⟨t8, 0, none⟩ (.int .i64 kind)).setCell ⟨t8, 1, none⟩ (.int .i64 0)).setCell ⟨t8, 2, none⟩ (.int .i64 0)).setCell ⟨t8, 3, none⟩ (.int .i64 0)).setCell ⟨t8, 4, none⟩ (.int .i64 0)).setCell ⟨t8, 5, none⟩ (.int .i64 0)).setCell ⟨t8, 6, none⟩ (.slice oa (ps.length + 1) oc)) = w9 at *
        have z0 : w9.cell? ⟨t8, 0, none⟩ = some (.int .i64 kind) := HX9.out.cell 0 rfl
        have z1 : w9.cell? ⟨t8, 1, none⟩ = some (.int .i64 0) := HX9.out.cell 1 rfl
        have z2 : w9.cell? ⟨t8, 2, none⟩ = some (.int .i64 0) := HX9.out.cell 2 rfl
        have z3 : w9.cell? ⟨t8, 3, none⟩ = some (.int .i64 0) := HX9.out.cell 3 rfl
        have z4 : w9.cell? ⟨t8, 4, none⟩ = some (.int .i64 0) := HX9.out.cell 4 rfl
        have z5 : w9.cell? ⟨t8, 5, none⟩ = some (.int .i64 0) := HX9.out.cell 5 rfl
        have z6 : w9.cell? ⟨t8, 6, none⟩ = some (.slice oa (ps.length + 1) oc) := HX9.out.cell 6 rfl
        refine bodyPost_ret (v := .agg #[.int .i64 kind, .int .i64 0, .int .i64 0, .int .i64 0, .int .i64 0, .int .i64 0, .slice oa (ps.length + 1) oc]) (by simp [results, Tryd.results21, go_sem, z0, z1, z2, z3, z4, z5, z6]) rfl ?_
        exact ⟨⟨kind, 0, 0, 0, 0, 0, oa, ps.length + 1, oc⟩, vs, oa, oc, la3, lc3, rfl, ⟨by unfold listV; rw [if_neg h0]⟩, by rw [HT8.out]; exact HL9, HS9, HG9⟩

set_option maxRecDepth 100000 in
set_option maxHeartbeats 16000000 in
theorem list_and (w0 : World) (kind : Int) (sg : UInt8) (stop : Wd → Prop) (p0 : List Wd × Ex) (ps : List (List Wd × Ex)) (hP : ∀ p ∈ p0 :: ps, PartC w0 22 p.1 p.2 stop) (hsg : ¬ stop [sg]) (hn : ps.length ≤ 2)
    (w : World) (pb lc : Nat) (la : Option Addr) (rest : List Wd) (hr : ∀ t, rest.head? = some t → ¬ stop t ∧ t ≠ [sg]) (h : PS w0 w pb la lc (p0.1 ++ (tailW [sg] ps ++ rest))) :
    Calls Tryd.prog 21 #[.pointer (some ⟨pb, 0, none⟩), .int .i64 kind, str [sg], .func (.func 22) #[.pointer (some ⟨pb, 0, none⟩)] #[]] w fun e w' => ∃ (V : ExV) (vs : List ExV) (oa : Option Addr) (oc : Nat) (la' : Option Addr) (lc' : Nat),
      e = .returned (.agg #[.int .i64 V.k, .int .i64 V.a, .int .i64 V.b, .int .i64 V.c, .int .i64 V.d, .int .i64 V.x, .slice V.sa V.n V.cap]) ∧ Kp (V = listV kind ps.length oa oc vs) ∧ Kp (ListR w.heap.size w' (ps.length + 1) (p0 :: ps) oa oc vs) ∧ Kp (PS w0 w' pb la' lc' rest) ∧ Kp (w.grownBy w' (some pb)) := by
  have eg : ∀ args w, (callFunc 22 args).run Tryd.prog w = .ok (.enter 22 args) w := enters_of Tryd.func22 (by kernel_rfl) rfl
  have HP := Kp.mk hP
  have HR := Kp.mk hr
  have hw0 := h.bel.size
  have hpb : pb < w.heap.size := h.box.lt
  have ha := below_alloc (Nat.le_refl w.heap.size) (.cells #[.int .i64 0, .int .i64 0, .int .i64 0, .int .i64 0, .int .i64 0, .int .i64 0, .slice none 0 0] 27)
  have HA := Kp.mk ha
  have HBX := Kp.mk (Box.new w #[.int .i64 0, .int .i64 0, .int .i64 0, .int .i64 0, .int .i64 0, .int .i64 0, .slice none 0 0] 27)
  have HS := Kp.mk (h.later ha)
  obtain ⟨t8, ht8⟩ : ∃ t8, w.heap.size = t8 := ⟨_, rfl⟩
  obtain ⟨w1, hw1⟩ : ∃ w1, w.alloc (.cells #[.int .i64 0, .int .i64 0, .int .i64 0, .int .i64 0, .int .i64 0, .int .i64 0, .slice none 0 0] 27) = w1 := ⟨_, rfl⟩
  have hz1 : w1.heap.size = t8 + 1 := by rw [← hw1, alloc_size, ht8]
  rw [hw1] at HA HBX HS
  rw [ht8] at HBX
  have HZ1 := Kp.mk hz1
  have HT8 := Kp.mk ht8
  have CP := Kp.mk (HP.out p0 (by simp) w1 pb lc la _ (by
    intro t ht
    cases ps with
    | nil => exact (HR.out t (by simpa [tailW] using ht)).1
    | cons q r => simp [tailW] at ht; subst ht; exact hsg) HS.out)
  clear hP hr h ha hz1
  go_enter Tryd.func21, Tryd.ntmps21
  go_upto_region 1 with (fail)
  clear hw1 ht8
  go_wp2_with fail
  refine CP.out.mono ?_
  rintro e w2 ⟨v, la2, lc2, rfl, HV2, HS2, HG2⟩
  have hz2 := HG2.out.size
  have HL3 := Kp.mk (ListR.first (B := t8 + 1) (p := p0) (v := v) (by rw [← HZ1.out]; exact HV2.out) (by have := HZ1.out; omega))
  have hal := below_alloc (Nat.le_refl w2.heap.size) (.cells #[.int .i64 v.k, .int .i64 v.a, .int .i64 v.b, .int .i64 v.c, .int .i64 v.d, .int .i64 v.x, .slice v.sa v.n v.cap] 27)
  have HS3 := Kp.mk (HS2.out.later hal)
  have HG3 := Kp.mk (show w1.grownBy (w2.alloc (.cells #[.int .i64 v.k, .int .i64 v.a, .int .i64 v.b, .int .i64 v.c, .int .i64 v.d, .int .i64 v.x, .slice v.sa v.n v.cap] 27)) (some pb) from grown_trans HG2.out (grown_of_below hal))
  obtain ⟨w3, hw3⟩ : ∃ w3, w2.alloc (.cells #[.int .i64 v.k, .int .i64 v.a, .int .i64 v.b, .int .i64 v.c, .int .i64 v.d, .int .i64 v.x, .slice v.sa v.n v.cap] 27) = w3 := ⟨_, rfl⟩
  have HL4 := Kp.mk (show ListR (t8 + 1) w3 1 [p0] (some ⟨w2.heap.size, 0, none⟩) 1 [v] from by rw [← hw3]; exact HL3.out)
  rw [hw3] at HS3 HG3
  obtain ⟨q0, hq0⟩ : ∃ q0, w2.heap.size = q0 := ⟨_, rfl⟩
  rw [hq0] at HL4
  clear HV2 HS2 HG2 HL3 CP HS hal
  go_upto_region 2 with (fail)
  try rw [hw3]
  try simp only [hq0]
  clear hw3 hq0 hz2
  go_loopw [9] (fun lv wr => ∃ (j : Nat) (oa : Option Addr) (oc : Nat) (la : Option Addr) (lc : Nat) (vs : List ExV), j ≤ ps.length ∧ lv = .slice oa (j + 1) oc ∧ Kp (ListR (t8 + 1) wr (j + 1) ((p0 :: ps).take (j + 1)) oa oc vs) ∧ Kp (PS w0 wr pb la lc (tailW [sg] (ps.drop j) ++ rest)) ∧ Kp (w1.grownBy wr (some pb))) (fun v _ => 4 - lenV v)
  case atStart => exact ⟨0, _, 1, la2, lc2, [v], Nat.zero_le _, rfl, HL4, HS3, HG3⟩
  case round =>
    obtain ⟨j, oa, oc, la3, lc3, vs, hj, rfl, HL, HS, HG⟩ := hrel
    have k1 : wr.cell? ⟨pb, 1, none⟩ = some (.bool false) := HS.out.box.cell 1 rfl
    have hsr : t8 + 1 ≤ wr.heap.size := by rw [← HZ1.out]; exact HG.out.size
    have hT8 := HT8.out
    by_cases hlt : j < ps.length
    · have hdr : ps.drop j = ps[j] :: ps.drop (j + 1) := List.drop_eq_getElem_cons hlt
      have HS' := Kp.mk (show PS w0 wr pb la3 lc3 ([sg] :: (ps[j].1 ++ (tailW [sg] (ps.drop (j + 1)) ++ rest))) from by
        have := HS.out
        rw [hdr] at this
        simpa [tailW] using this)
      have CT := Kp.mk (takes_yes w0 wr pb la3 lc3 [sg] _ HS'.out)
      have HTK := Kp.mk (show (p0 :: ps).take (j + 2) = (p0 :: ps).take (j + 1) ++ [ps[j]] from by
        rw [List.take_succ_eq_append_getElem (by simp; omega)]; simp)
      have hmem : ps[j] ∈ p0 :: ps := List.mem_cons_of_mem _ (List.getElem_mem hlt)
      have HST := Kp.mk (show ∀ t, (tailW [sg] (ps.drop (j + 1)) ++ rest).head? = some t → ¬ stop t from fun t ht => by
        cases hd : ps.drop (j + 1) with
        | nil => rw [hd] at ht; exact (HR.out t (by simpa [tailW] using ht)).1
        | cons a r => rw [hd] at ht; simp [tailW] at ht; subst ht; exact hsg)
      clear HS HS' hdr
      generalize ps[j] = pj at *
      go_upto_region 3 with (first
        | (go_at_call 28; refine CT.out.mono ?_; rintro e wt ⟨la4, lc4, rfl, HS4, HG4⟩)
        | fail)
      have CPj := Kp.mk (HP.out pj hmem wt pb lc4 la4 _ HST.out HS4.out)
      have HL4' := Kp.mk (HL.out.step HG4.out (by omega))
      have hst : t8 + 1 ≤ wt.heap.size := Nat.le_trans hsr HG4.out.size
      clear CT HL k1 HS4
      go_wp2_with fail
      refine CPj.out.mono ?_
      rintro e w4 ⟨v4, la5, lc5, rfl, HV5, HS5, HG5⟩
      have HL5 := Kp.mk (HL4'.out.step HG5.out (by omega))
      have hs5 : t8 + 1 ≤ w4.heap.size := Nat.le_trans hst HG5.out.size
      have HLT := Kp.mk (show ∀ k, blk oa = some k → k < wt.heap.size from fun k e => (own_lt HL4'.out.row k e).2)
      clear CPj HL4'
      go_wp2_with (at_builtin; refine wpList_pushS tExs (by rfl) _ _ (by rfl) (t8 + 1) oa (j + 1) oc _ (by rfl) HL5.out.row 1 _ (by rfl) (by rfl) ?d1 ?d2 (by decide) hs5 ?d4)
      case d1 => simp [Value.oneCell']
      case d2 => omega
      case d4 =>
        intro oa2 oc2 w5 ho5 hg5 hn5
        have HL6 := Kp.mk (show ListR (t8 + 1) w5 (j + 2) ((p0 :: ps).take (j + 2)) oa2 oc2 (vs ++ [v4]) from by
          rw [HTK.out]
          exact HL5.out.push (w := wt) HV5.out hst HLT.out ho5 hg5 hn5)
        have HS6 := Kp.mk (HS5.out.keep hg5 (fun k e => by have := (own_lt HL5.out.row k e).1; exact ⟨by omega, by omega⟩))
        have HG6 := Kp.mk (show w1.grownBy w5 (some pb) from qgrown_step (grown_trans (grown_trans HG.out HG4.out) HG5.out) hg5 (fun q e => .inl (by rw [HZ1.out]; exact (own_lt HL5.out.row q e).1)))
        clear ho5 hg5 hn5 HL5 HS5 HV5 HG HG4 HG5
        go_wp2
        go_roundw
        case rel => exact ⟨j + 1, oa2, oc2, la5, lc5, vs ++ [v4], hlt, rfl, HL6, HS6, HG6⟩
        case measure => simp [lenV]; omega
    · obtain rfl : j = ps.length := by omega
      have HS' := Kp.mk (show PS w0 wr pb la3 lc3 rest from by
        have := HS.out
        rw [List.drop_length] at this
        simpa [tailW] using this)
      have CT := Kp.mk (takes_no w0 wr pb la3 lc3 [sg] rest HS'.out (fun e => (HR.out _ e).2 rfl))
      have HL4' := Kp.mk (show ListR (t8 + 1) wr (ps.length + 1) (p0 :: ps) oa oc vs from by
        have := HL.out
        rw [show (p0 :: ps).take (ps.length + 1) = p0 :: ps from List.take_of_length_le (by simp)] at this
        exact this)
      clear HS HS' HL
      go_upto_region 4 with (first
        | (go_at_call 28; refine CT.out.mono ?_; rintro e wt ⟨rfl, HS4, HB4⟩)
        | fail)
      have HG5 := Kp.mk (show w1.grownBy wt (some pb) from grown_trans HG.out (grown_of_below HB4.out))
      have HL5 := Kp.mk (HL4'.out.step (pb := pb) (grown_of_below HB4.out) (by omega))
      have hx0 := box_grow HBX.out HG5.out (fun e => by simp only [Option.some.injEq] at e; omega)
      clear CT k1 HG HB4 HL4' HBX
      by_cases h0 : ps.length = 0
      · have hn0 : ((ps.length : Int) + 1 == 1) = true := by rw [h0]; rfl
        obtain ⟨g, rfl, hgl, _⟩ := own_some HL5.out.row (by omega)
        have hvl := HL5.out.len
        obtain ⟨u, hu⟩ : ∃ u, vs.getD 0 ev0 = u := ⟨_, rfl⟩
        have h00 : 0 < vs.length := by omega
        have c := fun jj (hjj : jj < 7) => own_at exL_len HL5.out.row hvl 0 h00 jj hjj
        rw [← getD_at vs ev0 h00, hu] at c
        have c0 : wt.cell? ⟨g, 0, none⟩ = some (.int .i64 u.k) := by simpa [exL] using c 0 (by omega)
        have c1 : wt.cell? ⟨g, 1, none⟩ = some (.int .i64 u.a) := by simpa [exL] using c 1 (by omega)
        have c2 : wt.cell? ⟨g, 2, none⟩ = some (.int .i64 u.b) := by simpa [exL] using c 2 (by omega)
        have c3 : wt.cell? ⟨g, 3, none⟩ = some (.int .i64 u.c) := by simpa [exL] using c 3 (by omega)
        have c4 : wt.cell? ⟨g, 4, none⟩ = some (.int .i64 u.d) := by simpa [exL] using c 4 (by omega)
        have c5 : wt.cell? ⟨g, 5, none⟩ = some (.int .i64 u.x) := by simpa [exL] using c 5 (by omega)
        have c6 : wt.cell? ⟨g, 6, none⟩ = some (.slice u.sa u.n u.cap) := by simpa [exL] using c 6 (by omega)
        clear c
        have b0 : wt.cell? ⟨t8, 0, none⟩ = some (.int .i64 0) := hx0.cell 0 rfl
        have b1 : wt.cell? ⟨t8, 1, none⟩ = some (.int .i64 0) := hx0.cell 1 rfl
        have b2 : wt.cell? ⟨t8, 2, none⟩ = some (.int .i64 0) := hx0.cell 2 rfl
        have b3 : wt.cell? ⟨t8, 3, none⟩ = some (.int .i64 0) := hx0.cell 3 rfl
        have b4 : wt.cell? ⟨t8, 4, none⟩ = some (.int .i64 0) := hx0.cell 4 rfl
        have b5 : wt.cell? ⟨t8, 5, none⟩ = some (.int .i64 0) := hx0.cell 5 rfl
        have b6 : wt.cell? ⟨t8, 6, none⟩ = some (.slice none 0 0) := hx0.cell 6 rfl
        have q0' := hx0.free 0
        have q1' := hx0.free 1
        have q2' := hx0.free 2
        have q3' := hx0.free 3
        have q4' := hx0.free 4
        have q5' := hx0.free 5
        have q6' := hx0.free 6
        have HX9 := Kp.mk (st7_box hx0 (.int .i64 u.k) (.int .i64 u.a) (.int .i64 u.b) (.int .i64 u.c) (.int .i64 u.d) (.int .i64 u.x) (.slice u.sa u.n u.cap))
        have hg9 := st7_grown wt t8 (.int .i64 u.k) (.int .i64 u.a) (.int .i64 u.b) (.int .i64 u.c) (.int .i64 u.d) (.int .i64 u.x) (.slice u.sa u.n u.cap)
        have HL9 := Kp.mk ((HL5.out.step hg9 (by omega)).weak (B' := t8) (by omega))
        have HS9 := Kp.mk (HS4.out.keep hg9 (fun k e => by cases e; exact ⟨by omega, by omega⟩))
        have HG9 := Kp.mk (show w.grownBy _ (some pb) from qgrown_step (grown_trans (grown_of_below HA.out) HG5.out) hg9 (fun q e => .inl (by cases e; rw [HT8.out]; exact Nat.le_refl _)))
        clear hx0 hg9
        go_wp2
        clear b0 b1 b2 b3 b4 b5 b6 q0' q1' q2' q3' q4' q5' q6'
        generalize (((((((wt.setCell ⟨t8, 0, none⟩ (.int .i64 u.k)).setCell ⟨t8, 1, none⟩ (.int .i64 u.a)).setCell ⟨t8, 2, none⟩ (.int .i64 u.b)).setCell ⟨t8, 3, none⟩ (.int .i64 u.c)).setCell ⟨t8, 4, none⟩ (.int .i64 u.d)).setCell ⟨t8, 5, none⟩ (.int .i64 u.x)).setCell ⟨t8, 6, none⟩ (.slice u.sa u.n u.cap)) = w9 at *
        have z0 : w9.cell? ⟨t8, 0, none⟩ = some (.int .i64 u.k) := HX9.out.cell 0 rfl
        have z1 : w9.cell? ⟨t8, 1, none⟩ = some (.int .i64 u.a) := HX9.out.cell 1 rfl
        have z2 : w9.cell? ⟨t8, 2, none⟩ = some (.int .i64 u.b) := HX9.out.cell 2 rfl
        have z3 : w9.cell? ⟨t8, 3, none⟩ = some (.int .i64 u.c) := HX9.out.cell 3 rfl
        have z4 : w9.cell? ⟨t8, 4, none⟩ = some (.int .i64 u.d) := HX9.out.cell 4 rfl
        have z5 : w9.cell? ⟨t8, 5, none⟩ = some (.int .i64 u.x) := HX9.out.cell 5 rfl
        have z6 : w9.cell? ⟨t8, 6, none⟩ = some (.slice u.sa u.n u.cap) := HX9.out.cell 6 rfl
        refine bodyPost_ret (v := .agg #[.int .i64 u.k, .int .i64 u.a, .int .i64 u.b, .int .i64 u.c, .int .i64 u.d, .int .i64 u.x, .slice u.sa u.n u.cap]) (by simp [results, Tryd.results21, go_sem, z0, z1, z2, z3, z4, z5, z6]) rfl ?_
        exact ⟨u, vs, some ⟨g, 0, none⟩, oc, la3, lc3, rfl, ⟨by unfold listV; rw [if_pos h0, hu]⟩, by rw [HT8.out]; exact HL9, HS9, HG9⟩
      · have hn0 : ((ps.length : Int) + 1 == 1) = false := by rw [beq_eq_false_iff_ne]; omega
        have b0 : wt.cell? ⟨t8, 0, none⟩ = some (.int .i64 0) := hx0.cell 0 rfl
        have b1 : wt.cell? ⟨t8, 1, none⟩ = some (.int .i64 0) := hx0.cell 1 rfl
        have b2 : wt.cell? ⟨t8, 2, none⟩ = some (.int .i64 0) := hx0.cell 2 rfl
        have b3 : wt.cell? ⟨t8, 3, none⟩ = some (.int .i64 0) := hx0.cell 3 rfl
        have b4 : wt.cell? ⟨t8, 4, none⟩ = some (.int .i64 0) := hx0.cell 4 rfl
        have b5 : wt.cell? ⟨t8, 5, none⟩ = some (.int .i64 0) := hx0.cell 5 rfl
        have b6 : wt.cell? ⟨t8, 6, none⟩ = some (.slice none 0 0) := hx0.cell 6 rfl
        have q0' := hx0.free 0
        have q1' := hx0.free 1
        have q2' := hx0.free 2
        have q3' := hx0.free 3
        have q4' := hx0.free 4
        have q5' := hx0.free 5
        have q6' := hx0.free 6
        have HX9 := Kp.mk (st7_box hx0 (.int .i64 kind) (.int .i64 0) (.int .i64 0) (.int .i64 0) (.int .i64 0) (.int .i64 0) (.slice oa (ps.length + 1) oc))
        have hg9 := st7_grown wt t8 (.int .i64 kind) (.int .i64 0) (.int .i64 0) (.int .i64 0) (.int .i64 0) (.int .i64 0) (.slice oa (ps.length + 1) oc)
        have HL9 := Kp.mk ((HL5.out.step hg9 (by omega)).weak (B' := t8) (by omega))
        have HS9 := Kp.mk (HS4.out.keep hg9 (fun k e => by cases e; exact ⟨by omega, by omega⟩))
        have HG9 := Kp.mk (show w.grownBy _ (some pb) from qgrown_step (grown_trans (grown_of_below HA.out) HG5.out) hg9 (fun q e => .inl (by cases e; rw [HT8.out]; exact Nat.le_refl _)))
        clear hx0 hg9
        go_wp2
        clear b0 b1 b2 b3 b4 b5 b6 q0' q1' q2' q3' q4' q5' q6'
        generalize (((((((wt.setCell ⟨t8, 0, none⟩ (.int .i64 kind)).setCell ⟨t8, 1, none⟩ (.int .i64 0)).setCell ⟨t8, 2, none⟩ (.int .i64 0)).setCell ⟨t8, 3, none⟩ (.int .i64 0)).setCell ⟨t8, 4, none⟩ (.int .i64 0)).setCell ⟨t8, 5, none⟩ (.int .i64 0)).setCell ⟨t8, 6, none⟩ (.slice oa (ps.length + 1) oc)) = w9 at *
        have z0 : w9.cell? ⟨t8, 0, none⟩ = some (.int .i64 kind) := HX9.out.cell 0 rfl
        have z1 : w9.cell? ⟨t8, 1, none⟩ = some (.int .i64 0) := HX9.out.cell 1 rfl
        have z2 : w9.cell? ⟨t8, 2, none⟩ = some (.int .i64 0) := HX9.out.cell 2 rfl
        have z3 : w9.cell? ⟨t8, 3, none⟩ = some (.int .i64 0) := HX9.out.cell 3 rfl
        have z4 : w9.cell? ⟨t8, 4, none⟩ = some (.int .i64 0) := HX9.out.cell 4 rfl
        have z5 : w9.cell? ⟨t8, 5, none⟩ = some (.int .i64 0) := HX9.out.cell 5 rfl
        have z6 : w9.cell? ⟨t8, 6, none⟩ = some (.slice oa (ps.length + 1) oc) := HX9.out.cell 6 rfl
        refine bodyPost_ret (v := .agg #[.int .i64 kind, .int .i64 0, .int .i64 0, .int .i64 0, .int .i64 0, .int .i64 0, .slice oa (ps.length + 1) oc]) (by simp [results, Tryd.results21, go_sem, z0, z1, z2, z3, z4, z5, z6]) rfl ?_
        exact ⟨⟨kind, 0, 0, 0, 0, 0, oa, ps.length + 1, oc⟩, vs, oa, oc, la3, lc3, rfl, ⟨by unfold listV; rw [if_neg h0]⟩, by rw [HT8.out]; exact HL9, HS9, HG9⟩


end Go.Proofs.YtakabjkhcdkkjaaDoor
