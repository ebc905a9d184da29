import Derived.Test.YtedchegejalolaaGreatDoorMb10
import Derived.Test.YtedchegejalolaaGreatDoorMb2
import Derived.Shelf.Abstract
import Derived.Lib.AtoiErrMem
/- The parser: lists of parts. -/
namespace Go.Proofs.YtedchegejalolaaGreatDoor
set_option linter.unusedVariables false
open Go.RowKit Qk

theorem qgrown_step {wo wr w' : World} {r r' : Option Nat} (h : wo.grownBy wr r) (k : wr.grownBy w' r') (hr : ∀ q, r' = some q → wo.heap.size ≤ q ∨ r = some q) : wo.grownBy w' r :=
  ⟨k.os.trans h.os, k.tape.trans h.tape, k.output.trans h.output, Nat.le_trans h.size k.size, fun i hi hne => by
    refine (k.block i (Nat.lt_of_lt_of_le hi h.size) (fun e => ?_)).trans (h.block i hi hne)
    rcases hr i e.symm with h1 | h1
    · omega
    · exact hne h1.symm⟩
/-- A part is parsed by this method: these words are this expression, where no such word follows. -/
def PartC (w0 : World) (f : FuncId) (T : List Wd) (x : Ex) (stop : Wd → Prop) : Prop :=
  ∀ (w : World) (pb lc : Nat) (la : Option Addr) (rest : List Wd), (∀ t, rest.head? = some t → ¬ stop t) → PS w0 w pb la lc (T ++ rest) →
    Calls Tryz.prog f #[.pointer (some ⟨pb, 0, none⟩)] w fun e w' => ∃ (v : ExV) (la' : Option Addr) (lc' : Nat), e = .returned (.agg #[.int .i64 v.k, .int .i64 v.a, .int .i64 v.b, .int .i64 v.c, .int .i64 v.d, .int .i64 v.x, .slice v.sa v.n v.cap]) ∧ Kp (IsExB (fun k => w.heap.size ≤ k) w' x v) ∧ Kp (PS w0 w' pb la' lc' rest) ∧ Kp (w.grownBy w' (some pb))
/-- The words of further parts. -/
def tailW (s : Wd) : List (List Wd × Ex) → List Wd
  | [] => []
  | p :: r => [s] ++ p.1 ++ tailW s r
/-- The parts in memory: none lies in the row itself. -/
structure ListR (B : Nat) (w : World) (n : Nat) (xs : List (List Wd × Ex)) (oa : Option Addr) (oc : Nat) (vs : List ExV) : Prop where
  xlen : xs.length = n
  len : vs.length = n
  row : w.ownsRow B 83 7 (.slice oa n oc) n (flat exL vs)
  parts : ∀ i (h : i < xs.length), IsExB (fun k => B ≤ k ∧ blk oa ≠ some k) w (xs[i]).2 (vs.getD i ev0)
theorem ListR.step {B pb n : Nat} {w w' : World} {xs : List (List Wd × Ex)} {oa : Option Addr} {oc : Nat} {vs : List ExV} (h : ListR B w n xs oa oc vs) (hg : w.grownBy w' (some pb)) (hp : pb < B) : ListR B w' n xs oa oc vs :=
  ⟨h.xlen, h.len, own_keep h.row hg (fun k e e2 => by cases e; have := (own_lt h.row _ e2).1; omega), fun i hi => (h.parts i hi).keep (fun k hk hl => hg.block k hl (fun e => by cases e; omega)) hg.size (fun k hk _ => hk)⟩
theorem ListR.weak {B B' n : Nat} {w : World} {xs : List (List Wd × Ex)} {oa : Option Addr} {oc : Nat} {vs : List ExV} (h : ListR B w n xs oa oc vs) (hB : B' ≤ B) : ListR B' w n xs oa oc vs :=
  ⟨h.xlen, h.len, own_base h.row hB, fun i hi => (h.parts i hi).keep (fun k _ _ => rfl) (Nat.le_refl _) (fun k hk _ => ⟨Nat.le_trans hB hk.1, hk.2⟩)⟩
theorem flat_exL_app (vs : List ExV) (v : ExV) : flat exL (vs ++ [v]) = flat exL vs ++ exL v := by rw [flat_append]; simp [flat]
/-- The first part. -/
theorem ListR.first {B : Nat} {w : World} {p : List Wd × Ex} {v : ExV} (hv : IsExB (fun k => B ≤ k) w p.2 v) (hB : B ≤ w.heap.size) : ListR B (w.alloc (.cells (exL v).toArray 83)) 1 [p] (some ⟨w.heap.size, 0, none⟩) 1 [v] := by
  refine ⟨rfl, rfl, ⟨rfl, .inr ⟨w.heap.size, 1, _, rfl, hB, heap_alloc_new w _, Nat.le_refl _, by decide, rfl, by simp [flat, exL]⟩⟩, fun i hi => ?_⟩
  obtain rfl : i = 0 := by simp at hi; omega
  have hb := below_alloc (Nat.le_refl w.heap.size) (.cells (exL v).toArray 83)
  exact hv.keep (fun k _ hl => hb.block k hl) hb.size (fun k hk hl => ⟨hk, fun e => by simp only [blk, Option.map_some, Option.some.injEq] at e; omega⟩)
/-- One more part. -/
theorem ListR.push {B n : Nat} {w w1 w2 : World} {xs : List (List Wd × Ex)} {oa oa2 : Option Addr} {oc oc2 : Nat} {vs : List ExV} {p : List Wd × Ex} {v : ExV} (h : ListR B w1 n xs oa oc vs) (hv : IsExB (fun k => w.heap.size ≤ k) w1 p.2 v) (hB : B ≤ w.heap.size) (hlt : ∀ k, blk oa = some k → k < w.heap.size)
    (ho : w2.ownsRow B 83 7 (.slice oa2 (n + 1) oc2) (n + 1) (flat exL vs ++ exL v)) (hg : w1.grownBy w2 (blk oa)) (hn : NewOr w1 oa oa2) : ListR B w2 (n + 1) (xs ++ [p]) oa2 oc2 (vs ++ [v]) := by
  have key : ∀ {P : Nat → Prop} {x : Ex} {u : ExV}, IsExB P w1 x u → (∀ k, P k → B ≤ k ∧ blk oa ≠ some k) → IsExB (fun k => B ≤ k ∧ blk oa2 ≠ some k) w2 x u := fun hu hP => hu.keep (fun k hk hl => hg.block k hl (fun e => (hP k hk).2 e.symm)) hg.size (fun k hk hl => ⟨(hP k hk).1, fun e => by
    rcases hn with e2 | ⟨g, e2, hge⟩
    · rw [e2] at e; exact (hP k hk).2 e
    · rw [e2] at e; simp only [Option.some.injEq] at e; omega⟩)
  refine ⟨by simp [h.xlen], by simp [h.len], by simpa [flat_exL_app] using ho, fun i hi => ?_⟩
  rw [List.length_append] at hi
  simp only [List.length_cons, List.length_nil] at hi
  rcases Nat.lt_or_ge i xs.length with h1 | h1
  · rw [List.getElem_append_left h1, getD_at _ _ (by rw [List.length_append, h.len]; have := h.xlen; omega), List.getElem_append_left (by rw [h.len]; have := h.xlen; omega), ← getD_at vs ev0 (by rw [h.len]; have := h.xlen; omega)]
    exact key (h.parts i h1) (fun k hk => hk)
  · obtain rfl : i = xs.length := by omega
    have hxv : xs.length = vs.length := by rw [h.xlen, h.len]
    rw [List.getElem_append_right (Nat.le_refl _), getD_at _ _ (by rw [List.length_append]; simp; omega), List.getElem_append_right (by omega)]
    simp only [hxv, Nat.sub_self, List.getElem_cons_zero]
    exact key hv (fun k hk => ⟨Nat.le_trans hB hk, fun e => by have := hlt k e; omega⟩)
/-- What a list of parts is. -/
def listV (kind : Int) (n : Nat) (oa : Option Addr) (oc : Nat) (vs : List ExV) : ExV := if n = 0 then vs.getD 0 ev0 else ⟨kind, 0, 0, 0, 0, 0, oa, n + 1, oc⟩
def lenV : Value → Nat
  | .slice _ n _ => n
  | _ => 0

set_option maxRecDepth 100000 in
set_option maxHeartbeats 16000000 in
theorem list_one (w0 : World) (kind : Int) (sg : UInt8) (stop : Wd → Prop) (p0 : List Wd × Ex) (ps : List (List Wd × Ex)) (hP : ∀ p ∈ p0 :: ps, PartC w0 119 p.1 p.2 stop) (hsg : ¬ stop [sg]) (hn : ps.length ≤ 2)
    (w : World) (pb lc : Nat) (la : Option Addr) (rest : List Wd) (hr : ∀ t, rest.head? = some t → ¬ stop t ∧ t ≠ [sg]) (h : PS w0 w pb la lc (p0.1 ++ (tailW [sg] ps ++ rest))) :
    Calls Tryz.prog 92 #[.pointer (some ⟨pb, 0, none⟩), .int .i64 kind, str [sg], .func (.func 119) #[.pointer (some ⟨pb, 0, none⟩)] #[]] w fun e w' => ∃ (V : ExV) (vs : List ExV) (oa : Option Addr) (oc : Nat) (la' : Option Addr) (lc' : Nat),
      e = .returned (.agg #[.int .i64 V.k, .int .i64 V.a, .int .i64 V.b, .int .i64 V.c, .int .i64 V.d, .int .i64 V.x, .slice V.sa V.n V.cap]) ∧ Kp (V = listV kind ps.length oa oc vs) ∧ Kp (ListR w.heap.size w' (ps.length + 1) (p0 :: ps) oa oc vs) ∧ Kp (PS w0 w' pb la' lc' rest) ∧ Kp (w.grownBy w' (some pb)) := by
  have eg : ∀ args w, (callFunc 119 args).run Tryz.prog w = .ok (.enter 119 args) w := enters_of Tryz.func119 (by kernel_rfl) rfl
  have HP := Kp.mk hP
  have HR := Kp.mk hr
  have hw0 := h.bel.size
  have hpb : pb < w.heap.size := h.box.lt
  have ha := below_alloc (Nat.le_refl w.heap.size) (.cells #[.int .i64 0, .int .i64 0, .int .i64 0, .int .i64 0, .int .i64 0, .int .i64 0, .slice none 0 0] 83)
  have HA := Kp.mk ha
  have HBX := Kp.mk (Box.new w #[.int .i64 0, .int .i64 0, .int .i64 0, .int .i64 0, .int .i64 0, .int .i64 0, .slice none 0 0] 83)
  have HS := Kp.mk (h.later ha)
  obtain ⟨t8, ht8⟩ : ∃ t8, w.heap.size = t8 := ⟨_, rfl⟩
  obtain ⟨w1, hw1⟩ : ∃ w1, w.alloc (.cells #[.int .i64 0, .int .i64 0, .int .i64 0, .int .i64 0, .int .i64 0, .int .i64 0, .slice none 0 0] 83) = w1 := ⟨_, rfl⟩
  have hz1 : w1.heap.size = t8 + 1 := by rw [← hw1, alloc_size, ht8]
  rw [hw1] at HA HBX HS
  rw [ht8] at HBX
  have HZ1 := Kp.mk hz1
  have HT8 := Kp.mk ht8
  have CP := Kp.mk (HP.out p0 (by simp) w1 pb lc la _ (by
    intro t ht
    cases ps with
    | nil => exact (HR.out t (by simpa [tailW] using ht)).1
    | cons q r => simp [tailW] at ht; subst ht; exact hsg) HS.out)
  clear hP hr h ha hz1
  go_enter Tryz.func92, Tryz.ntmps92
  go_upto_region 1 with (fail)
  clear hw1 ht8
  go_wp2_with fail
  refine CP.out.mono ?_
  rintro e w2 ⟨v, la2, lc2, rfl, HV2, HS2, HG2⟩
  have hz2 := HG2.out.size
  have HL3 := Kp.mk (ListR.first (B := t8 + 1) (p := p0) (v := v) (by rw [← HZ1.out]; exact HV2.out) (by have := HZ1.out; omega))
  have hal := below_alloc (Nat.le_refl w2.heap.size) (.cells #[.int .i64 v.k, .int .i64 v.a, .int .i64 v.b, .int .i64 v.c, .int .i64 v.d, .int .i64 v.x, .slice v.sa v.n v.cap] 83)
  have HS3 := Kp.mk (HS2.out.later hal)
  have HG3 := Kp.mk (show w1.grownBy (w2.alloc (.cells #[.int .i64 v.k, .int .i64 v.a, .int .i64 v.b, .int .i64 v.c, .int .i64 v.d, .int .i64 v.x, .slice v.sa v.n v.cap] 83)) (some pb) from grown_trans HG2.out (grown_of_below hal))
  obtain ⟨w3, hw3⟩ : ∃ w3, w2.alloc (.cells #[.int .i64 v.k, .int .i64 v.a, .int .i64 v.b, .int .i64 v.c, .int .i64 v.d, .int .i64 v.x, .slice v.sa v.n v.cap] 83) = w3 := ⟨_, rfl⟩
  have HL4 := Kp.mk (show ListR (t8 + 1) w3 1 [p0] (some ⟨w2.heap.size, 0, none⟩) 1 [v] from by rw [← hw3]; exact HL3.out)
  rw [hw3] at HS3 HG3
  obtain ⟨q0, hq0⟩ : ∃ q0, w2.heap.size = q0 := ⟨_, rfl⟩
  rw [hq0] at HL4
  clear HV2 HS2 HG2 HL3 CP HS hal
  go_upto_region 2 with (fail)
  try rw [hw3]
  try simp only [hq0]
  clear hw3 hq0 hz2
  go_loopw [9] (fun lv wr => ∃ (j : Nat) (oa : Option Addr) (oc : Nat) (la : Option Addr) (lc : Nat) (vs : List ExV), j ≤ ps.length ∧ lv = .slice oa (j + 1) oc ∧ Kp (ListR (t8 + 1) wr (j + 1) ((p0 :: ps).take (j + 1)) oa oc vs) ∧ Kp (PS w0 wr pb la lc (tailW [sg] (ps.drop j) ++ rest)) ∧ Kp (w1.grownBy wr (some pb))) (fun v _ => 4 - lenV v)
  case atStart => exact ⟨0, _, 1, la2, lc2, [v], Nat.zero_le _, rfl, HL4, HS3, HG3⟩
  case round =>
    obtain ⟨j, oa, oc, la3, lc3, vs, hj, rfl, HL, HS, HG⟩ := hrel
    have k1 : wr.cell? ⟨pb, 1, none⟩ = some (.bool false) := HS.out.box.cell 1 rfl
    have hsr : t8 + 1 ≤ wr.heap.size := by rw [← HZ1.out]; exact HG.out.size
    have hT8 := HT8.out
    by_cases hlt : j < ps.length
    · have hdr : ps.drop j = ps[j] :: ps.drop (j + 1) := List.drop_eq_getElem_cons hlt
      have HS' := Kp.mk (show PS w0 wr pb la3 lc3 ([sg] :: (ps[j].1 ++ (tailW [sg] (ps.drop (j + 1)) ++ rest))) from by
        have := HS.out
        rw [hdr] at this
        simpa [tailW] using this)
      have CT := Kp.mk (takes_yes w0 wr pb la3 lc3 [sg] _ HS'.out)
      have HTK := Kp.mk (show (p0 :: ps).take (j + 2) = (p0 :: ps).take (j + 1) ++ [ps[j]] from by
        rw [List.take_succ_eq_append_getElem (by simp; omega)]; simp)
      have hmem : ps[j] ∈ p0 :: ps := List.mem_cons_of_mem _ (List.getElem_mem hlt)
      have HST := Kp.mk (show ∀ t, (tailW [sg] (ps.drop (j + 1)) ++ rest).head? = some t → ¬ stop t from fun t ht => by
        cases hd : ps.drop (j + 1) with
        | nil => rw [hd] at ht; exact (HR.out t (by simpa [tailW] using ht)).1
        | cons a r => rw [hd] at ht; simp [tailW] at ht; subst ht; exact hsg)
      clear HS HS' hdr
      generalize ps[j] = pj at *
      go_upto_region 3 with (first
        | (go_at_call 118; refine CT.out.mono ?_; rintro e wt ⟨la4, lc4, rfl, HS4, HG4⟩)
        | fail)
      have CPj := Kp.mk (HP.out pj hmem wt pb lc4 la4 _ HST.out HS4.out)
      have HL4' := Kp.mk (HL.out.step HG4.out (by omega))
      have hst : t8 + 1 ≤ wt.heap.size := Nat.le_trans hsr HG4.out.size
      clear CT HL k1 HS4
      go_wp2_with fail
      refine CPj.out.mono ?_
      rintro e w4 ⟨v4, la5, lc5, rfl, HV5, HS5, HG5⟩
      have HL5 := Kp.mk (HL4'.out.step HG5.out (by omega))
      have hs5 : t8 + 1 ≤ w4.heap.size := Nat.le_trans hst HG5.out.size
      have HLT := Kp.mk (show ∀ k, blk oa = some k → k < wt.heap.size from fun k e => (own_lt HL4'.out.row k e).2)
      clear CPj HL4'
      go_wp2_with (at_builtin; refine wpList_pushS tExs (by rfl) _ _ (by rfl) (t8 + 1) oa (j + 1) oc _ (by rfl) HL5.out.row 1 _ (by rfl) (by rfl) ?d1 ?d2 (by decide) hs5 ?d4)
      case d1 => simp [Value.oneCell']
      case d2 => omega
      case d4 =>
        intro oa2 oc2 w5 ho5 hg5 hn5
        have HL6 := Kp.mk (show ListR (t8 + 1) w5 (j + 2) ((p0 :: ps).take (j + 2)) oa2 oc2 (vs ++ [v4]) from by
          rw [HTK.out]
          exact HL5.out.push (w := wt) HV5.out hst HLT.out ho5 hg5 hn5)
        have HS6 := Kp.mk (HS5.out.keep hg5 (fun k e => by have := (own_lt HL5.out.row k e).1; exact ⟨by omega, by omega⟩))
        have HG6 := Kp.mk (show w1.grownBy w5 (some pb) from qgrown_step (grown_trans (grown_trans HG.out HG4.out) HG5.out) hg5 (fun q e => .inl (by rw [HZ1.out]; exact (own_lt HL5.out.row q e).1)))
        clear ho5 hg5 hn5 HL5 HS5 HV5 HG HG4 HG5
        go_wp2
        go_roundw
        case rel => exact ⟨j + 1, oa2, oc2, la5, lc5, vs ++ [v4], hlt, rfl, HL6, HS6, HG6⟩
        case measure => simp [lenV]; omega
    · obtain rfl : j = ps.length := by omega
      have HS' := Kp.mk (show PS w0 wr pb la3 lc3 rest from by
        have := HS.out
        rw [List.drop_length] at this
        simpa [tailW] using this)
      have CT := Kp.mk (takes_no w0 wr pb la3 lc3 [sg] rest HS'.out (fun e => (HR.out _ e).2 rfl))
      have HL4' := Kp.mk (show ListR (t8 + 1) wr (ps.length + 1) (p0 :: ps) oa oc vs from by
        have := HL.out
        rw [show (p0 :: ps).take (ps.length + 1) = p0 :: ps from List.take_of_length_le (by simp)] at this
        exact this)
      clear HS HS' HL
      go_upto_region 4 with (first
        | (go_at_call 118; refine CT.out.mono ?_; rintro e wt ⟨rfl, HS4, HB4⟩)
        | fail)
      have HG5 := Kp.mk (show w1.grownBy wt (some pb) from grown_trans HG.out (grown_of_below HB4.out))
      have HL5 := Kp.mk (HL4'.out.step (pb := pb) (grown_of_below HB4.out) (by omega))
      have hx0 := box_grow HBX.out HG5.out (fun e => by simp only [Option.some.injEq] at e; omega)
      clear CT k1 HG HB4 HL4' HBX
      by_cases h0 : ps.length = 0
      · have hn0 : ((ps.length : Int) + 1 == 1) = true := by rw [h0]; rfl
        obtain ⟨g, rfl, hgl, _⟩ := own_some HL5.out.row (by omega)
        have hvl := HL5.out.len
        obtain ⟨u, hu⟩ : ∃ u, vs.getD 0 ev0 = u := ⟨_, rfl⟩
        have h00 : 0 < vs.length := by omega
        have c := fun jj (hjj : jj < 7) => own_at exL_len HL5.out.row hvl 0 h00 jj hjj
        rw [← getD_at vs ev0 h00, hu] at c
        have c0 : wt.cell? ⟨g, 0, none⟩ = some (.int .i64 u.k) := by simpa [exL] using c 0 (by omega)
        have c1 : wt.cell? ⟨g, 1, none⟩ = some (.int .i64 u.a) := by simpa [exL] using c 1 (by omega)
        have c2 : wt.cell? ⟨g, 2, none⟩ = some (.int .i64 u.b) := by simpa [exL] using c 2 (by omega)
        have c3 : wt.cell? ⟨g, 3, none⟩ = some (.int .i64 u.c) := by simpa [exL] using c 3 (by omega)
        have c4 : wt.cell? ⟨g, 4, none⟩ = some (.int .i64 u.d) := by simpa [exL] using c 4 (by omega)
        have c5 : wt.cell? ⟨g, 5, none⟩ = some (.int .i64 u.x) := by simpa [exL] using c 5 (by omega)
        have c6 : wt.cell? ⟨g, 6, none⟩ = some (.slice u.sa u.n u.cap) := by simpa [exL] using c 6 (by omega)
        clear c
        have b0 : wt.cell? ⟨t8, 0, none⟩ = some (.int .i64 0) := hx0.cell 0 rfl
        have b1 : wt.cell? ⟨t8, 1, none⟩ = some (.int .i64 0) := hx0.cell 1 rfl
        have b2 : wt.cell? ⟨t8, 2, none⟩ = some (.int .i64 0) := hx0.cell 2 rfl
        have b3 : wt.cell? ⟨t8, 3, none⟩ = some (.int .i64 0) := hx0.cell 3 rfl
        have b4 : wt.cell? ⟨t8, 4, none⟩ = some (.int .i64 0) := hx0.cell 4 rfl
        have b5 : wt.cell? ⟨t8, 5, none⟩ = some (.int .i64 0) := hx0.cell 5 rfl
        have b6 : wt.cell? ⟨t8, 6, none⟩ = some (.slice none 0 0) := hx0.cell 6 rfl
        have q0' := hx0.free 0
        have q1' := hx0.free 1
        have q2' := hx0.free 2
        have q3' := hx0.free 3
        have q4' := hx0.free 4
        have q5' := hx0.free 5
        have q6' := hx0.free 6
        have HX9 := Kp.mk (st7_box hx0 (.int .i64 u.k) (.int .i64 u.a) (.int .i64 u.b) (.int .i64 u.c) (.int .i64 u.d) (.int .i64 u.x) (.slice u.sa u.n u.cap))
        have hg9 := st7_grown wt t8 (.int .i64 u.k) (.int .i64 u.a) (.int .i64 u.b) (.int .i64 u.c) (.int .i64 u.d) (.int .i64 u.x) (.slice u.sa u.n u.cap)
        have HL9 := Kp.mk ((HL5.out.step hg9 (by omega)).weak (B' := t8) (by omega))
        have HS9 := Kp.mk (HS4.out.keep hg9 (fun k e => by cases e; exact ⟨by omega, by omega⟩))
        have HG9 := Kp.mk (show w.grownBy _ (some pb) from qgrown_step (grown_trans (grown_of_below HA.out) HG5.out) hg9 (fun q e => .inl (by cases e; rw [HT8.out]; exact Nat.le_refl _)))
        clear hx0 hg9
        go_wp2
        clear b0 b1 b2 b3 b4 b5 b6 q0' q1' q2' q3' q4' q5' q6'
        generalize (((((((wt.setCell ⟨t8, 0, none⟩ (.int .i64 u.k)).setCell ⟨t8, 1, none⟩ (.int .i64 u.a)).setCell ⟨t8, 2, none⟩ (.int .i64 u.b)).setCell ⟨t8, 3, none⟩ (.int .i64 u.c)).setCell ⟨t8, 4, none⟩ (.int .i64 u.d)).setCell ⟨t8, 5, none⟩ (.int .i64 u.x)).setCell ⟨t8, 6, none⟩ (.slice u.sa u.n u.cap)) = w9 at *
        have z0 : w9.cell? ⟨t8, 0, none⟩ = some (.int .i64 u.k) := HX9.out.cell 0 rfl
        have z1 : w9.cell? ⟨t8, 1, none⟩ = some (.int .i64 u.a) := HX9.out.cell 1 rfl
        have z2 : w9.cell? ⟨t8, 2, none⟩ = some (.int .i64 u.b) := HX9.out.cell 2 rfl
        have z3 : w9.cell? ⟨t8, 3, none⟩ = some (.int .i64 u.c) := HX9.out.cell 3 rfl
        have z4 : w9.cell? ⟨t8, 4, none⟩ = some (.int .i64 u.d) := HX9.out.cell 4 rfl
        have z5 : w9.cell? ⟨t8, 5, none⟩ = some (.int .i64 u.x) := HX9.out.cell 5 rfl
        have z6 : w9.cell? ⟨t8, 6, none⟩ = some (.slice u.sa u.n u.cap) := HX9.out.cell 6 rfl
        refine bodyPost_ret (v := .agg #[.int .i64 u.k, .int .i64 u.a, .int .i64 u.b, .int .i64 u.c, .int .i64 u.d, .int .i64 u.x, .slice u.sa u.n u.cap]) (by simp [results, Tryz.results92, go_sem, z0, z1, z2, z3, z4, z5, z6]) rfl ?_
        exact ⟨u, vs, some ⟨g, 0, none⟩, oc, la3, lc3, rfl, ⟨by unfold listV; rw [if_pos h0, hu]⟩, by rw [HT8.out]; exact HL9, HS9, HG9⟩
      · have hn0 : ((ps.length : Int) + 1 == 1) = false := by rw [beq_eq_false_iff_ne]; omega
        have b0 : wt.cell? ⟨t8, 0, none⟩ = some (.int .i64 0) := hx0.cell 0 rfl
        have b1 : wt.cell? ⟨t8, 1, none⟩ = some (.int .i64 0) := hx0.cell 1 rfl
        have b2 : wt.cell? ⟨t8, 2, none⟩ = some (.int .i64 0) := hx0.cell 2 rfl
        have b3 : wt.cell? ⟨t8, 3, none⟩ = some (.int .i64 0) := hx0.cell 3 rfl
        have b4 : wt.cell? ⟨t8, 4, none⟩ = some (.int .i64 0) := hx0.cell 4 rfl
        have b5 : wt.cell? ⟨t8, 5, none⟩ = some (.int .i64 0) := hx0.cell 5 rfl
        have b6 : wt.cell? ⟨t8, 6, none⟩ = some (.slice none 0 0) := hx0.cell 6 rfl
        have q0' := hx0.free 0
        have q1' := hx0.free 1
        have q2' := hx0.free 2
        have q3' := hx0.free 3
        have q4' := hx0.free 4
        have q5' := hx0.free 5
        have q6' := hx0.free 6
        have HX9 := Kp.mk (st7_box hx0 (.int .i64 kind) (.int .i64 0) (.int .i64 0) (.int .i64 0) (.int .i64 0) (.int .i64 0) (.slice oa (ps.length + 1) oc))
        have hg9 := st7_grown wt t8 (.int .i64 kind) (.int .i64 0) (.int .i64 0) (.int .i64 0) (.int .i64 0) (.int .i64 0) (.slice oa (ps.length + 1) oc)
        have HL9 := Kp.mk ((HL5.out.step hg9 (by omega)).weak (B' := t8) (by omega))
        have HS9 := Kp.mk (HS4.out.keep hg9 (fun k e => by cases e; exact ⟨by omega, by omega⟩))
        have HG9 := Kp.mk (show w.grownBy _ (some pb) from qgrown_step (grown_trans (grown_of_below HA.out) HG5.out) hg9 (fun q e => .inl (by cases e; rw [HT8.out]; exact Nat.le_refl _)))
        clear hx0 hg9
        go_wp2
        clear b0 b1 b2 b3 b4 b5 b6 q0' q1' q2' q3' q4' q5' q6'
        generalize (((((((wt.setCell ⟨t8, 0, none⟩ (.int .i64 kind)).setCell ⟨t8, 1, none⟩ (.int .i64 0)).setCell ⟨t8, 2, none⟩ (.int .i64 0)).setCell ⟨t8, 3, none⟩ (.int .i64 0)).setCell ⟨t8, 4, none⟩ (.int .i64 0)).setCell ⟨t8, 5, none⟩ (.int .i64 0)).setCell ⟨t8, 6, none⟩ (.slice oa (ps.length + 1) oc)) = w9 at *
        have z0 : w9.cell? ⟨t8, 0, none⟩ = some (.int .i64 kind) := HX9.out.cell 0 rfl
        have z1 : w9.cell? ⟨t8, 1, none⟩ = some (.int .i64 0) := HX9.out.cell 1 rfl
        have z2 : w9.cell? ⟨t8, 2, none⟩ = some (.int .i64 0) := HX9.out.cell 2 rfl
        have z3 : w9.cell? ⟨t8, 3, none⟩ = some (.int .i64 0) := HX9.out.cell 3 rfl
        have z4 : w9.cell? ⟨t8, 4, none⟩ = some (.int .i64 0) := HX9.out.cell 4 rfl
        have z5 : w9.cell? ⟨t8, 5, none⟩ = some (.int .i64 0) := HX9.out.cell 5 rfl
        have z6 : w9.cell? ⟨t8, 6, none⟩ = some (.slice oa (ps.length + 1) oc) := HX9.out.cell 6 rfl
        refine bodyPost_ret (v := .agg #[.int .i64 kind, .int .i64 0, .int .i64 0, .int .i64 0, .int .i64 0, .int .i64 0, .slice oa (ps.length + 1) oc]) (by simp [results, Tryz.results92, go_sem, z0, z1, z2, z3, z4, z5, z6]) rfl ?_
        exact ⟨⟨kind, 0, 0, 0, 0, 0, oa, ps.length + 1, oc⟩, vs, oa, oc, la3, lc3, rfl, ⟨by unfold listV; rw [if_neg h0]⟩, by rw [HT8.out]; exact HL9, HS9, HG9⟩

set_option maxRecDepth 100000 in
set_option maxHeartbeats 16000000 in
theorem list_and (w0 : World) (kind : Int) (sg : UInt8) (stop : Wd → Prop) (p0 : List Wd × Ex) (ps : List (List Wd × Ex)) (hP : ∀ p ∈ p0 :: ps, PartC w0 93 p.1 p.2 stop) (hsg : ¬ stop [sg]) (hn : ps.length ≤ 2)
    (w : World) (pb lc : Nat) (la : Option Addr) (rest : List Wd) (hr : ∀ t, rest.head? = some t → ¬ stop t ∧ t ≠ [sg]) (h : PS w0 w pb la lc (p0.1 ++ (tailW [sg] ps ++ rest))) :
    Calls Tryz.prog 92 #[.pointer (some ⟨pb, 0, none⟩), .int .i64 kind, str [sg], .func (.func 93) #[.pointer (some ⟨pb, 0, none⟩)] #[]] w fun e w' => ∃ (V : ExV) (vs : List ExV) (oa : Option Addr) (oc : Nat) (la' : Option Addr) (lc' : Nat),
      e = .returned (.agg #[.int .i64 V.k, .int .i64 V.a, .int .i64 V.b, .int .i64 V.c, .int .i64 V.d, .int .i64 V.x, .slice V.sa V.n V.cap]) ∧ Kp (V = listV kind ps.length oa oc vs) ∧ Kp (ListR w.heap.size w' (ps.length + 1) (p0 :: ps) oa oc vs) ∧ Kp (PS w0 w' pb la' lc' rest) ∧ Kp (w.grownBy w' (some pb)) := by
  have eg : ∀ args w, (callFunc 93 args).run Tryz.prog w = .ok (.enter 93 args) w := enters_of Tryz.func93 (by kernel_rfl) rfl
  have HP := Kp.mk hP
  have HR := Kp.mk hr
  have hw0 := h.bel.size
  have hpb : pb < w.heap.size := h.box.lt
  have ha := below_alloc (Nat.le_refl w.heap.size) (.cells #[.int .i64 0, .int .i64 0, .int .i64 0, .int .i64 0, .int .i64 0, .int .i64 0, .slice none 0 0] 83)
  have HA := Kp.mk ha
  have HBX := Kp.mk (Box.new w #[.int .i64 0, .int .i64 0, .int .i64 0, .int .i64 0, .int .i64 0, .int .i64 0, .slice none 0 0] 83)
  have HS := Kp.mk (h.later ha)
  obtain ⟨t8, ht8⟩ : ∃ t8, w.heap.size = t8 := ⟨_, rfl⟩
  obtain ⟨w1, hw1⟩ : ∃ w1, w.alloc (.cells #[.int .i64 0, .int .i64 0, .int .i64 0, .int .i64 0, .int .i64 0, .int .i64 0, .slice none 0 0] 83) = w1 := ⟨_, rfl⟩
  have hz1 : w1.heap.size = t8 + 1 := by rw [← hw1, alloc_size, ht8]
  rw [hw1] at HA HBX HS
  rw [ht8] at HBX
  have HZ1 := Kp.mk hz1
  have HT8 := Kp.mk ht8
  have CP := Kp.mk (HP.out p0 (by simp) w1 pb lc la _ (by
    intro t ht
    cases ps with
    | nil => exact (HR.out t (by simpa [tailW] using ht)).1
    | cons q r => simp [tailW] at ht; subst ht; exact hsg) HS.out)
  clear hP hr h ha hz1
  go_enter Tryz.func92, Tryz.ntmps92
  go_upto_region 1 with (fail)
  clear hw1 ht8
  go_wp2_with fail
  refine CP.out.mono ?_
  rintro e w2 ⟨v, la2, lc2, rfl, HV2, HS2, HG2⟩
  have hz2 := HG2.out.size
  have HL3 := Kp.mk (ListR.first (B := t8 + 1) (p := p0) (v := v) (by rw [← HZ1.out]; exact HV2.out) (by have := HZ1.out; omega))
  have hal := below_alloc (Nat.le_refl w2.heap.size) (.cells #[.int .i64 v.k, .int .i64 v.a, .int .i64 v.b, .int .i64 v.c, .int .i64 v.d, .int .i64 v.x, .slice v.sa v.n v.cap] 83)
  have HS3 := Kp.mk (HS2.out.later hal)
  have HG3 := Kp.mk (show w1.grownBy (w2.alloc (.cells #[.int .i64 v.k, .int .i64 v.a, .int .i64 v.b, .int .i64 v.c, .int .i64 v.d, .int .i64 v.x, .slice v.sa v.n v.cap] 83)) (some pb) from grown_trans HG2.out (grown_of_below hal))
  obtain ⟨w3, hw3⟩ : ∃ w3, w2.alloc (.cells #[.int .i64 v.k, .int .i64 v.a, .int .i64 v.b, .int .i64 v.c, .int .i64 v.d, .int .i64 v.x, .slice v.sa v.n v.cap] 83) = w3 := ⟨_, rfl⟩
  have HL4 := Kp.mk (show ListR (t8 + 1) w3 1 [p0] (some ⟨w2.heap.size, 0, none⟩) 1 [v] from by rw [← hw3]; exact HL3.out)
  rw [hw3] at HS3 HG3
  obtain ⟨q0, hq0⟩ : ∃ q0, w2.heap.size = q0 := ⟨_, rfl⟩
  rw [hq0] at HL4
  clear HV2 HS2 HG2 HL3 CP HS hal
  go_upto_region 2 with (fail)
  try rw [hw3]
  try simp only [hq0]
  clear hw3 hq0 hz2
  go_loopw [9] (fun lv wr => ∃ (j : Nat) (oa : Option Addr) (oc : Nat) (la : Option Addr) (lc : Nat) (vs : List ExV), j ≤ ps.length ∧ lv = .slice oa (j + 1) oc ∧ Kp (ListR (t8 + 1) wr (j + 1) ((p0 :: ps).take (j + 1)) oa oc vs) ∧ Kp (PS w0 wr pb la lc (tailW [sg] (ps.drop j) ++ rest)) ∧ Kp (w1.grownBy wr (some pb))) (fun v _ => 4 - lenV v)
  case atStart => exact ⟨0, _, 1, la2, lc2, [v], Nat.zero_le _, rfl, HL4, HS3, HG3⟩
  case round =>
    obtain ⟨j, oa, oc, la3, lc3, vs, hj, rfl, HL, HS, HG⟩ := hrel
    have k1 : wr.cell? ⟨pb, 1, none⟩ = some (.bool false) := HS.out.box.cell 1 rfl
    have hsr : t8 + 1 ≤ wr.heap.size := by rw [← HZ1.out]; exact HG.out.size
    have hT8 := HT8.out
    by_cases hlt : j < ps.length
    · have hdr : ps.drop j = ps[j] :: ps.drop (j + 1) := List.drop_eq_getElem_cons hlt
      have HS' := Kp.mk (show PS w0 wr pb la3 lc3 ([sg] :: (ps[j].1 ++ (tailW [sg] (ps.drop (j + 1)) ++ rest))) from by
        have := HS.out
        rw [hdr] at this
        simpa [tailW] using this)
      have CT := Kp.mk (takes_yes w0 wr pb la3 lc3 [sg] _ HS'.out)
      have HTK := Kp.mk (show (p0 :: ps).take (j + 2) = (p0 :: ps).take (j + 1) ++ [ps[j]] from by
        rw [List.take_succ_eq_append_getElem (by simp; omega)]; simp)
      have hmem : ps[j] ∈ p0 :: ps := List.mem_cons_of_mem _ (List.getElem_mem hlt)
      have HST := Kp.mk (show ∀ t, (tailW [sg] (ps.drop (j + 1)) ++ rest).head? = some t → ¬ stop t from fun t ht => by
        cases hd : ps.drop (j + 1) with
        | nil => rw [hd] at ht; exact (HR.out t (by simpa [tailW] using ht)).1
        | cons a r => rw [hd] at ht; simp [tailW] at ht; subst ht; exact hsg)
      clear HS HS' hdr
      generalize ps[j] = pj at *
      go_upto_region 3 with (first
        | (go_at_call 118; refine CT.out.mono ?_; rintro e wt ⟨la4, lc4, rfl, HS4, HG4⟩)
        | fail)
      have CPj := Kp.mk (HP.out pj hmem wt pb lc4 la4 _ HST.out HS4.out)
      have HL4' := Kp.mk (HL.out.step HG4.out (by omega))
      have hst : t8 + 1 ≤ wt.heap.size := Nat.le_trans hsr HG4.out.size
      clear CT HL k1 HS4
      go_wp2_with fail
      refine CPj.out.mono ?_
      rintro e w4 ⟨v4, la5, lc5, rfl, HV5, HS5, HG5⟩
      have HL5 := Kp.mk (HL4'.out.step HG5.out (by omega))
      have hs5 : t8 + 1 ≤ w4.heap.size := Nat.le_trans hst HG5.out.size
      have HLT := Kp.mk (show ∀ k, blk oa = some k → k < wt.heap.size from fun k e => (own_lt HL4'.out.row k e).2)
      clear CPj HL4'
      go_wp2_with (at_builtin; refine wpList_pushS tExs (by rfl) _ _ (by rfl) (t8 + 1) oa (j + 1) oc _ (by rfl) HL5.out.row 1 _ (by rfl) (by rfl) ?d1 ?d2 (by decide) hs5 ?d4)
      case d1 => simp [Value.oneCell']
      case d2 => omega
      case d4 =>
        intro oa2 oc2 w5 ho5 hg5 hn5
        have HL6 := Kp.mk (show ListR (t8 + 1) w5 (j + 2) ((p0 :: ps).take (j + 2)) oa2 oc2 (vs ++ [v4]) from by
          rw [HTK.out]
          exact HL5.out.push (w := wt) HV5.out hst HLT.out ho5 hg5 hn5)
        have HS6 := Kp.mk (HS5.out.keep hg5 (fun k e => by have := (own_lt HL5.out.row k e).1; exact ⟨by omega, by omega⟩))
        have HG6 := Kp.mk (show w1.grownBy w5 (some pb) from qgrown_step (grown_trans (grown_trans HG.out HG4.out) HG5.out) hg5 (fun q e => .inl (by rw [HZ1.out]; exact (own_lt HL5.out.row q e).1)))
        clear ho5 hg5 hn5 HL5 HS5 HV5 HG HG4 HG5
        go_wp2
        go_roundw
        case rel => exact ⟨j + 1, oa2, oc2, la5, lc5, vs ++ [v4], hlt, rfl, HL6, HS6, HG6⟩
        case measure => simp [lenV]; omega
    · obtain rfl : j = ps.length := by omega
      have HS' := Kp.mk (show PS w0 wr pb la3 lc3 rest from by
        have := HS.out
        rw [List.drop_length] at this
        simpa [tailW] using this)
      have CT := Kp.mk (takes_no w0 wr pb la3 lc3 [sg] rest HS'.out (fun e => (HR.out _ e).2 rfl))
      have HL4' := Kp.mk (show ListR (t8 + 1) wr (ps.length + 1) (p0 :: ps) oa oc vs from by
        have := HL.out
        rw [show (p0 :: ps).take (ps.length + 1) = p0 :: ps from List.take_of_length_le (by simp)] at this
        exact this)
      clear HS HS' HL
      go_upto_region 4 with (first
        | (go_at_call 118; refine CT.out.mono ?_; rintro e wt ⟨rfl, HS4, HB4⟩)
        | fail)
      have HG5 := Kp.mk (show w1.grownBy wt (some pb) from grown_trans HG.out (grown_of_below HB4.out))
      have HL5 := Kp.mk (HL4'.out.step (pb := pb) (grown_of_below HB4.out) (by omega))
      have hx0 := box_grow HBX.out HG5.out (fun e => by simp only [Option.some.injEq] at e; omega)
      clear CT k1 HG HB4 HL4' HBX
      by_cases h0 : ps.length = 0
      · have hn0 : ((ps.length : Int) + 1 == 1) = true := by rw [h0]; rfl
        obtain ⟨g, rfl, hgl, _⟩ := own_some HL5.out.row (by omega)
        have hvl := HL5.out.len
        obtain ⟨u, hu⟩ : ∃ u, vs.getD 0 ev0 = u := ⟨_, rfl⟩
        have h00 : 0 < vs.length := by omega
        have c := fun jj (hjj : jj < 7) => own_at exL_len HL5.out.row hvl 0 h00 jj hjj
        rw [← getD_at vs ev0 h00, hu] at c
        have c0 : wt.cell? ⟨g, 0, none⟩ = some (.int .i64 u.k) := by simpa [exL] using c 0 (by omega)
        have c1 : wt.cell? ⟨g, 1, none⟩ = some (.int .i64 u.a) := by simpa [exL] using c 1 (by omega)
        have c2 : wt.cell? ⟨g, 2, none⟩ = some (.int .i64 u.b) := by simpa [exL] using c 2 (by omega)
        have c3 : wt.cell? ⟨g, 3, none⟩ = some (.int .i64 u.c) := by simpa [exL] using c 3 (by omega)
        have c4 : wt.cell? ⟨g, 4, none⟩ = some (.int .i64 u.d) := by simpa [exL] using c 4 (by omega)
        have c5 : wt.cell? ⟨g, 5, none⟩ = some (.int .i64 u.x) := by simpa [exL] using c 5 (by omega)
        have c6 : wt.cell? ⟨g, 6, none⟩ = some (.slice u.sa u.n u.cap) := by simpa [exL] using c 6 (by omega)
        clear c
        have b0 : wt.cell? ⟨t8, 0, none⟩ = some (.int .i64 0) := hx0.cell 0 rfl
        have b1 : wt.cell? ⟨t8, 1, none⟩ = some (.int .i64 0) := hx0.cell 1 rfl
        have b2 : wt.cell? ⟨t8, 2, none⟩ = some (.int .i64 0) := hx0.cell 2 rfl
        have b3 : wt.cell? ⟨t8, 3, none⟩ = some (.int .i64 0) := hx0.cell 3 rfl
        have b4 : wt.cell? ⟨t8, 4, none⟩ = some (.int .i64 0) := hx0.cell 4 rfl
        have b5 : wt.cell? ⟨t8, 5, none⟩ = some (.int .i64 0) := hx0.cell 5 rfl
        have b6 : wt.cell? ⟨t8, 6, none⟩ = some (.slice none 0 0) := hx0.cell 6 rfl
        have q0' := hx0.free 0
        have q1' := hx0.free 1
        have q2' := hx0.free 2
        have q3' := hx0.free 3
        have q4' := hx0.free 4
        have q5' := hx0.free 5
        have q6' := hx0.free 6
        have HX9 := Kp.mk (st7_box hx0 (.int .i64 u.k) (.int .i64 u.a) (.int .i64 u.b) (.int .i64 u.c) (.int .i64 u.d) (.int .i64 u.x) (.slice u.sa u.n u.cap))
        have hg9 := st7_grown wt t8 (.int .i64 u.k) (.int .i64 u.a) (.int .i64 u.b) (.int .i64 u.c) (.int .i64 u.d) (.int .i64 u.x) (.slice u.sa u.n u.cap)
        have HL9 := Kp.mk ((HL5.out.step hg9 (by omega)).weak (B' := t8) (by omega))
        have HS9 := Kp.mk (HS4.out.keep hg9 (fun k e => by cases e; exact ⟨by omega, by omega⟩))
        have HG9 := Kp.mk (show w.grownBy _ (some pb) from qgrown_step (grown_trans (grown_of_below HA.out) HG5.out) hg9 (fun q e => .inl (by cases e; rw [HT8.out]; exact Nat.le_refl _)))
        clear hx0 hg9
        go_wp2
        clear b0 b1 b2 b3 b4 b5 b6 q0' q1' q2' q3' q4' q5' q6'
        generalize (((((((wt.setCell ⟨t8, 0, none⟩ (.int .i64 u.k)).setCell ⟨t8, 1, none⟩ (.int .i64 u.a)).setCell ⟨t8, 2, none⟩ (.int .i64 u.b)).setCell ⟨t8, 3, none⟩ (.int .i64 u.c)).setCell ⟨t8, 4, none⟩ (.int .i64 u.d)).setCell ⟨t8, 5, none⟩ (.int .i64 u.x)).setCell ⟨t8, 6, none⟩ (.slice u.sa u.n u.cap)) = w9 at *
        have z0 : w9.cell? ⟨t8, 0, none⟩ = some (.int .i64 u.k) := HX9.out.cell 0 rfl
        have z1 : w9.cell? ⟨t8, 1, none⟩ = some (.int .i64 u.a) := HX9.out.cell 1 rfl
        have z2 : w9.cell? ⟨t8, 2, none⟩ = some (.int .i64 u.b) := HX9.out.cell 2 rfl
        have z3 : w9.cell? ⟨t8, 3, none⟩ = some (.int .i64 u.c) := HX9.out.cell 3 rfl
        have z4 : w9.cell? ⟨t8, 4, none⟩ = some (.int .i64 u.d) := HX9.out.cell 4 rfl
        have z5 : w9.cell? ⟨t8, 5, none⟩ = some (.int .i64 u.x) := HX9.out.cell 5 rfl
        have z6 : w9.cell? ⟨t8, 6, none⟩ = some (.slice u.sa u.n u.cap) := HX9.out.cell 6 rfl
        refine bodyPost_ret (v := .agg #[.int .i64 u.k, .int .i64 u.a, .int .i64 u.b, .int .i64 u.c, .int .i64 u.d, .int .i64 u.x, .slice u.sa u.n u.cap]) (by simp [results, Tryz.results92, go_sem, z0, z1, z2, z3, z4, z5, z6]) rfl ?_
        exact ⟨u, vs, some ⟨g, 0, none⟩, oc, la3, lc3, rfl, ⟨by unfold listV; rw [if_pos h0, hu]⟩, by rw [HT8.out]; exact HL9, HS9, HG9⟩
      · have hn0 : ((ps.length : Int) + 1 == 1) = false := by rw [beq_eq_false_iff_ne]; omega
        have b0 : wt.cell? ⟨t8, 0, none⟩ = some (.int .i64 0) := hx0.cell 0 rfl
        have b1 : wt.cell? ⟨t8, 1, none⟩ = some (.int .i64 0) := hx0.cell 1 rfl
        have b2 : wt.cell? ⟨t8, 2, none⟩ = some (.int .i64 0) := hx0.cell 2 rfl
        have b3 : wt.cell? ⟨t8, 3, none⟩ = some (.int .i64 0) := hx0.cell 3 rfl
        have b4 : wt.cell? ⟨t8, 4, none⟩ = some (.int .i64 0) := hx0.cell 4 rfl
        have b5 : wt.cell? ⟨t8, 5, none⟩ = some (.int .i64 0) := hx0.cell 5 rfl
        have b6 : wt.cell? ⟨t8, 6, none⟩ = some (.slice none 0 0) := hx0.cell 6 rfl
        have q0' := hx0.free 0
        have q1' := hx0.free 1
        have q2' := hx0.free 2
        have q3' := hx0.free 3
        have q4' := hx0.free 4
        have q5' := hx0.free 5
        have q6' := hx0.free 6
        have HX9 := Kp.mk (st7_box hx0 (.int .i64 kind) (.int .i64 0) (.int .i64 0) (.int .i64 0) (.int .i64 0) (.int .i64 0) (.slice oa (ps.length + 1) oc))
        have hg9 := st7_grown wt t8 (.int .i64 kind) (.int .i64 0) (.int .i64 0) (.int .i64 0) (.int .i64 0) (.int .i64 0) (.slice oa (ps.length + 1) oc)
        have HL9 := Kp.mk ((HL5.out.step hg9 (by omega)).weak (B' := t8) (by omega))
        have HS9 := Kp.mk (HS4.out.keep hg9 (fun k e => by cases e; exact ⟨by omega, by omega⟩))
        have HG9 := Kp.mk (show w.grownBy _ (some pb) from qgrown_step (grown_trans (grown_of_below HA.out) HG5.out) hg9 (fun q e => .inl (by cases e; rw [HT8.out]; exact Nat.le_refl _)))
        clear hx0 hg9
        go_wp2
        clear b0 b1 b2 b3 b4 b5 b6 q0' q1' q2' q3' q4' q5' q6'
        generalize (((((((wt.setCell ⟨t8, 0, none⟩ (.int .i64 kind)).setCell ⟨t8, 1, none⟩ (.int .i64 0)).setCell ⟨t8, 2, none⟩ (.int .i64 0)).setCell ⟨t8, 3, none⟩ (.int .i64 0)).setCell ⟨t8, 4, none⟩ (.int .i64 0)).setCell ⟨t8, 5, none⟩ (.int .i64 0)).setCell ⟨t8, 6, none⟩ (.slice oa (ps.length + 1) oc)) = w9 at *
        have z0 : w9.cell? ⟨t8, 0, none⟩ = some (.int .i64 kind) := HX9.out.cell 0 rfl
        have z1 : w9.cell? ⟨t8, 1, none⟩ = some (.int .i64 0) := HX9.out.cell 1 rfl
        have z2 : w9.cell? ⟨t8, 2, none⟩ = some (.int .i64 0) := HX9.out.cell 2 rfl
        have z3 : w9.cell? ⟨t8, 3, none⟩ = some (.int .i64 0) := HX9.out.cell 3 rfl
        have z4 : w9.cell? ⟨t8, 4, none⟩ = some (.int .i64 0) := HX9.out.cell 4 rfl
        have z5 : w9.cell? ⟨t8, 5, none⟩ = some (.int .i64 0) := HX9.out.cell 5 rfl
        have z6 : w9.cell? ⟨t8, 6, none⟩ = some (.slice oa (ps.length + 1) oc) := HX9.out.cell 6 rfl
        refine bodyPost_ret (v := .agg #[.int .i64 kind, .int .i64 0, .int .i64 0, .int .i64 0, .int .i64 0, .int .i64 0, .slice oa (ps.length + 1) oc]) (by simp [results, Tryz.results92, go_sem, z0, z1, z2, z3, z4, z5, z6]) rfl ?_
        exact ⟨⟨kind, 0, 0, 0, 0, 0, oa, ps.length + 1, oc⟩, vs, oa, oc, la3, lc3, rfl, ⟨by unfold listV; rw [if_neg h0]⟩, by rw [HT8.out]; exact HL9, HS9, HG9⟩

end Go.Proofs.YtedchegejalolaaGreatDoor

/- The parser: and, or. -/
namespace Go.Proofs.YtedchegejalolaaGreatDoor
set_option linter.unusedVariables false
open Go.RowKit Qk

set_option maxRecDepth 100000 in
set_option maxHeartbeats 16000000 in
theorem and_any (w0 : World) (stop : Wd → Prop) (p0 : List Wd × Ex) (ps : List (List Wd × Ex)) (hP : ∀ p ∈ p0 :: ps, PartC w0 119 p.1 p.2 stop) (hsg : ¬ stop [38]) (hn : ps.length ≤ 2)
    (w : World) (pb lc : Nat) (la : Option Addr) (rest : List Wd) (hr : ∀ t, rest.head? = some t → ¬ stop t ∧ t ≠ [38]) (h : PS w0 w pb la lc (p0.1 ++ (tailW [38] ps ++ rest))) :
    Calls Tryz.prog 93 #[.pointer (some ⟨pb, 0, none⟩)] w fun e w' => ∃ (V : ExV) (vs : List ExV) (oa : Option Addr) (oc : Nat) (la' : Option Addr) (lc' : Nat),
      e = .returned (.agg #[.int .i64 V.k, .int .i64 V.a, .int .i64 V.b, .int .i64 V.c, .int .i64 V.d, .int .i64 V.x, .slice V.sa V.n V.cap]) ∧ Kp (V = listV 3 ps.length oa oc vs) ∧ Kp (ListR w.heap.size w' (ps.length + 1) (p0 :: ps) oa oc vs) ∧ Kp (PS w0 w' pb la' lc' rest) ∧ Kp (w.grownBy w' (some pb)) := by
  have hpb : pb < w.heap.size := h.box.lt
  have hw0 := h.bel.size
  have ha := below_alloc (Nat.le_refl w.heap.size) (.cells #[.int .i64 0, .int .i64 0, .int .i64 0, .int .i64 0, .int .i64 0, .int .i64 0, .slice none 0 0] 83)
  have HBX := Kp.mk (Box.new w #[.int .i64 0, .int .i64 0, .int .i64 0, .int .i64 0, .int .i64 0, .int .i64 0, .slice none 0 0] 83)
  obtain ⟨t2, ht2⟩ : ∃ t2, w.heap.size = t2 := ⟨_, rfl⟩
  have HA := Kp.mk ha
  obtain ⟨w1, hw1⟩ : ∃ w1, w.alloc (.cells #[.int .i64 0, .int .i64 0, .int .i64 0, .int .i64 0, .int .i64 0, .int .i64 0, .slice none 0 0] 83) = w1 := ⟨_, rfl⟩
  have hz1 : w1.heap.size = t2 + 1 := by rw [← hw1, alloc_size, ht2]
  have hsl := h.later ha
  rw [hw1] at HA HBX hsl
  rw [ht2] at HBX
  have CL := Kp.mk (list_one w0 3 38 stop p0 ps hP hsg hn w1 pb lc la rest hr hsl)
  have HZ1 := Kp.mk hz1
  have HT2 := Kp.mk ht2
  clear hP hr h ha hz1 hsl hsg hn
  go_enter Tryz.func93, Tryz.ntmps93
  go_upto_region 1 with (fail)
  clear hw1 ht2
  go_wp2_with fail
  refine CL.out.mono ?_
  rintro e w2 ⟨V, vs, oa, oc, la2, lc2, rfl, HVV, HL, HS, HG⟩
  have hT2 := HT2.out
  have hx0 := box_grow HBX.out HG.out (fun e => by simp only [Option.some.injEq] at e; omega)
  have b0 : w2.cell? ⟨t2, 0, none⟩ = some (.int .i64 0) := hx0.cell 0 rfl
  have b1 : w2.cell? ⟨t2, 1, none⟩ = some (.int .i64 0) := hx0.cell 1 rfl
  have b2 : w2.cell? ⟨t2, 2, none⟩ = some (.int .i64 0) := hx0.cell 2 rfl
  have b3 : w2.cell? ⟨t2, 3, none⟩ = some (.int .i64 0) := hx0.cell 3 rfl
  have b4 : w2.cell? ⟨t2, 4, none⟩ = some (.int .i64 0) := hx0.cell 4 rfl
  have b5 : w2.cell? ⟨t2, 5, none⟩ = some (.int .i64 0) := hx0.cell 5 rfl
  have b6 : w2.cell? ⟨t2, 6, none⟩ = some (.slice none 0 0) := hx0.cell 6 rfl
  have q0 := hx0.free 0
  have q1 := hx0.free 1
  have q2 := hx0.free 2
  have q3 := hx0.free 3
  have q4 := hx0.free 4
  have q5 := hx0.free 5
  have q6 := hx0.free 6
  have HX9 := Kp.mk (st7_box hx0 (.int .i64 V.k) (.int .i64 V.a) (.int .i64 V.b) (.int .i64 V.c) (.int .i64 V.d) (.int .i64 V.x) (.slice V.sa V.n V.cap))
  have hg9 := st7_grown w2 t2 (.int .i64 V.k) (.int .i64 V.a) (.int .i64 V.b) (.int .i64 V.c) (.int .i64 V.d) (.int .i64 V.x) (.slice V.sa V.n V.cap)
  have HL9 := Kp.mk ((HL.out.step hg9 (by have := HZ1.out; omega)).weak (B' := t2) (by have := HZ1.out; omega))
  have HS9 := Kp.mk (HS.out.keep hg9 (fun k e => by cases e; exact ⟨by omega, by omega⟩))
  have HG9 := Kp.mk (show w.grownBy _ (some pb) from qgrown_step (grown_trans (grown_of_below HA.out) HG.out) hg9 (fun q e => .inl (by cases e; rw [HT2.out]; exact Nat.le_refl _)))
  clear hx0 hg9 CL HL HS HG hT2
  go_wp2
  clear b0 b1 b2 b3 b4 b5 b6 q0 q1 q2 q3 q4 q5 q6
  generalize (((((((w2.setCell ⟨t2, 0, none⟩ (.int .i64 V.k)).setCell ⟨t2, 1, none⟩ (.int .i64 V.a)).setCell ⟨t2, 2, none⟩ (.int .i64 V.b)).setCell ⟨t2, 3, none⟩ (.int .i64 V.c)).setCell ⟨t2, 4, none⟩ (.int .i64 V.d)).setCell ⟨t2, 5, none⟩ (.int .i64 V.x)).setCell ⟨t2, 6, none⟩ (.slice V.sa V.n V.cap)) = w9 at *
  have z0 : w9.cell? ⟨t2, 0, none⟩ = some (.int .i64 V.k) := HX9.out.cell 0 rfl
  have z1 : w9.cell? ⟨t2, 1, none⟩ = some (.int .i64 V.a) := HX9.out.cell 1 rfl
  have z2 : w9.cell? ⟨t2, 2, none⟩ = some (.int .i64 V.b) := HX9.out.cell 2 rfl
  have z3 : w9.cell? ⟨t2, 3, none⟩ = some (.int .i64 V.c) := HX9.out.cell 3 rfl
  have z4 : w9.cell? ⟨t2, 4, none⟩ = some (.int .i64 V.d) := HX9.out.cell 4 rfl
  have z5 : w9.cell? ⟨t2, 5, none⟩ = some (.int .i64 V.x) := HX9.out.cell 5 rfl
  have z6 : w9.cell? ⟨t2, 6, none⟩ = some (.slice V.sa V.n V.cap) := HX9.out.cell 6 rfl
  refine bodyPost_ret (v := .agg #[.int .i64 V.k, .int .i64 V.a, .int .i64 V.b, .int .i64 V.c, .int .i64 V.d, .int .i64 V.x, .slice V.sa V.n V.cap]) (by simp [results, Tryz.results93, go_sem, z0, z1, z2, z3, z4, z5, z6]) rfl ?_
  exact ⟨V, vs, oa, oc, la2, lc2, rfl, HVV, by rw [HT2.out]; exact HL9, HS9, HG9⟩

set_option maxRecDepth 100000 in
set_option maxHeartbeats 16000000 in
theorem or_any (w0 : World) (stop : Wd → Prop) (p0 : List Wd × Ex) (ps : List (List Wd × Ex)) (hP : ∀ p ∈ p0 :: ps, PartC w0 93 p.1 p.2 stop) (hsg : ¬ stop [124]) (hn : ps.length ≤ 2)
    (w : World) (pb lc : Nat) (la : Option Addr) (rest : List Wd) (hr : ∀ t, rest.head? = some t → ¬ stop t ∧ t ≠ [124]) (h : PS w0 w pb la lc (p0.1 ++ (tailW [124] ps ++ rest))) :
    Calls Tryz.prog 64 #[.pointer (some ⟨pb, 0, none⟩)] w fun e w' => ∃ (V : ExV) (vs : List ExV) (oa : Option Addr) (oc : Nat) (la' : Option Addr) (lc' : Nat),
      e = .returned (.agg #[.int .i64 V.k, .int .i64 V.a, .int .i64 V.b, .int .i64 V.c, .int .i64 V.d, .int .i64 V.x, .slice V.sa V.n V.cap]) ∧ Kp (V = listV 4 ps.length oa oc vs) ∧ Kp (ListR w.heap.size w' (ps.length + 1) (p0 :: ps) oa oc vs) ∧ Kp (PS w0 w' pb la' lc' rest) ∧ Kp (w.grownBy w' (some pb)) := by
  have hpb : pb < w.heap.size := h.box.lt
  have hw0 := h.bel.size
  have ha := below_alloc (Nat.le_refl w.heap.size) (.cells #[.int .i64 0, .int .i64 0, .int .i64 0, .int .i64 0, .int .i64 0, .int .i64 0, .slice none 0 0] 83)
  have HBX := Kp.mk (Box.new w #[.int .i64 0, .int .i64 0, .int .i64 0, .int .i64 0, .int .i64 0, .int .i64 0, .slice none 0 0] 83)
  obtain ⟨t2, ht2⟩ : ∃ t2, w.heap.size = t2 := ⟨_, rfl⟩
  have HA := Kp.mk ha
  obtain ⟨w1, hw1⟩ : ∃ w1, w.alloc (.cells #[.int .i64 0, .int .i64 0, .int .i64 0, .int .i64 0, .int .i64 0, .int .i64 0, .slice none 0 0] 83) = w1 := ⟨_, rfl⟩
  have hz1 : w1.heap.size = t2 + 1 := by rw [← hw1, alloc_size, ht2]
  have hsl := h.later ha
  rw [hw1] at HA HBX hsl
  rw [ht2] at HBX
  have CL := Kp.mk (list_and w0 4 124 stop p0 ps hP hsg hn w1 pb lc la rest hr hsl)
  have HZ1 := Kp.mk hz1
  have HT2 := Kp.mk ht2
  clear hP hr h ha hz1 hsl hsg hn
  go_enter Tryz.func64, Tryz.ntmps64
  go_upto_region 1 with (fail)
  clear hw1 ht2
  go_wp2_with fail
  refine CL.out.mono ?_
  rintro e w2 ⟨V, vs, oa, oc, la2, lc2, rfl, HVV, HL, HS, HG⟩
  have hT2 := HT2.out
  have hx0 := box_grow HBX.out HG.out (fun e => by simp only [Option.some.injEq] at e; omega)
  have b0 : w2.cell? ⟨t2, 0, none⟩ = some (.int .i64 0) := hx0.cell 0 rfl
  have b1 : w2.cell? ⟨t2, 1, none⟩ = some (.int .i64 0) := hx0.cell 1 rfl
  have b2 : w2.cell? ⟨t2, 2, none⟩ = some (.int .i64 0) := hx0.cell 2 rfl
  have b3 : w2.cell? ⟨t2, 3, none⟩ = some (.int .i64 0) := hx0.cell 3 rfl
  have b4 : w2.cell? ⟨t2, 4, none⟩ = some (.int .i64 0) := hx0.cell 4 rfl
  have b5 : w2.cell? ⟨t2, 5, none⟩ = some (.int .i64 0) := hx0.cell 5 rfl
  have b6 : w2.cell? ⟨t2, 6, none⟩ = some (.slice none 0 0) := hx0.cell 6 rfl
  have q0 := hx0.free 0
  have q1 := hx0.free 1
  have q2 := hx0.free 2
  have q3 := hx0.free 3
  have q4 := hx0.free 4
  have q5 := hx0.free 5
  have q6 := hx0.free 6
  have HX9 := Kp.mk (st7_box hx0 (.int .i64 V.k) (.int .i64 V.a) (.int .i64 V.b) (.int .i64 V.c) (.int .i64 V.d) (.int .i64 V.x) (.slice V.sa V.n V.cap))
  have hg9 := st7_grown w2 t2 (.int .i64 V.k) (.int .i64 V.a) (.int .i64 V.b) (.int .i64 V.c) (.int .i64 V.d) (.int .i64 V.x) (.slice V.sa V.n V.cap)
  have HL9 := Kp.mk ((HL.out.step hg9 (by have := HZ1.out; omega)).weak (B' := t2) (by have := HZ1.out; omega))
  have HS9 := Kp.mk (HS.out.keep hg9 (fun k e => by cases e; exact ⟨by omega, by omega⟩))
  have HG9 := Kp.mk (show w.grownBy _ (some pb) from qgrown_step (grown_trans (grown_of_below HA.out) HG.out) hg9 (fun q e => .inl (by cases e; rw [HT2.out]; exact Nat.le_refl _)))
  clear hx0 hg9 CL HL HS HG hT2
  go_wp2
  clear b0 b1 b2 b3 b4 b5 b6 q0 q1 q2 q3 q4 q5 q6
  generalize (((((((w2.setCell ⟨t2, 0, none⟩ (.int .i64 V.k)).setCell ⟨t2, 1, none⟩ (.int .i64 V.a)).setCell ⟨t2, 2, none⟩ (.int .i64 V.b)).setCell ⟨t2, 3, none⟩ (.int .i64 V.c)).setCell ⟨t2, 4, none⟩ (.int .i64 V.d)).setCell ⟨t2, 5, none⟩ (.int .i64 V.x)).setCell ⟨t2, 6, none⟩ (.slice V.sa V.n V.cap)) = w9 at *
  have z0 : w9.cell? ⟨t2, 0, none⟩ = some (.int .i64 V.k) := HX9.out.cell 0 rfl
  have z1 : w9.cell? ⟨t2, 1, none⟩ = some (.int .i64 V.a) := HX9.out.cell 1 rfl
  have z2 : w9.cell? ⟨t2, 2, none⟩ = some (.int .i64 V.b) := HX9.out.cell 2 rfl
  have z3 : w9.cell? ⟨t2, 3, none⟩ = some (.int .i64 V.c) := HX9.out.cell 3 rfl
  have z4 : w9.cell? ⟨t2, 4, none⟩ = some (.int .i64 V.d) := HX9.out.cell 4 rfl
  have z5 : w9.cell? ⟨t2, 5, none⟩ = some (.int .i64 V.x) := HX9.out.cell 5 rfl
  have z6 : w9.cell? ⟨t2, 6, none⟩ = some (.slice V.sa V.n V.cap) := HX9.out.cell 6 rfl
  refine bodyPost_ret (v := .agg #[.int .i64 V.k, .int .i64 V.a, .int .i64 V.b, .int .i64 V.c, .int .i64 V.d, .int .i64 V.x, .slice V.sa V.n V.cap]) (by simp [results, Tryz.results64, go_sem, z0, z1, z2, z3, z4, z5, z6]) rfl ?_
  exact ⟨V, vs, oa, oc, la2, lc2, rfl, HVV, by rw [HT2.out]; exact HL9, HS9, HG9⟩

end Go.Proofs.YtedchegejalolaaGreatDoor

/- The parser: numbers. -/
namespace Go.Proofs.YtedchegejalolaaGreatDoor
set_option linter.unusedVariables false
open Go.RowKit Qk

theorem atoi_dig : ∀ i : Fin 10, Lib.atoi [UInt8.ofNat (48 + i.val)] = some (i.val : Int) ∧ UInt8.ofNat (48 + i.val) ≠ 45 := by decide
theorem atoi_dig2 : ∀ i : Fin 100, 10 ≤ i.val → Lib.atoi [UInt8.ofNat (48 + i.val / 10), UInt8.ofNat (48 + i.val % 10)] = some (i.val : Int) ∧ UInt8.ofNat (48 + i.val / 10) ≠ 45 := by decide
theorem atoi_neg : ∀ i : Fin 10, 1 ≤ i.val → Lib.atoi [45, UInt8.ofNat (48 + i.val)] = some (-(i.val : Int)) := by decide
/-- Small numbers come back from their numerals. -/
theorem itoa_back {n : Int} (h1 : -10 < n) (h2 : n < 100) : ∃ c r, Lib.itoa n = c :: r ∧ r.length ≤ 1 ∧ Lib.atoi (Lib.itoa n) = some n := by
  rcases Int.lt_or_le n 0 with h | h
  · obtain ⟨u, rfl⟩ : ∃ u : Nat, n = -(u : Int) := ⟨n.natAbs, by omega⟩
    rw [Lib.itoa_neg u (by omega), Lib.decDigits_one (by omega)]
    exact ⟨_, _, rfl, by simp, atoi_neg ⟨u, by omega⟩ (by show 1 ≤ u; omega)⟩
  · obtain ⟨u, rfl⟩ : ∃ u : Nat, n = (u : Int) := ⟨n.toNat, by omega⟩
    rw [Lib.itoa_nonneg]
    by_cases h3 : u < 10
    · rw [Lib.decDigits_one h3]
      exact ⟨_, _, rfl, by simp, (atoi_dig ⟨u, h3⟩).1⟩
    · rw [Lib.decDigits_two h3 (by omega)]
      exact ⟨_, _, rfl, by simp, (atoi_dig2 ⟨u, by omega⟩ (by show 10 ≤ u; omega)).1⟩
theorem ext_one (c : UInt8) (r : List UInt8) : (⟨(c :: r).toArray⟩ : ByteArray).extract 0 1 = ⟨#[c]⟩ := by
  apply ByteArray.ext
  simp [ByteArray.extract, ByteArray.copySlice]
theorem ext_tail (c : UInt8) (r : List UInt8) : (⟨(c :: r).toArray⟩ : ByteArray).extract 1 (r.length + 1) = ⟨r.toArray⟩ := by
  apply ByteArray.ext
  simp [ByteArray.extract, ByteArray.copySlice]

set_option maxHeartbeats 1000000 in
theorem hasPrefix_any (c : UInt8) (r : List UInt8) (hr : r.length ≤ 100) (w : World) : Calls Tryz.prog 198 #[str (c :: r), str [45]] w fun e w' => e = .returned (.bool (c == 45)) ∧ w = w' := by
  have h1 := ext_one c r
  have hs : (⟨(c :: r).toArray⟩ : ByteArray).size = r.length + 1 := by show (c :: r).toArray.size = _; simp
  have hz : (1 : Int) ≤ (r.length : Int) + 1 := by omega
  go_enter Tryz.func198, Tryz.ntmps198
  go_wp2
  go_ret
  exact ⟨rfl, rfl⟩

set_option maxHeartbeats 1000000 in
theorem trimIn_any (c : UInt8) (r : List UInt8) (hr : r.length ≤ 100) (w : World) : Calls Tryz.prog 186 #[str (c :: r), str [45]] w fun e w' => e = .returned (str (if c = 45 then r else c :: r)) ∧ w = w' := by
  have h1 := ext_tail c r
  have hs : (⟨(c :: r).toArray⟩ : ByteArray).size = r.length + 1 := by show (c :: r).toArray.size = _; simp
  have hz : (1 : Int) ≤ (r.length : Int) + 1 := by omega
  have C := Kp.mk (fun W => hasPrefix_any c r hr W)
  by_cases hc : c = 45
  · rw [if_pos hc]
    rw [show (c == 45) = true from beq_iff_eq.2 hc] at C
    clear hc
    go_enter Tryz.func186, Tryz.ntmps186
    go_wp2_with ((go_at_call 198; refine (C.out _).mono ?_; rintro e w' ⟨rfl, rfl⟩))
    go_ret
    exact ⟨rfl, rfl⟩
  · rw [if_neg hc]
    rw [show (c == 45) = false by rw [beq_eq_false_iff_ne]; exact hc] at C
    clear hc
    go_enter Tryz.func186, Tryz.ntmps186
    go_wp2_with ((go_at_call 198; refine (C.out _).mono ?_; rintro e w' ⟨rfl, rfl⟩))
    go_ret
    exact ⟨rfl, rfl⟩
set_option maxHeartbeats 1000000 in
theorem trim_any (c : UInt8) (r : List UInt8) (hr : r.length ≤ 100) (w : World) : Calls Tryz.prog 175 #[str (c :: r), str [45]] w fun e w' => e = .returned (str (if c = 45 then r else c :: r)) ∧ w = w' := by
  have C := Kp.mk (fun W => trimIn_any c r hr W)
  generalize (if c = 45 then r else c :: r) = t at *
  go_enter Tryz.func175, Tryz.ntmps175
  go_wp2_with ((go_at_call 186; refine (C.out _).mono ?_; rintro e w' ⟨rfl, rfl⟩))
  go_ret
  exact ⟨rfl, rfl⟩

theorem bytes_below {W w' : World} (h : ∃ t, w' = Lib.bytesWorld W 5 t) : Below W.heap.size W w' := by
  obtain ⟨t, rfl⟩ := h
  exact Lib.bytesWorld_below W _ t
set_option maxRecDepth 100000 in
set_option maxHeartbeats 4000000 in
/-- The next word is a number. -/
theorem number_any (w0 w : World) (pb : Nat) (la : Option Addr) (lc : Nat) (n : Int) (R : List Wd) (h1 : -10 < n) (h2 : n < 100) (h : PS w0 w pb la lc (Lib.itoa n :: R)) :
    Calls Tryz.prog 152 #[.pointer (some ⟨pb, 0, none⟩)] w fun e w' => ∃ la' lc', e = .returned (.int .i64 n) ∧ Kp (PS w0 w' pb la' lc' R) ∧ Kp (w.grownBy w' (some pb)) := by
  obtain ⟨b, o, rfl, hc⟩ := h.head
  have k0 : w.cell? ⟨pb, 0, none⟩ = some (.slice (some ⟨b, o, none⟩) (R.length + 1) lc) := h.box.cell 0 rfl
  have hf := h.box.free 0
  have hlc := h.row.le
  simp only [List.length_cons] at hlc
  obtain ⟨c, r, hi, hr, ha⟩ := itoa_back h1 h2
  rw [hi] at ha hc
  have hsz : (⟨(c :: r).toArray⟩ : ByteArray).size ≤ 18 := str_size (by simp; omega)
  have CA := Kp.mk (fun W => Tryz.strconv_Atoi ⟨(c :: r).toArray⟩ n hsz (by simpa using ha) W)
  have CI := Kp.mk (fun W (hT : Tab W) => itoa_any n (by omega) (by omega) W hT)
  rw [hi] at CI
  have CT := Kp.mk (fun W => trim_any c r (by omega) W)
  have htl : (if c = 45 then r else c :: r).length ≤ 2 := by split <;> (try rw [List.length_cons]) <;> omega
  generalize (if c = 45 then r else c :: r) = t at *
  have htz : (t.length : Int) ≤ 7 := by omega
  have hts : (⟨t.toArray⟩ : ByteArray).size = t.length := by show t.toArray.size = _; simp
  have hor : (lc = 1 ∧ R = []) ∨ ¬ lc = 1 := by
    by_cases hc1 : lc = 1
    · exact .inl ⟨hc1, by rw [← List.length_eq_zero_iff]; omega⟩
    · exact .inr hc1
  rcases hor with ⟨rfl, rfl⟩ | hc1
  · rw [hi] at h
    obtain ⟨_, hp⟩ := h.tail0
    have HP := Kp.mk hp
    have HG := Kp.mk (grown_set w pb 0 (.slice (some ⟨b, o, none⟩) 0 0))
    have HTB := Kp.mk (hp.tabs)
    clear h hp hi ha h1 h2
    go_enter Tryz.func152, Tryz.ntmps152
    go_upto_region 6 with (fail)
    generalize w.setCell ⟨pb, 0, none⟩ (.slice (some ⟨b, o, none⟩) 0 0) = wp at *
    clear k0 hf hc
    go_wp2_with (first
      | (go_at_call 91; refine (CA.out _).mono ?_; rintro e w6 ⟨rfl, hb6⟩; have HB6 := Kp.mk (bytes_below hb6); clear hb6)
      | (go_at_call 55; refine (CI.out w6 (HTB.out.below HB6.out)).mono ?_; rintro e w7 ⟨rfl, hb7⟩; have HB7 := Kp.mk (below_step HB6.out hb7); clear hb7)
      | (go_at_call 175; refine (CT.out _).mono ?_; rintro e w8 ⟨rfl, rfl⟩)
      | fail)
    go_ret
    exact ⟨_, _, rfl, ⟨HP.out.later HB7.out⟩, ⟨grown_trans HG.out (grown_of_below HB7.out)⟩⟩
  · rw [hi] at h
    have hp := h.tail
    have HP := Kp.mk hp
    have HG := Kp.mk (grown_set w pb 0 (.slice (some ⟨b, o + 1, none⟩) R.length (lc - 1)))
    have HTB := Kp.mk (hp.tabs)
    have hcl : ¬ lc - 1 = 0 := by omega
    clear h hp hi ha h1 h2
    go_enter Tryz.func152, Tryz.ntmps152
    go_upto_region 6 with (fail)
    generalize w.setCell ⟨pb, 0, none⟩ (.slice (some ⟨b, o + 1, none⟩) R.length (lc - 1)) = wp at *
    clear k0 hf hc
    go_wp2_with (first
      | (go_at_call 91; refine (CA.out _).mono ?_; rintro e w6 ⟨rfl, hb6⟩; have HB6 := Kp.mk (bytes_below hb6); clear hb6)
      | (go_at_call 55; refine (CI.out w6 (HTB.out.below HB6.out)).mono ?_; rintro e w7 ⟨rfl, hb7⟩; have HB7 := Kp.mk (below_step HB6.out hb7); clear hb7)
      | (go_at_call 175; refine (CT.out _).mono ?_; rintro e w8 ⟨rfl, rfl⟩)
      | fail)
    go_ret
    exact ⟨_, _, rfl, ⟨HP.out.later HB7.out⟩, ⟨grown_trans HG.out (grown_of_below HB7.out)⟩⟩

end Go.Proofs.YtedchegejalolaaGreatDoor

/- The parser: one. -/
namespace Go.Proofs.YtedchegejalolaaGreatDoor
set_option linter.unusedVariables false
open Go.RowKit Qk

def noStop : Wd → Prop := fun _ => False
theorem ListR.sl {B n : Nat} {w : World} {xs : List (List Wd × Ex)} {oa : Option Addr} {oc : Nat} {vs : List ExV} (h : ListR B w n xs oa oc vs) : SlF exL 7 w oa n oc vs ∧ ∀ k, blk oa = some k → B ≤ k ∧ k < w.heap.size := ⟨own_slc h.row, own_lt h.row⟩
theorem IsExB.wk {P Q : Nat → Prop} {w : World} {x : Ex} {v : ExV} (h : IsExB P w x v) (hq : ∀ k, P k → Q k) : IsExB Q w x v := h.keep (fun _ _ _ => rfl) (Nat.le_refl _) (fun k hk _ => hq k hk)
theorem ListR.at {B n : Nat} {w : World} {xs : List (List Wd × Ex)} {oa : Option Addr} {oc : Nat} {vs : List ExV} (h : ListR B w n xs oa oc vs) (i : Nat) (hi : i < xs.length) : IsExB (fun k => B ≤ k) w (xs[i]).2 (vs.getD i ev0) := (h.parts i hi).wk (fun k hk => hk.1)
theorem ListR.isNot {B : Nat} {w : World} {p : List Wd × Ex} {oa : Option Addr} {oc : Nat} {vs : List ExV} (h : ListR B w 1 [p] oa oc vs) : IsExB (fun k => B ≤ k) w (.not p.2) ⟨5, 0, 0, 0, 0, 0, oa, 1, oc⟩ := by
  obtain ⟨a, ha⟩ : ∃ a, vs = [a] := by
    match vs, h.len with
    | [a], _ => exact ⟨a, rfl⟩
  subst ha
  exact ⟨oa, oc, a, rfl, h.sl.1, h.sl.2, h.at 0 (by simp)⟩
theorem ListR.isTwo {B : Nat} {w : World} {p q : List Wd × Ex} {oa : Option Addr} {oc : Nat} {vs : List ExV} (h : ListR B w 2 [p, q] oa oc vs) (o : Bool) : IsExB (fun k => B ≤ k) w (.two o p.2 q.2) ⟨Ex.ok o, 0, 0, 0, 0, 0, oa, 2, oc⟩ := by
  obtain ⟨a, b, ha⟩ := len_two h.len
  subst ha
  exact ⟨oa, oc, a, b, rfl, h.sl.1, h.sl.2, h.at 0 (by simp), h.at 1 (by simp)⟩
theorem ListR.isThree {B : Nat} {w : World} {p q r : List Wd × Ex} {oa : Option Addr} {oc : Nat} {vs : List ExV} (h : ListR B w 3 [p, q, r] oa oc vs) (o : Bool) : IsExB (fun k => B ≤ k) w (.three o p.2 q.2 r.2) ⟨Ex.ok o, 0, 0, 0, 0, 0, oa, 3, oc⟩ := by
  obtain ⟨a, b, c, ha⟩ := len_three h.len
  subst ha
  exact ⟨oa, oc, a, b, c, rfl, h.sl.1, h.sl.2, h.at 0 (by simp), h.at 1 (by simp), h.at 2 (by simp)⟩
/-- Storing the flag as it is. -/
theorem PS.flag {w0 w : World} {pb lc : Nat} {la : Option Addr} {T : List Wd} (h : PS w0 w pb la lc T) : PS w0 (w.setCell ⟨pb, 1, none⟩ (.bool false)) pb la lc T := by
  have hg := grown_set w pb 1 (.bool false)
  refine h.grown hg ?_ (h.row.keep hg (fun k e e2 => by cases e; have := h.lt _ e2; have := h.lo; omega)) h.lt
  have := box_put (i := 1) h.box (.bool false)
  simpa using this

set_option maxRecDepth 100000 in
set_option maxHeartbeats 16000000 in
theorem one_not (w0 : World) (T : List Wd) (x : Ex) (hH : PartC w0 119 T x noStop) : PartC w0 119 ([[33]] ++ T) (.not x) noStop := by
  intro w pb lc la rest hr h
  have hpb : pb < w.heap.size := h.box.lt
  have hw0 := h.bel.size
  have ha := below_alloc (Nat.le_refl w.heap.size) (.cells #[.int .i64 0, .int .i64 0, .int .i64 0, .int .i64 0, .int .i64 0, .int .i64 0, .slice none 0 0] 83)
  have HBX := Kp.mk (Box.new w #[.int .i64 0, .int .i64 0, .int .i64 0, .int .i64 0, .int .i64 0, .int .i64 0, .slice none 0 0] 83)
  obtain ⟨t2, ht2⟩ : ∃ t2, w.heap.size = t2 := ⟨_, rfl⟩
  have HA := Kp.mk ha
  obtain ⟨w1, hw1⟩ : ∃ w1, w.alloc (.cells #[.int .i64 0, .int .i64 0, .int .i64 0, .int .i64 0, .int .i64 0, .int .i64 0, .slice none 0 0] 83) = w1 := ⟨_, rfl⟩
  have hz1 : w1.heap.size = t2 + 1 := by rw [← hw1, alloc_size, ht2]
  have hsl := h.later ha
  rw [hw1] at HA HBX hsl
  rw [ht2] at HBX
  have HS1 := Kp.mk (show PS w0 w1 pb la lc ([33] :: (T ++ rest)) from by simpa using hsl)
  have HZ1 := Kp.mk hz1
  have HT2 := Kp.mk ht2
  have HH := Kp.mk hH
  have k1 : w1.cell? ⟨pb, 1, none⟩ = some (.bool false) := HS1.out.box.cell 1 rfl
  clear hH hr h ha hz1 hsl
  go_enter Tryz.func119, Tryz.ntmps119
  go_upto_region 3 with (fail)
  clear hw1 ht2
  have CT := Kp.mk (takes_yes w0 w1 pb la lc [33] (T ++ rest) HS1.out)
  go_wp2_with ((go_at_call 118; refine CT.out.mono ?_; rintro e wt ⟨la4, lc4, rfl, HS4, HG4⟩; have CP := Kp.mk (HH.out wt pb lc4 la4 rest (fun t _ h => h) HS4.out); have hzt := HG4.out.size))
  refine CP.out.mono ?_
  rintro e w3 ⟨v, la5, lc5, rfl, HV, HS5, HG5⟩
  have hT2 := HT2.out
  have hZ1 := HZ1.out
  have hz3 := HG5.out.size
  have HG15 := Kp.mk (show w.grownBy w3 (some pb) from grown_trans (grown_of_below HA.out) (grown_trans HG4.out HG5.out))
  have HL := Kp.mk (ListR.first (B := t2 + 1) (p := (T, x)) (HV.out.wk (fun k hk => by omega)) (by omega))
  have hal := below_alloc (Nat.le_refl w3.heap.size) (.cells #[.int .i64 v.k, .int .i64 v.a, .int .i64 v.b, .int .i64 v.c, .int .i64 v.d, .int .i64 v.x, .slice v.sa v.n v.cap] 83)
  have HBX3 := Kp.mk (box_grow HBX.out (grown_trans HG4.out HG5.out) (fun e => by simp only [Option.some.injEq] at e; omega))
  have hx0 := HBX3.out.alloc (.cells #[.int .i64 v.k, .int .i64 v.a, .int .i64 v.b, .int .i64 v.c, .int .i64 v.d, .int .i64 v.x, .slice v.sa v.n v.cap] 83)
  have b0 : (w3.alloc (.cells #[.int .i64 v.k, .int .i64 v.a, .int .i64 v.b, .int .i64 v.c, .int .i64 v.d, .int .i64 v.x, .slice v.sa v.n v.cap] 83)).cell? ⟨t2, 0, none⟩ = some (.int .i64 0) := hx0.cell 0 rfl
  have b1 : (w3.alloc (.cells #[.int .i64 v.k, .int .i64 v.a, .int .i64 v.b, .int .i64 v.c, .int .i64 v.d, .int .i64 v.x, .slice v.sa v.n v.cap] 83)).cell? ⟨t2, 1, none⟩ = some (.int .i64 0) := hx0.cell 1 rfl
  have b2 : (w3.alloc (.cells #[.int .i64 v.k, .int .i64 v.a, .int .i64 v.b, .int .i64 v.c, .int .i64 v.d, .int .i64 v.x, .slice v.sa v.n v.cap] 83)).cell? ⟨t2, 2, none⟩ = some (.int .i64 0) := hx0.cell 2 rfl
  have b3 : (w3.alloc (.cells #[.int .i64 v.k, .int .i64 v.a, .int .i64 v.b, .int .i64 v.c, .int .i64 v.d, .int .i64 v.x, .slice v.sa v.n v.cap] 83)).cell? ⟨t2, 3, none⟩ = some (.int .i64 0) := hx0.cell 3 rfl
  have b4 : (w3.alloc (.cells #[.int .i64 v.k, .int .i64 v.a, .int .i64 v.b, .int .i64 v.c, .int .i64 v.d, .int .i64 v.x, .slice v.sa v.n v.cap] 83)).cell? ⟨t2, 4, none⟩ = some (.int .i64 0) := hx0.cell 4 rfl
  have b5 : (w3.alloc (.cells #[.int .i64 v.k, .int .i64 v.a, .int .i64 v.b, .int .i64 v.c, .int .i64 v.d, .int .i64 v.x, .slice v.sa v.n v.cap] 83)).cell? ⟨t2, 5, none⟩ = some (.int .i64 0) := hx0.cell 5 rfl
  have b6 : (w3.alloc (.cells #[.int .i64 v.k, .int .i64 v.a, .int .i64 v.b, .int .i64 v.c, .int .i64 v.d, .int .i64 v.x, .slice v.sa v.n v.cap] 83)).cell? ⟨t2, 6, none⟩ = some (.slice none 0 0) := hx0.cell 6 rfl
  have q0 := hx0.free 0
  have q1 := hx0.free 1
  have q2 := hx0.free 2
  have q3 := hx0.free 3
  have q4 := hx0.free 4
  have q5 := hx0.free 5
  have q6 := hx0.free 6
  have HX9 := Kp.mk (st7_box hx0 (.int .i64 5) (.int .i64 0) (.int .i64 0) (.int .i64 0) (.int .i64 0) (.int .i64 0) (.slice (some ⟨w3.heap.size, 0, none⟩) 1 1))
  have hg9 := st7_grown (w3.alloc (.cells #[.int .i64 v.k, .int .i64 v.a, .int .i64 v.b, .int .i64 v.c, .int .i64 v.d, .int .i64 v.x, .slice v.sa v.n v.cap] 83)) t2 (.int .i64 5) (.int .i64 0) (.int .i64 0) (.int .i64 0) (.int .i64 0) (.int .i64 0) (.slice (some ⟨w3.heap.size, 0, none⟩) 1 1)
  have HS9 := Kp.mk ((HS5.out.later hal).keep hg9 (fun k e => by cases e; exact ⟨by omega, by omega⟩))
  have HG9 := Kp.mk (show w.grownBy _ (some pb) from qgrown_step (grown_trans HG15.out (grown_of_below hal)) hg9 (fun q e => .inl (by cases e; rw [hT2]; exact Nat.le_refl _)))
  have HL9 := Kp.mk ((HL.out.step hg9 (by omega)).weak (B' := t2) (by omega))
  clear hx0 hg9 hal CP CT HL HV HS5 HG5 HS4 HG4 HBX3 HBX k1
  go_wp2
  clear b0 b1 b2 b3 b4 b5 b6 q0 q1 q2 q3 q4 q5 q6
  generalize ((((((((w3.alloc (.cells #[.int .i64 v.k, .int .i64 v.a, .int .i64 v.b, .int .i64 v.c, .int .i64 v.d, .int .i64 v.x, .slice v.sa v.n v.cap] 83)).setCell ⟨t2, 0, none⟩ (.int .i64 5)).setCell ⟨t2, 1, none⟩ (.int .i64 0)).setCell ⟨t2, 2, none⟩ (.int .i64 0)).setCell ⟨t2, 3, none⟩ (.int .i64 0)).setCell ⟨t2, 4, none⟩ (.int .i64 0)).setCell ⟨t2, 5, none⟩ (.int .i64 0)).setCell ⟨t2, 6, none⟩ (.slice (some ⟨w3.heap.size, 0, none⟩) 1 1)) = w9 at *
  have z0 : w9.cell? ⟨t2, 0, none⟩ = some (.int .i64 5) := HX9.out.cell 0 rfl
  have z1 : w9.cell? ⟨t2, 1, none⟩ = some (.int .i64 0) := HX9.out.cell 1 rfl
  have z2 : w9.cell? ⟨t2, 2, none⟩ = some (.int .i64 0) := HX9.out.cell 2 rfl
  have z3 : w9.cell? ⟨t2, 3, none⟩ = some (.int .i64 0) := HX9.out.cell 3 rfl
  have z4 : w9.cell? ⟨t2, 4, none⟩ = some (.int .i64 0) := HX9.out.cell 4 rfl
  have z5 : w9.cell? ⟨t2, 5, none⟩ = some (.int .i64 0) := HX9.out.cell 5 rfl
  have z6 : w9.cell? ⟨t2, 6, none⟩ = some (.slice (some ⟨w3.heap.size, 0, none⟩) 1 1) := HX9.out.cell 6 rfl
  refine bodyPost_ret (v := .agg #[.int .i64 5, .int .i64 0, .int .i64 0, .int .i64 0, .int .i64 0, .int .i64 0, .slice (some ⟨w3.heap.size, 0, none⟩) 1 1]) (by simp [results, Tryz.results119, go_sem, z0, z1, z2, z3, z4, z5, z6]) rfl ?_
  exact ⟨⟨5, 0, 0, 0, 0, 0, some ⟨w3.heap.size, 0, none⟩, 1, 1⟩, la5, lc5, rfl, ⟨by rw [hT2]; exact HL9.out.isNot⟩, HS9, HG9⟩

set_option maxRecDepth 100000 in
set_option maxHeartbeats 16000000 in
theorem one_paren (w0 : World) (stop : Wd → Prop) (hs : ¬ stop [41]) (T : List Wd) (x : Ex) (hH : PartC w0 64 T x stop) : PartC w0 119 ([[40]] ++ T ++ [[41]]) x noStop := by
  intro w pb lc la rest hr h
  have hpb : pb < w.heap.size := h.box.lt
  have hw0 := h.bel.size
  have ha := below_alloc (Nat.le_refl w.heap.size) (.cells #[.int .i64 0, .int .i64 0, .int .i64 0, .int .i64 0, .int .i64 0, .int .i64 0, .slice none 0 0] 83)
  have HBX := Kp.mk (Box.new w #[.int .i64 0, .int .i64 0, .int .i64 0, .int .i64 0, .int .i64 0, .int .i64 0, .slice none 0 0] 83)
  obtain ⟨t2, ht2⟩ : ∃ t2, w.heap.size = t2 := ⟨_, rfl⟩
  have HA := Kp.mk ha
  obtain ⟨w1, hw1⟩ : ∃ w1, w.alloc (.cells #[.int .i64 0, .int .i64 0, .int .i64 0, .int .i64 0, .int .i64 0, .int .i64 0, .slice none 0 0] 83) = w1 := ⟨_, rfl⟩
  have hz1 : w1.heap.size = t2 + 1 := by rw [← hw1, alloc_size, ht2]
  have hsl := h.later ha
  rw [hw1] at HA HBX hsl
  rw [ht2] at HBX
  have HS1 := Kp.mk (show PS w0 w1 pb la lc ([40] :: (T ++ ([41] :: rest))) from by simpa using hsl)
  have HZ1 := Kp.mk hz1
  have HT2 := Kp.mk ht2
  have HH := Kp.mk hH
  have k1 : w1.cell? ⟨pb, 1, none⟩ = some (.bool false) := HS1.out.box.cell 1 rfl
  clear hH hr h ha hz1 hsl
  go_enter Tryz.func119, Tryz.ntmps119
  go_upto_region 3 with (fail)
  clear hw1 ht2
  have CT := Kp.mk (takes_no w0 w1 pb la lc [33] ([40] :: (T ++ ([41] :: rest))) HS1.out (by simp))
  go_wp2_with fail
  refine CT.out.mono ?_
  rintro e w2 ⟨rfl, HS2, HB2⟩
  have CT2 := Kp.mk (takes_yes w0 w2 pb la lc [40] (T ++ ([41] :: rest)) HS2.out)
  clear CT
  go_wp2_with fail
  refine CT2.out.mono ?_
  rintro e w3 ⟨la4, lc4, rfl, HS3, HG3⟩
  have HG13 := Kp.mk (show w1.grownBy w3 (some pb) from grown_trans (grown_of_below HB2.out) HG3.out)
  have CP := Kp.mk (HH.out w3 pb lc4 la4 ([41] :: rest) (fun t ht h => by simp only [List.head?_cons, Option.some.injEq] at ht; rw [← ht] at h; exact hs h) HS3.out)
  clear CT2 HS2 HB2 HG3 HS3 k1
  go_wp2_with fail
  refine CP.out.mono ?_
  rintro e w4 ⟨v, la5, lc5, rfl, HV, HS4, HG4⟩
  have hT2 := HT2.out
  have hZ1 := HZ1.out
  have hz13 := HG13.out.size
  have hz4 := HG4.out.size
  have HG14 := Kp.mk (show w.grownBy w4 (some pb) from grown_trans (grown_of_below HA.out) (grown_trans HG13.out HG4.out))
  have hx0 := box_grow HBX.out (grown_trans HG13.out HG4.out) (fun e => by simp only [Option.some.injEq] at e; omega)
  have b0 : w4.cell? ⟨t2, 0, none⟩ = some (.int .i64 0) := hx0.cell 0 rfl
  have b1 : w4.cell? ⟨t2, 1, none⟩ = some (.int .i64 0) := hx0.cell 1 rfl
  have b2 : w4.cell? ⟨t2, 2, none⟩ = some (.int .i64 0) := hx0.cell 2 rfl
  have b3 : w4.cell? ⟨t2, 3, none⟩ = some (.int .i64 0) := hx0.cell 3 rfl
  have b4 : w4.cell? ⟨t2, 4, none⟩ = some (.int .i64 0) := hx0.cell 4 rfl
  have b5 : w4.cell? ⟨t2, 5, none⟩ = some (.int .i64 0) := hx0.cell 5 rfl
  have b6 : w4.cell? ⟨t2, 6, none⟩ = some (.slice none 0 0) := hx0.cell 6 rfl
  have q0 := hx0.free 0
  have q1 := hx0.free 1
  have q2 := hx0.free 2
  have q3 := hx0.free 3
  have q4 := hx0.free 4
  have q5 := hx0.free 5
  have q6 := hx0.free 6
  have HX5 := Kp.mk (st7_box hx0 (.int .i64 v.k) (.int .i64 v.a) (.int .i64 v.b) (.int .i64 v.c) (.int .i64 v.d) (.int .i64 v.x) (.slice v.sa v.n v.cap))
  have hg9 := st7_grown w4 t2 (.int .i64 v.k) (.int .i64 v.a) (.int .i64 v.b) (.int .i64 v.c) (.int .i64 v.d) (.int .i64 v.x) (.slice v.sa v.n v.cap)
  have HS5 := Kp.mk (HS4.out.keep hg9 (fun k e => by cases e; exact ⟨by omega, by omega⟩))
  have HG5 := Kp.mk (show w.grownBy _ (some pb) from qgrown_step HG14.out hg9 (fun q e => .inl (by cases e; rw [hT2]; exact Nat.le_refl _)))
  have HV5 := Kp.mk (show IsExB (fun k => t2 + 1 ≤ k) _ x v from HV.out.keep (Q := fun k => t2 + 1 ≤ k) (fun k hk hl => hg9.block k hl (fun e => by cases e; omega)) hg9.size (fun k hk _ => by omega))
  clear hx0 hg9 CP HV HS4 HG4 HG13 HG14
  go_upto_region 7 with (fail)
  clear b0 b1 b2 b3 b4 b5 b6 q0 q1 q2 q3 q4 q5 q6
  generalize (((((((w4.setCell ⟨t2, 0, none⟩ (.int .i64 v.k)).setCell ⟨t2, 1, none⟩ (.int .i64 v.a)).setCell ⟨t2, 2, none⟩ (.int .i64 v.b)).setCell ⟨t2, 3, none⟩ (.int .i64 v.c)).setCell ⟨t2, 4, none⟩ (.int .i64 v.d)).setCell ⟨t2, 5, none⟩ (.int .i64 v.x)).setCell ⟨t2, 6, none⟩ (.slice v.sa v.n v.cap)) = w5 at *
  have k1 : w5.cell? ⟨pb, 1, none⟩ = some (.bool false) := HS5.out.box.cell 1 rfl
  have CT := Kp.mk (takes_yes w0 w5 pb la5 lc5 [41] rest HS5.out)
  go_wp2_with fail
  refine CT.out.mono ?_
  rintro e w6 ⟨la6, lc6, rfl, HS6, HG6⟩
  have f1 := HS6.out.box.free 1
  have c1 := HS6.out.box.cell 1 rfl
  go_upto_region 17 with (fail)
  have HS7 := Kp.mk HS6.out.flag
  have HG7 := Kp.mk (show w5.grownBy (w6.setCell ⟨pb, 1, none⟩ (.bool false)) (some pb) from grown_trans HG6.out (grown_set w6 pb 1 _))
  clear k1 f1 c1 CT HS6 HG6
  generalize w6.setCell ⟨pb, 1, none⟩ (.bool false) = w7 at *
  have hx0 := box_grow HX5.out HG7.out (fun e => by simp only [Option.some.injEq] at e; omega)
  have b0 : w7.cell? ⟨t2, 0, none⟩ = some (.int .i64 v.k) := hx0.cell 0 rfl
  have b1 : w7.cell? ⟨t2, 1, none⟩ = some (.int .i64 v.a) := hx0.cell 1 rfl
  have b2 : w7.cell? ⟨t2, 2, none⟩ = some (.int .i64 v.b) := hx0.cell 2 rfl
  have b3 : w7.cell? ⟨t2, 3, none⟩ = some (.int .i64 v.c) := hx0.cell 3 rfl
  have b4 : w7.cell? ⟨t2, 4, none⟩ = some (.int .i64 v.d) := hx0.cell 4 rfl
  have b5 : w7.cell? ⟨t2, 5, none⟩ = some (.int .i64 v.x) := hx0.cell 5 rfl
  have b6 : w7.cell? ⟨t2, 6, none⟩ = some (.slice v.sa v.n v.cap) := hx0.cell 6 rfl
  have q0 := hx0.free 0
  have q1 := hx0.free 1
  have q2 := hx0.free 2
  have q3 := hx0.free 3
  have q4 := hx0.free 4
  have q5 := hx0.free 5
  have q6 := hx0.free 6
  have HX9 := Kp.mk (st7_box hx0 (.int .i64 v.k) (.int .i64 v.a) (.int .i64 v.b) (.int .i64 v.c) (.int .i64 v.d) (.int .i64 v.x) (.slice v.sa v.n v.cap))
  have hg9 := st7_grown w7 t2 (.int .i64 v.k) (.int .i64 v.a) (.int .i64 v.b) (.int .i64 v.c) (.int .i64 v.d) (.int .i64 v.x) (.slice v.sa v.n v.cap)
  have HS9 := Kp.mk (HS7.out.keep hg9 (fun k e => by cases e; exact ⟨by omega, by omega⟩))
  have HG9 := Kp.mk (show w.grownBy _ (some pb) from qgrown_step (grown_trans HG5.out HG7.out) hg9 (fun q e => .inl (by cases e; rw [hT2]; exact Nat.le_refl _)))
  have HV7 := Kp.mk (show IsExB (fun k => t2 + 1 ≤ k) w7 x v from HV5.out.keep (Q := fun k => t2 + 1 ≤ k) (fun k hk hl => HG7.out.block k hl (fun e => by cases e; omega)) HG7.out.size (fun k hk _ => hk))
  have HV9 := Kp.mk (show IsExB (fun k => t2 ≤ k) _ x v from HV7.out.keep (Q := fun k => t2 ≤ k) (fun k hk hl => hg9.block k hl (fun e => by cases e; omega)) hg9.size (fun k hk _ => by omega))
  clear hx0 hg9 HX5 HS5 HG5 HS7 HG7 HV5 HV7
  go_wp2
  clear b0 b1 b2 b3 b4 b5 b6 q0 q1 q2 q3 q4 q5 q6
  generalize (((((((w7.setCell ⟨t2, 0, none⟩ (.int .i64 v.k)).setCell ⟨t2, 1, none⟩ (.int .i64 v.a)).setCell ⟨t2, 2, none⟩ (.int .i64 v.b)).setCell ⟨t2, 3, none⟩ (.int .i64 v.c)).setCell ⟨t2, 4, none⟩ (.int .i64 v.d)).setCell ⟨t2, 5, none⟩ (.int .i64 v.x)).setCell ⟨t2, 6, none⟩ (.slice v.sa v.n v.cap)) = w9 at *
  have z0 : w9.cell? ⟨t2, 0, none⟩ = some (.int .i64 v.k) := HX9.out.cell 0 rfl
  have z1 : w9.cell? ⟨t2, 1, none⟩ = some (.int .i64 v.a) := HX9.out.cell 1 rfl
  have z2 : w9.cell? ⟨t2, 2, none⟩ = some (.int .i64 v.b) := HX9.out.cell 2 rfl
  have z3 : w9.cell? ⟨t2, 3, none⟩ = some (.int .i64 v.c) := HX9.out.cell 3 rfl
  have z4 : w9.cell? ⟨t2, 4, none⟩ = some (.int .i64 v.d) := HX9.out.cell 4 rfl
  have z5 : w9.cell? ⟨t2, 5, none⟩ = some (.int .i64 v.x) := HX9.out.cell 5 rfl
  have z6 : w9.cell? ⟨t2, 6, none⟩ = some (.slice v.sa v.n v.cap) := HX9.out.cell 6 rfl
  refine bodyPost_ret (v := .agg #[.int .i64 v.k, .int .i64 v.a, .int .i64 v.b, .int .i64 v.c, .int .i64 v.d, .int .i64 v.x, .slice v.sa v.n v.cap]) (by simp [results, Tryz.results119, go_sem, z0, z1, z2, z3, z4, z5, z6]) rfl ?_
  exact ⟨v, la6, lc6, rfl, ⟨by rw [hT2]; exact HV9.out⟩, HS9, HG9⟩

set_option maxRecDepth 100000 in
set_option maxHeartbeats 16000000 in
theorem one_w (w0 : World) (x : Int) (h1 : -10 < x) (h2 : x < 100) (stop : Wd → Prop) : PartC w0 119 [[119], Lib.itoa x] (.hv x) stop := by
  have hH : True := trivial
  intro w pb lc la rest hr h
  have hpb : pb < w.heap.size := h.box.lt
  have hw0 := h.bel.size
  have ha := below_alloc (Nat.le_refl w.heap.size) (.cells #[.int .i64 0, .int .i64 0, .int .i64 0, .int .i64 0, .int .i64 0, .int .i64 0, .slice none 0 0] 83)
  have HBX := Kp.mk (Box.new w #[.int .i64 0, .int .i64 0, .int .i64 0, .int .i64 0, .int .i64 0, .int .i64 0, .slice none 0 0] 83)
  obtain ⟨t2, ht2⟩ : ∃ t2, w.heap.size = t2 := ⟨_, rfl⟩
  have HA := Kp.mk ha
  obtain ⟨w1, hw1⟩ : ∃ w1, w.alloc (.cells #[.int .i64 0, .int .i64 0, .int .i64 0, .int .i64 0, .int .i64 0, .int .i64 0, .slice none 0 0] 83) = w1 := ⟨_, rfl⟩
  have hz1 : w1.heap.size = t2 + 1 := by rw [← hw1, alloc_size, ht2]
  have hsl := h.later ha
  rw [hw1] at HA HBX hsl
  rw [ht2] at HBX
  have HS1 := Kp.mk (show PS w0 w1 pb la lc ([119] :: (Lib.itoa x :: rest)) from by simpa using hsl)
  have HZ1 := Kp.mk hz1
  have HT2 := Kp.mk ht2
  have HH := Kp.mk hH
  have k1 : w1.cell? ⟨pb, 1, none⟩ = some (.bool false) := HS1.out.box.cell 1 rfl
  clear hH hr h ha hz1 hsl
  go_enter Tryz.func119, Tryz.ntmps119
  go_upto_region 3 with (fail)
  clear hw1 ht2
  have CT0 := Kp.mk (takes_no w0 w1 pb la lc [33] ([119] :: (Lib.itoa x :: rest)) HS1.out (by simp))
  go_wp2_with fail
  refine CT0.out.mono ?_
  rintro e w2 ⟨rfl, HS2, HB2⟩
  clear CT0
  have CT1 := Kp.mk (takes_no w0 w2 pb la lc [40] ([119] :: (Lib.itoa x :: rest)) HS2.out (by simp))
  go_wp2_with fail
  refine CT1.out.mono ?_
  rintro e w3 ⟨rfl, HS3, HB3⟩
  clear CT1
  have CT2 := Kp.mk (takes_no w0 w3 pb la lc [105, 110] ([119] :: (Lib.itoa x :: rest)) HS3.out (by simp))
  go_wp2_with fail
  refine CT2.out.mono ?_
  rintro e w4 ⟨rfl, HS4, HB4⟩
  clear CT2
  have HG14 := Kp.mk (show w1.grownBy w4 (some pb) from grown_trans (grown_trans (grown_of_below HB2.out) (grown_of_below HB3.out)) (grown_of_below HB4.out))
  have CT := Kp.mk (takes_yes w0 w4 pb la lc [119] (Lib.itoa x :: rest) HS4.out)
  clear HS1 HS2 HS3 HS4 HB2 HB3 HB4 k1
  go_wp2_with fail
  refine CT.out.mono ?_
  rintro e w5 ⟨la5, lc5, rfl, HS5, HG5⟩
  have CN := Kp.mk (number_any w0 w5 pb la5 lc5 x rest h1 h2 HS5.out)
  clear CT
  go_wp2_with fail
  refine CN.out.mono ?_
  rintro e w6 ⟨la6, lc6, rfl, HS6, HG6⟩
  have hT2 := HT2.out
  have hZ1 := HZ1.out
  have HG16 := Kp.mk (show w1.grownBy w6 (some pb) from grown_trans (grown_trans HG14.out HG5.out) HG6.out)
  have hz16 := HG16.out.size
  have HBX6 := Kp.mk (box_grow HBX.out HG16.out (fun e => by simp only [Option.some.injEq] at e; omega))
  have hx6 := HBX6.out
  have b0 : w6.cell? ⟨t2, 0, none⟩ = some (.int .i64 0) := hx6.cell 0 rfl
  have b1 : w6.cell? ⟨t2, 1, none⟩ = some (.int .i64 0) := hx6.cell 1 rfl
  have b2 : w6.cell? ⟨t2, 2, none⟩ = some (.int .i64 0) := hx6.cell 2 rfl
  have b3 : w6.cell? ⟨t2, 3, none⟩ = some (.int .i64 0) := hx6.cell 3 rfl
  have b4 : w6.cell? ⟨t2, 4, none⟩ = some (.int .i64 0) := hx6.cell 4 rfl
  have b5 : w6.cell? ⟨t2, 5, none⟩ = some (.int .i64 0) := hx6.cell 5 rfl
  have b6 : w6.cell? ⟨t2, 6, none⟩ = some (.slice none 0 0) := hx6.cell 6 rfl
  have q0 := hx6.free 0
  have q1 := hx6.free 1
  have q2 := hx6.free 2
  have q3 := hx6.free 3
  have q4 := hx6.free 4
  have q5 := hx6.free 5
  have q6 := hx6.free 6
  have HX7 := Kp.mk (show Box ((w6.setCell ⟨t2, 0, none⟩ (.int .i64 2)).setCell ⟨t2, 5, none⟩ (.int .i64 x)) t2 #[.int .i64 2, .int .i64 0, .int .i64 0, .int .i64 0, .int .i64 0, .int .i64 x, .slice none 0 0] 83 from by
    have := box_put (i := 5) (box_put (i := 0) hx6 (.int .i64 2)) (.int .i64 x)
    simpa using this)
  have hg7 := grown_trans (grown_set w6 t2 0 (.int .i64 2)) (grown_set (w6.setCell ⟨t2, 0, none⟩ (.int .i64 2)) t2 5 (.int .i64 x))
  have HS7 := Kp.mk (HS6.out.keep hg7 (fun k e => by cases e; exact ⟨by omega, by omega⟩))
  have HG7 := Kp.mk (show w.grownBy _ (some pb) from qgrown_step (grown_trans (grown_of_below HA.out) HG16.out) hg7 (fun q e => .inl (by cases e; rw [hT2]; exact Nat.le_refl _)))
  clear hx6 hg7 CN HBX6 HBX HS5 HG5 HS6 HG6 HG14 HG16
  go_upto_region 17 with (fail)
  clear b0 b1 b2 b3 b4 b5 b6 q0 q1 q2 q3 q4 q5 q6
  generalize (w6.setCell ⟨t2, 0, none⟩ (.int .i64 2)).setCell ⟨t2, 5, none⟩ (.int .i64 x) = w7 at *
  have hx0 := HX7.out
  have b0 : w7.cell? ⟨t2, 0, none⟩ = some (.int .i64 2) := hx0.cell 0 rfl
  have b1 : w7.cell? ⟨t2, 1, none⟩ = some (.int .i64 0) := hx0.cell 1 rfl
  have b2 : w7.cell? ⟨t2, 2, none⟩ = some (.int .i64 0) := hx0.cell 2 rfl
  have b3 : w7.cell? ⟨t2, 3, none⟩ = some (.int .i64 0) := hx0.cell 3 rfl
  have b4 : w7.cell? ⟨t2, 4, none⟩ = some (.int .i64 0) := hx0.cell 4 rfl
  have b5 : w7.cell? ⟨t2, 5, none⟩ = some (.int .i64 x) := hx0.cell 5 rfl
  have b6 : w7.cell? ⟨t2, 6, none⟩ = some (.slice none 0 0) := hx0.cell 6 rfl
  have q0 := hx0.free 0
  have q1 := hx0.free 1
  have q2 := hx0.free 2
  have q3 := hx0.free 3
  have q4 := hx0.free 4
  have q5 := hx0.free 5
  have q6 := hx0.free 6
  have HX9 := Kp.mk (st7_box hx0 (.int .i64 2) (.int .i64 0) (.int .i64 0) (.int .i64 0) (.int .i64 0) (.int .i64 x) (.slice none 0 0))
  have hg9 := st7_grown w7 t2 (.int .i64 2) (.int .i64 0) (.int .i64 0) (.int .i64 0) (.int .i64 0) (.int .i64 x) (.slice none 0 0)
  have HS9 := Kp.mk (HS7.out.keep hg9 (fun k e => by cases e; exact ⟨by omega, by omega⟩))
  have HG9 := Kp.mk (show w.grownBy _ (some pb) from qgrown_step HG7.out hg9 (fun q e => .inl (by cases e; rw [hT2]; exact Nat.le_refl _)))
  clear hx0 hg9 HX7 HS7 HG7
  go_wp2
  clear b0 b1 b2 b3 b4 b5 b6 q0 q1 q2 q3 q4 q5 q6
  generalize (((((((w7.setCell ⟨t2, 0, none⟩ (.int .i64 2)).setCell ⟨t2, 1, none⟩ (.int .i64 0)).setCell ⟨t2, 2, none⟩ (.int .i64 0)).setCell ⟨t2, 3, none⟩ (.int .i64 0)).setCell ⟨t2, 4, none⟩ (.int .i64 0)).setCell ⟨t2, 5, none⟩ (.int .i64 x)).setCell ⟨t2, 6, none⟩ (.slice none 0 0)) = w9 at *
  have z0 : w9.cell? ⟨t2, 0, none⟩ = some (.int .i64 2) := HX9.out.cell 0 rfl
  have z1 : w9.cell? ⟨t2, 1, none⟩ = some (.int .i64 0) := HX9.out.cell 1 rfl
  have z2 : w9.cell? ⟨t2, 2, none⟩ = some (.int .i64 0) := HX9.out.cell 2 rfl
  have z3 : w9.cell? ⟨t2, 3, none⟩ = some (.int .i64 0) := HX9.out.cell 3 rfl
  have z4 : w9.cell? ⟨t2, 4, none⟩ = some (.int .i64 0) := HX9.out.cell 4 rfl
  have z5 : w9.cell? ⟨t2, 5, none⟩ = some (.int .i64 x) := HX9.out.cell 5 rfl
  have z6 : w9.cell? ⟨t2, 6, none⟩ = some (.slice none 0 0) := HX9.out.cell 6 rfl
  refine bodyPost_ret (v := .agg #[.int .i64 2, .int .i64 0, .int .i64 0, .int .i64 0, .int .i64 0, .int .i64 x, .slice none 0 0]) (by simp [results, Tryz.results119, go_sem, z0, z1, z2, z3, z4, z5, z6]) rfl ?_
  exact ⟨⟨2, 0, 0, 0, 0, x, none, 0, 0⟩, la6, lc6, rfl, ⟨rfl⟩, HS9, HG9⟩

/-- After so many numbers. -/
structure InS (w0 w : World) (pb t2 pq : Nat) (a b c d : Int) (rest : List Wd) (k : Nat) (wr : World) (la : Option Addr) (lc : Nat) : Prop where
  ptr : Box wr pq #[.pointer (some ⟨t2, 1, none⟩), .pointer (some ⟨t2, 2, none⟩), .pointer (some ⟨t2, 3, none⟩), .pointer (some ⟨t2, 4, none⟩)] 151
  gr : w.grownBy wr (some pb)
  at0 : k = 0 → Box wr t2 #[.int .i64 1, .int .i64 0, .int .i64 0, .int .i64 0, .int .i64 0, .int .i64 0, .slice none 0 0] 83 ∧ PS w0 wr pb la lc (Lib.itoa a :: Lib.itoa b :: Lib.itoa c :: Lib.itoa d :: rest)
  at1 : k = 1 → Box wr t2 #[.int .i64 1, .int .i64 a, .int .i64 0, .int .i64 0, .int .i64 0, .int .i64 0, .slice none 0 0] 83 ∧ PS w0 wr pb la lc (Lib.itoa b :: Lib.itoa c :: Lib.itoa d :: rest)
  at2 : k = 2 → Box wr t2 #[.int .i64 1, .int .i64 a, .int .i64 b, .int .i64 0, .int .i64 0, .int .i64 0, .slice none 0 0] 83 ∧ PS w0 wr pb la lc (Lib.itoa c :: Lib.itoa d :: rest)
  at3 : k = 3 → Box wr t2 #[.int .i64 1, .int .i64 a, .int .i64 b, .int .i64 c, .int .i64 0, .int .i64 0, .slice none 0 0] 83 ∧ PS w0 wr pb la lc (Lib.itoa d :: rest)
  at4 : k = 4 → Box wr t2 #[.int .i64 1, .int .i64 a, .int .i64 b, .int .i64 c, .int .i64 d, .int .i64 0, .slice none 0 0] 83 ∧ PS w0 wr pb la lc (rest)

set_option maxRecDepth 100000 in
set_option maxHeartbeats 16000000 in
theorem one_in (w0 : World) (a b c d : Int) (a1 : -10 < a) (a2 : a < 100) (b1 : -10 < b) (b2 : b < 100) (c1 : -10 < c) (c2 : c < 100) (d1 : -10 < d) (d2 : d < 100) (stop : Wd → Prop) : PartC w0 119 [[105, 110], Lib.itoa a, Lib.itoa b, Lib.itoa c, Lib.itoa d] (.inn a b c d) stop := by
  have hH : True := trivial
  intro w pb lc la rest hr h
  have hpb : pb < w.heap.size := h.box.lt
  have hw0 := h.bel.size
  have ha := below_alloc (Nat.le_refl w.heap.size) (.cells #[.int .i64 0, .int .i64 0, .int .i64 0, .int .i64 0, .int .i64 0, .int .i64 0, .slice none 0 0] 83)
  have HBX := Kp.mk (Box.new w #[.int .i64 0, .int .i64 0, .int .i64 0, .int .i64 0, .int .i64 0, .int .i64 0, .slice none 0 0] 83)
  obtain ⟨t2, ht2⟩ : ∃ t2, w.heap.size = t2 := ⟨_, rfl⟩
  have HA := Kp.mk ha
  obtain ⟨w1, hw1⟩ : ∃ w1, w.alloc (.cells #[.int .i64 0, .int .i64 0, .int .i64 0, .int .i64 0, .int .i64 0, .int .i64 0, .slice none 0 0] 83) = w1 := ⟨_, rfl⟩
  have hz1 : w1.heap.size = t2 + 1 := by rw [← hw1, alloc_size, ht2]
  have hsl := h.later ha
  rw [hw1] at HA HBX hsl
  rw [ht2] at HBX
  have HS1 := Kp.mk (show PS w0 w1 pb la lc ([105, 110] :: (Lib.itoa a :: Lib.itoa b :: Lib.itoa c :: Lib.itoa d :: rest)) from by simpa using hsl)
  have HZ1 := Kp.mk hz1
  have HT2 := Kp.mk ht2
  have HH := Kp.mk hH
  have k1 : w1.cell? ⟨pb, 1, none⟩ = some (.bool false) := HS1.out.box.cell 1 rfl
  clear hH hr h ha hz1 hsl
  go_enter Tryz.func119, Tryz.ntmps119
  go_upto_region 3 with (fail)
  clear hw1 ht2
  have CT0 := Kp.mk (takes_no w0 w1 pb la lc [33] ([105, 110] :: (Lib.itoa a :: Lib.itoa b :: Lib.itoa c :: Lib.itoa d :: rest)) HS1.out (by simp))
  go_wp2_with fail
  refine CT0.out.mono ?_
  rintro e w2 ⟨rfl, HS2, HB2⟩
  clear CT0
  have CT1 := Kp.mk (takes_no w0 w2 pb la lc [40] ([105, 110] :: (Lib.itoa a :: Lib.itoa b :: Lib.itoa c :: Lib.itoa d :: rest)) HS2.out (by simp))
  go_wp2_with fail
  refine CT1.out.mono ?_
  rintro e w3 ⟨rfl, HS3, HB3⟩
  clear CT1
  have HG14 := Kp.mk (show w1.grownBy w3 (some pb) from grown_trans (grown_of_below HB2.out) (grown_of_below HB3.out))
  have CT := Kp.mk (takes_yes w0 w3 pb la lc [105, 110] (Lib.itoa a :: Lib.itoa b :: Lib.itoa c :: Lib.itoa d :: rest) HS3.out)
  clear HS1 HS2 HS3 HB2 HB3 k1
  go_wp2_with fail
  refine CT.out.mono ?_
  rintro e w5 ⟨la5, lc5, rfl, HS5, HG5⟩
  have hT2 := HT2.out
  have hZ1 := HZ1.out
  have HG15 := Kp.mk (show w1.grownBy w5 (some pb) from grown_trans HG14.out HG5.out)
  have hz15 := HG15.out.size
  have hx5 := box_grow HBX.out HG15.out (fun e => by simp only [Option.some.injEq] at e; omega)
  have b0 : w5.cell? ⟨t2, 0, none⟩ = some (.int .i64 0) := hx5.cell 0 rfl
  have q0 := hx5.free 0
  have hx6 : Box (w5.setCell ⟨t2, 0, none⟩ (.int .i64 1)) t2 #[.int .i64 1, .int .i64 0, .int .i64 0, .int .i64 0, .int .i64 0, .int .i64 0, .slice none 0 0] 83 := by
    have := box_put (i := 0) hx5 (.int .i64 1)
    simpa using this
  have hg6 := grown_set w5 t2 0 (.int .i64 1)
  have hal := below_alloc (Nat.le_refl (w5.setCell ⟨t2, 0, none⟩ (.int .i64 1)).heap.size) (.cells #[.pointer (some ⟨t2, 1, none⟩), .pointer (some ⟨t2, 2, none⟩), .pointer (some ⟨t2, 3, none⟩), .pointer (some ⟨t2, 4, none⟩)] 151)
  have HIN := Kp.mk (show InS w0 w pb t2 (w5.setCell ⟨t2, 0, none⟩ (.int .i64 1)).heap.size a b c d rest 0 ((w5.setCell ⟨t2, 0, none⟩ (.int .i64 1)).alloc (.cells #[.pointer (some ⟨t2, 1, none⟩), .pointer (some ⟨t2, 2, none⟩), .pointer (some ⟨t2, 3, none⟩), .pointer (some ⟨t2, 4, none⟩)] 151)) la5 lc5 from
    ⟨Box.new _ _ _, grown_trans (qgrown_step (grown_trans (grown_of_below HA.out) HG15.out) hg6 (fun q e => .inl (by cases e; rw [hT2]; exact Nat.le_refl _))) (grown_of_below hal),
     fun _ => ⟨hx6.alloc _, (HS5.out.keep hg6 (fun k e => by cases e; exact ⟨by omega, by omega⟩)).later hal⟩, fun e => by omega, fun e => by omega, fun e => by omega, fun e => by omega⟩)
  have hpq : (w5.setCell ⟨t2, 0, none⟩ (.int .i64 1)).heap.size = w5.heap.size := by simp
  clear CT hx5 hx6 hal HS5 HG5 HG14 HG15 HBX
  have hsz := hg6.size
  clear hg6
  go_wp2
  clear b0 q0
  obtain ⟨pq, hq⟩ : ∃ pq, (w5.setCell ⟨t2, 0, none⟩ (.int .i64 1)).heap.size = pq := ⟨_, rfl⟩
  generalize (w5.setCell ⟨t2, 0, none⟩ (.int .i64 1)).alloc (.cells #[.pointer (some ⟨t2, 1, none⟩), .pointer (some ⟨t2, 2, none⟩), .pointer (some ⟨t2, 3, none⟩), .pointer (some ⟨t2, 4, none⟩)] 151) = w6 at *
  have hq2 : t2 < pq := by omega
  rw [hq] at HIN
  try simp only [hpq] at hq
  try simp only [hq]
  clear hq hpq hsz
  go_loopw [51] (fun i wr => ∃ (k : Nat) (la : Option Addr) (lc : Nat), k ≤ 4 ∧ i = .int .i64 k ∧ Kp (InS w0 w pb t2 pq a b c d rest k wr la lc)) (fun i _ => 4 - (intOf i).toNat)
  case atStart => exact ⟨0, la5, lc5, by omega, rfl, HIN⟩
  case round =>
    obtain ⟨k, la7, lc7, hk, rfl, HI⟩ := hrel
    have hk5 : k = 0 ∨ k = 1 ∨ k = 2 ∨ k = 3 ∨ k = 4 := by omega
    rcases hk5 with rfl | rfl | rfl | rfl | rfl
    · obtain ⟨hx, hs⟩ := HI.out.at0 rfl
      have HS7 := Kp.mk hs
      have HX7 := Kp.mk hx
      have pp : wr.cell? ⟨pq, 0, none⟩ = some (.pointer (some ⟨t2, 1, none⟩)) := HI.out.ptr.cell 0 rfl
      have CN := Kp.mk (number_any w0 wr pb la7 lc7 a (Lib.itoa b :: Lib.itoa c :: Lib.itoa d :: rest) a1 a2 HS7.out)
      clear hx hs
      go_upto_region 13 with (fail)
      clear pp
      go_wp2_with fail
      refine CN.out.mono ?_
      rintro e w8 ⟨la8, lc8, rfl, HS8, HG8⟩
      have hx8 := box_grow HX7.out HG8.out (fun e => by simp only [Option.some.injEq] at e; omega)
      have b1' : w8.cell? ⟨t2, 1, none⟩ = some (.int .i64 0) := hx8.cell 1 rfl
      have q1 := hx8.free 1
      have hg9 := grown_set w8 t2 1 (.int .i64 a)
      have HI9 := Kp.mk (show InS w0 w pb t2 pq a b c d rest 1 (w8.setCell ⟨t2, 1, none⟩ (.int .i64 a)) la8 lc8 from
        ⟨box_grow (box_grow HI.out.ptr HG8.out (fun e => by simp only [Option.some.injEq] at e; omega)) hg9 (fun e => by simp only [Option.some.injEq] at e; omega), qgrown_step (grown_trans HI.out.gr HG8.out) hg9 (fun q e => .inl (by cases e; rw [hT2]; exact Nat.le_refl _)), fun e => by omega, fun _ => ⟨by have := box_put (i := 1) hx8 (.int .i64 a); simpa using this, HS8.out.keep hg9 (fun k e => by cases e; exact ⟨by omega, by omega⟩)⟩, fun e => by omega, fun e => by omega, fun e => by omega⟩)
      clear hx8 hg9 CN HS7 HX7 HI HS8 HG8
      go_wp2
      clear b1' q1
      go_roundw
      case rel => exact ⟨1, la8, lc8, by omega, by go_num, HI9⟩
      case measure => simp [intOf]
    · obtain ⟨hx, hs⟩ := HI.out.at1 rfl
      have HS7 := Kp.mk hs
      have HX7 := Kp.mk hx
      have pp : wr.cell? ⟨pq, 1, none⟩ = some (.pointer (some ⟨t2, 2, none⟩)) := HI.out.ptr.cell 1 rfl
      have CN := Kp.mk (number_any w0 wr pb la7 lc7 b (Lib.itoa c :: Lib.itoa d :: rest) b1 b2 HS7.out)
      clear hx hs
      go_upto_region 13 with (fail)
      clear pp
      go_wp2_with fail
      refine CN.out.mono ?_
      rintro e w8 ⟨la8, lc8, rfl, HS8, HG8⟩
      have hx8 := box_grow HX7.out HG8.out (fun e => by simp only [Option.some.injEq] at e; omega)
      have b1' : w8.cell? ⟨t2, 2, none⟩ = some (.int .i64 0) := hx8.cell 2 rfl
      have q1 := hx8.free 2
      have hg9 := grown_set w8 t2 2 (.int .i64 b)
      have HI9 := Kp.mk (show InS w0 w pb t2 pq a b c d rest 2 (w8.setCell ⟨t2, 2, none⟩ (.int .i64 b)) la8 lc8 from
        ⟨box_grow (box_grow HI.out.ptr HG8.out (fun e => by simp only [Option.some.injEq] at e; omega)) hg9 (fun e => by simp only [Option.some.injEq] at e; omega), qgrown_step (grown_trans HI.out.gr HG8.out) hg9 (fun q e => .inl (by cases e; rw [hT2]; exact Nat.le_refl _)), fun e => by omega, fun e => by omega, fun _ => ⟨by have := box_put (i := 2) hx8 (.int .i64 b); simpa using this, HS8.out.keep hg9 (fun k e => by cases e; exact ⟨by omega, by omega⟩)⟩, fun e => by omega, fun e => by omega⟩)
      clear hx8 hg9 CN HS7 HX7 HI HS8 HG8
      go_wp2
      clear b1' q1
      go_roundw
      case rel => exact ⟨2, la8, lc8, by omega, by go_num, HI9⟩
      case measure => simp [intOf]
    · obtain ⟨hx, hs⟩ := HI.out.at2 rfl
      have HS7 := Kp.mk hs
      have HX7 := Kp.mk hx
      have pp : wr.cell? ⟨pq, 2, none⟩ = some (.pointer (some ⟨t2, 3, none⟩)) := HI.out.ptr.cell 2 rfl
      have CN := Kp.mk (number_any w0 wr pb la7 lc7 c (Lib.itoa d :: rest) c1 c2 HS7.out)
      clear hx hs
      go_upto_region 13 with (fail)
      clear pp
      go_wp2_with fail
      refine CN.out.mono ?_
      rintro e w8 ⟨la8, lc8, rfl, HS8, HG8⟩
      have hx8 := box_grow HX7.out HG8.out (fun e => by simp only [Option.some.injEq] at e; omega)
      have b1' : w8.cell? ⟨t2, 3, none⟩ = some (.int .i64 0) := hx8.cell 3 rfl
      have q1 := hx8.free 3
      have hg9 := grown_set w8 t2 3 (.int .i64 c)
      have HI9 := Kp.mk (show InS w0 w pb t2 pq a b c d rest 3 (w8.setCell ⟨t2, 3, none⟩ (.int .i64 c)) la8 lc8 from
        ⟨box_grow (box_grow HI.out.ptr HG8.out (fun e => by simp only [Option.some.injEq] at e; omega)) hg9 (fun e => by simp only [Option.some.injEq] at e; omega), qgrown_step (grown_trans HI.out.gr HG8.out) hg9 (fun q e => .inl (by cases e; rw [hT2]; exact Nat.le_refl _)), fun e => by omega, fun e => by omega, fun e => by omega, fun _ => ⟨by have := box_put (i := 3) hx8 (.int .i64 c); simpa using this, HS8.out.keep hg9 (fun k e => by cases e; exact ⟨by omega, by omega⟩)⟩, fun e => by omega⟩)
      clear hx8 hg9 CN HS7 HX7 HI HS8 HG8
      go_wp2
      clear b1' q1
      go_roundw
      case rel => exact ⟨3, la8, lc8, by omega, by go_num, HI9⟩
      case measure => simp [intOf]
    · obtain ⟨hx, hs⟩ := HI.out.at3 rfl
      have HS7 := Kp.mk hs
      have HX7 := Kp.mk hx
      have pp : wr.cell? ⟨pq, 3, none⟩ = some (.pointer (some ⟨t2, 4, none⟩)) := HI.out.ptr.cell 3 rfl
      have CN := Kp.mk (number_any w0 wr pb la7 lc7 d (rest) d1 d2 HS7.out)
      clear hx hs
      go_upto_region 13 with (fail)
      clear pp
      go_wp2_with fail
      refine CN.out.mono ?_
      rintro e w8 ⟨la8, lc8, rfl, HS8, HG8⟩
      have hx8 := box_grow HX7.out HG8.out (fun e => by simp only [Option.some.injEq] at e; omega)
      have b1' : w8.cell? ⟨t2, 4, none⟩ = some (.int .i64 0) := hx8.cell 4 rfl
      have q1 := hx8.free 4
      have hg9 := grown_set w8 t2 4 (.int .i64 d)
      have HI9 := Kp.mk (show InS w0 w pb t2 pq a b c d rest 4 (w8.setCell ⟨t2, 4, none⟩ (.int .i64 d)) la8 lc8 from
        ⟨box_grow (box_grow HI.out.ptr HG8.out (fun e => by simp only [Option.some.injEq] at e; omega)) hg9 (fun e => by simp only [Option.some.injEq] at e; omega), qgrown_step (grown_trans HI.out.gr HG8.out) hg9 (fun q e => .inl (by cases e; rw [hT2]; exact Nat.le_refl _)), fun e => by omega, fun e => by omega, fun e => by omega, fun e => by omega, fun _ => ⟨by have := box_put (i := 4) hx8 (.int .i64 d); simpa using this, HS8.out.keep hg9 (fun k e => by cases e; exact ⟨by omega, by omega⟩)⟩⟩)
      clear hx8 hg9 CN HS7 HX7 HI HS8 HG8
      go_wp2
      clear b1' q1
      go_roundw
      case rel => exact ⟨4, la8, lc8, by omega, by go_num, HI9⟩
      case measure => simp [intOf]
    · obtain ⟨hx, hs⟩ := HI.out.at4 rfl
      have HX7 := Kp.mk hx
      have HS7 := Kp.mk hs
      have HG7 := Kp.mk HI.out.gr
      clear hx hs HI
      go_upto_region 17 with (fail)
      have hx0 := HX7.out
      have b0 : wr.cell? ⟨t2, 0, none⟩ = some (.int .i64 1) := hx0.cell 0 rfl
      have b1 : wr.cell? ⟨t2, 1, none⟩ = some (.int .i64 a) := hx0.cell 1 rfl
      have b2 : wr.cell? ⟨t2, 2, none⟩ = some (.int .i64 b) := hx0.cell 2 rfl
      have b3 : wr.cell? ⟨t2, 3, none⟩ = some (.int .i64 c) := hx0.cell 3 rfl
      have b4 : wr.cell? ⟨t2, 4, none⟩ = some (.int .i64 d) := hx0.cell 4 rfl
      have b5 : wr.cell? ⟨t2, 5, none⟩ = some (.int .i64 0) := hx0.cell 5 rfl
      have b6 : wr.cell? ⟨t2, 6, none⟩ = some (.slice none 0 0) := hx0.cell 6 rfl
      have q0 := hx0.free 0
      have q1 := hx0.free 1
      have q2 := hx0.free 2
      have q3 := hx0.free 3
      have q4 := hx0.free 4
      have q5 := hx0.free 5
      have q6 := hx0.free 6
      have HX9 := Kp.mk (st7_box hx0 (.int .i64 1) (.int .i64 a) (.int .i64 b) (.int .i64 c) (.int .i64 d) (.int .i64 0) (.slice none 0 0))
      have hg9 := st7_grown wr t2 (.int .i64 1) (.int .i64 a) (.int .i64 b) (.int .i64 c) (.int .i64 d) (.int .i64 0) (.slice none 0 0)
      have HS9 := Kp.mk (HS7.out.keep hg9 (fun k e => by cases e; exact ⟨by omega, by omega⟩))
      have HG9 := Kp.mk (show w.grownBy _ (some pb) from qgrown_step HG7.out hg9 (fun q e => .inl (by cases e; rw [hT2]; exact Nat.le_refl _)))
      clear hx0 hg9 HX7 HS7 HG7
      go_wp2
      clear b0 b1 b2 b3 b4 b5 b6 q0 q1 q2 q3 q4 q5 q6
      generalize (((((((wr.setCell ⟨t2, 0, none⟩ (.int .i64 1)).setCell ⟨t2, 1, none⟩ (.int .i64 a)).setCell ⟨t2, 2, none⟩ (.int .i64 b)).setCell ⟨t2, 3, none⟩ (.int .i64 c)).setCell ⟨t2, 4, none⟩ (.int .i64 d)).setCell ⟨t2, 5, none⟩ (.int .i64 0)).setCell ⟨t2, 6, none⟩ (.slice none 0 0)) = w9 at *
      have z0 : w9.cell? ⟨t2, 0, none⟩ = some (.int .i64 1) := HX9.out.cell 0 rfl
      have z1 : w9.cell? ⟨t2, 1, none⟩ = some (.int .i64 a) := HX9.out.cell 1 rfl
      have z2 : w9.cell? ⟨t2, 2, none⟩ = some (.int .i64 b) := HX9.out.cell 2 rfl
      have z3 : w9.cell? ⟨t2, 3, none⟩ = some (.int .i64 c) := HX9.out.cell 3 rfl
      have z4 : w9.cell? ⟨t2, 4, none⟩ = some (.int .i64 d) := HX9.out.cell 4 rfl
      have z5 : w9.cell? ⟨t2, 5, none⟩ = some (.int .i64 0) := HX9.out.cell 5 rfl
      have z6 : w9.cell? ⟨t2, 6, none⟩ = some (.slice none 0 0) := HX9.out.cell 6 rfl
      refine bodyPost_ret (v := .agg #[.int .i64 1, .int .i64 a, .int .i64 b, .int .i64 c, .int .i64 d, .int .i64 0, .slice none 0 0]) (by simp [results, Tryz.results119, go_sem, z0, z1, z2, z3, z4, z5, z6]) rfl ?_
      exact ⟨⟨1, a, b, c, d, 0, none, 0, 0⟩, la7, lc7, rfl, ⟨rfl⟩, HS9, HG9⟩

end Go.Proofs.YtedchegejalolaaGreatDoor

