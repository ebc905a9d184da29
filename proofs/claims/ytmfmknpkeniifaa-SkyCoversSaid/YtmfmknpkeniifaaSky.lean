/- Package sky: the walk of Sky. -/
import Derived.Test.YtmfmknpkeniifaaSkyL
import Derived.Test.YtmfmknpkeniifaaRise
import Derived.Test.YtmfmknpkeniifaaBki
import Derived.Test.YtmfmknpkeniifaaRev
namespace Go.Proofs.Ytmfmknpkeniifaa
set_option linter.unusedVariables false
open Go.RowKit
attribute [local go_sem] Oper.semAt_some

/-- The memory of Sky within its loop: the box of what is out (bo), the box of the top (bt). -/
structure SkyMem (n0 B bo bt : Nat) (W0 W : World) (out : List Nat) (top : Pt) (xa : Option Addr) (o xc : Nat) : Prop where
  low : Below n0 W0 W
  bxo : Box W bo #[.slice xa o xc] 38
  bxt : Box W bt #[.int .i64 top.x, .int .i64 top.y, .int .i64 top.w] 26
  row : W.ownsRow B 3 1 (.slice xa o xc) o (ints (out.map Int.ofNat))
  len : out.length = o

section
variable {bo n0 bs : Nat} {W W' : World}
theorem kps_below (h : Below W.heap.size W W') (hn : n0 ≤ W.heap.size) (hb : bo ≤ W.heap.size) (hs : bs < W.heap.size) : KpS bo n0 bs W W' :=
  ⟨h.mono hb, fun j _ h2 => h.block j (by omega), fun v e => (h.cell (p := ⟨bs, 0, none⟩) hs).trans e⟩
theorem kps_grown {r : Option Nat} (h : W.grownBy W' r) (hn : n0 ≤ W.heap.size) (hb : bo ≤ W.heap.size) (hr : ∀ k, r = some k → n0 ≤ k ∧ bo ≤ k ∧ bs ≠ k) : KpS bo n0 bs W W' :=
  ⟨below_of_grown h hb (fun k hk => (hr k hk).2.1), fun j _ h2 => h.block j (by omega) (fun e => by have := (hr j e.symm).1; omega), fun v e => h.cell e (fun e' => (hr bs e'.symm).2.2 rfl)⟩
theorem kps_set {c o : Nat} {u : Value} (hc : c = bo ∨ c = bo + 1) (hs : bo + 2 ≤ bs) (hb : bo ≤ W.heap.size) : KpS bo n0 bs W (W.setCell ⟨c, o, none⟩ u) :=
  ⟨below_of_grown (grown_set W c o u) hb (fun k hk => by cases hk; omega), fun j h1 _ => heap_setCell_other W ⟨c, o, none⟩ j u (fun e => by dsimp only at e; omega), fun v e => by rw [World.cell?_setCell_other _ _ _ _ (fun e' => by simp only [Addr.mk.injEq] at e'; omega)]; exact e⟩
end
/-- A place of an order. -/
def ordAt (O : List Nat) (j : Nat) : Nat := O.getD j 0
theorem ordAt_eq (O : List Nat) (j : Nat) : ordAt O j = O.getD j 0 := rfl
attribute [irreducible] ordAt
theorem inList_step {P : Program} {l m : Nat} {Q : Exit → Act → World → Prop} {ops : Array Oper} {o : Oper} {rest : List Oper} {a : Act} {W : World} (hgd : o.guard = none) (hd : ∀ c, o.op ≠ .defer c)
    (h : ∀ K : Act → World → Prop, (∀ a' w', wpListIn (Fence.wide.inRound l) m P ops Q rest a' w' → K a' w') → if Region.wanted o (yielded ops a.tmps) = true then Oper.wp P o a W K (Ahead Q) else True) : wpListIn (Fence.wide.inRound l) m P ops Q (o :: rest) a W := by
  have hw : Region.wanted o (yielded ops a.tmps) = true := by simp [Region.wanted, hgd]
  have h' := h _ (fun _ _ h => h)
  rw [if_pos hw] at h'
  unfold wpListIn
  rw [if_pos hw]
  exact lift_op hd h'
theorem sl_own {w : World} {a : Option Addr} {c n : Nat} {l : List Int} (h : SlI w a c l) (hn : l.length = n) : SlC w a n c 1 (ints l) := by subst hn; exact h
set_option maxRecDepth 100000 in
set_option maxHeartbeats 4000000 in
theorem sky_any (a : Option Addr) (cap m : Nat) (L : List Pt) (w : World) (h : SlF ptL 3 w a (m + 1) cap L) (hm : m + 1 ≤ 150) (hN : ∀ p ∈ L, p.Near) :
    Calls Try.prog 34 #[.slice a (m + 1) cap] w (fun e w' => ∃ ra r rc O S, e = .returned (.tuple #[.slice ra r rc, .int .i64 0]) ∧ Kp (IsOrder L O) ∧ Kp (∃ top, SkyInv (gOf L) (met O (m + 1)) S top) ∧ Kp (S.length = r) ∧ Kp (SlI w' ra rc (S.reverse.map Int.ofNat)) ∧ Below w.heap.size w w') := by
  have HLn := Kp.mk (h.len ptL_len (by omega))
  have HA := Kp.mk (below_alloc (Nat.le_refl w.heap.size) (.cells #[.slice a (m + 1) cap] 23))
  have HBX := Kp.mk (Box.new w #[.slice a (m + 1) cap] 23)
  have H1 := Kp.mk (SlF.below h HA.out)
  have CC := Kp.mk (gcheck_any a cap (m + 1) L _ H1.out hm hN)
  have b0 : (w.alloc (.cells #[.slice a (m + 1) cap] 23)).cell? ⟨w.heap.size, 0, none⟩ = some (.slice a (m + 1) cap) := HBX.out.cell 0 rfl
  clear h hN
  refine (callsIn_wide (n := 3)).1 ?_
  refine callsIn_of_wp_marks Try.func34 rfl trivial ?_ rfl
  simp only [Try.ntmps34, List.size_toArray, List.length_cons, List.length_nil, Nat.reduceAdd, Nat.reduceSub, Array.replicate_succ, Array.replicate_zero, List.push_toArray, List.append_toArray, List.nil_append, List.cons_append]
  refine wpIn_wide.2 ?_
  go_wp2_with fail
  refine CC.out.mono ?_
  rintro e w1 ⟨rfl, HB1⟩
  have HX1 := Kp.mk (HBX.out.below HB1.out)
  have HP1 := Kp.mk (SlF.below H1.out HB1.out)
  have HBB1 := Kp.mk (below_step HA.out HB1.out)
  clear CC H1 b0
  -- the two boxes
  have hbo := Box.new w1 #[.slice none 0 0] 38
  have hbt := Box.new (w1.alloc (.cells #[.slice none 0 0] 38)) #[.int .i64 0, .int .i64 0, .int .i64 0] 26
  rw [alloc_size] at hbt
  have hbo2 := hbo.alloc (.cells #[.int .i64 0, .int .i64 0, .int .i64 0] 26)
  have hlow2 : Below w1.heap.size w1 ((w1.alloc (.cells #[.slice none 0 0] 38)).alloc (.cells #[.int .i64 0, .int .i64 0, .int .i64 0] 26)) := below_then_alloc (below_alloc (Nat.le_refl _) _) _
  have HX2 := Kp.mk (HX1.out.below hlow2)
  have HP2 := Kp.mk (SlF.below HP1.out hlow2)
  have hsz2 : ((w1.alloc (.cells #[.slice none 0 0] 38)).alloc (.cells #[.int .i64 0, .int .i64 0, .int .i64 0] 26)).heap.size = w1.heap.size + 2 := by rw [alloc_size, alloc_size]
  have b2 : ((w1.alloc (.cells #[.slice none 0 0] 38)).alloc (.cells #[.int .i64 0, .int .i64 0, .int .i64 0] 26)).cell? ⟨w.heap.size, 0, none⟩ = some (.slice a (m + 1) cap) := HX2.out.cell 0 rfl
  generalize hw2 : (w1.alloc (.cells #[.slice none 0 0] 38)).alloc (.cells #[.int .i64 0, .int .i64 0, .int .i64 0] 26) = w2 at *
  have HBO := Kp.mk hbo2
  have HBT := Kp.mk hbt
  have HLOW := Kp.mk hlow2
  clear hbo hbt hbo2 hlow2
  go_wp2_with fail
  refine (skySorted_any a cap m L w2 HP2.out (by omega)).mono ?_
  rintro e w3 ⟨oa, oc, O, rfl, HIO, HOO, HB3⟩
  have HOL := Kp.mk (show O.length = m + 1 by rw [HIO.out.len, HLn.out])
  have HORD := Kp.mk (own_sl_len HOO.out (by rw [List.length_map]; exact HOL.out))
  go_wp2_with fail
  refine (bki_any _ _ _ _).mono ?_
  rintro e w4 ⟨rfl, rfl⟩
  go_wp2
  obtain ⟨pb, hpb⟩ : ∃ pb, pb = w.heap.size := ⟨_, rfl⟩
  obtain ⟨bo, hbo⟩ : ∃ bo, bo = w1.heap.size := ⟨_, rfl⟩
  obtain ⟨bs, hbs⟩ : ∃ bs, bs = w3.heap.size := ⟨_, rfl⟩
  have hs23 := HB3.out.size
  have hpbo : pb < bo := by rw [hpb, hbo]; exact HX1.out.lt
  have hobs : bo + 2 ≤ bs := by rw [hbo, hbs, ← hsz2]; exact hs23
  have HBSX := Kp.mk (Box.new w3 #[.slice oa (m + 1) oc] 38)
  have hba := below_alloc (Nat.le_refl w3.heap.size) (.cells #[.slice oa (m + 1) oc] 38)
  have HORD4 := Kp.mk (HORD.out.below hba)
  have hob := own_lt HOO.out
  have HOB := Kp.mk (show ∀ k, blk oa = some k → bo + 2 ≤ k ∧ k < bs from fun k hk => by
    have := hob k hk; rw [hsz2] at this; omega)
  have HLO := Kp.mk (show Below bo w1 (w3.alloc (.cells #[.slice oa (m + 1) oc] 38)) from by
    rw [hbo]
    exact HLOW.out.trans ((HB3.out.mono (by rw [hsz2]; omega)).trans (hba.mono (by omega))))
  have HBO4 := Kp.mk ((HBO.out.below HB3.out).below hba)
  have HBT4 := Kp.mk ((HBT.out.below HB3.out).below hba)
  have hsz4 : (w3.alloc (.cells #[.slice oa (m + 1) oc] 38)).heap.size = bs + 1 := by rw [alloc_size, ← hbs]
  have HBB1' := Kp.mk HBB1.out.size
  rw [← hpb] at HX1
  rw [← hbo] at HBO4 HBT4
  rw [← hbs] at HBSX
  rw [← hpb, ← hbo, ← hbs]
  obtain ⟨W0, hW0⟩ : ∃ W0, w3.alloc (.cells #[.slice oa (m + 1) oc] 38) = W0 := ⟨_, rfl⟩
  rw [hW0] at HBSX HORD4 HLO HBO4 HBT4 hsz4 ⊢
  have hcs := HBSX.out.cell 0 rfl
  have HPBE := Kp.mk hpb
  have HBOE := Kp.mk hbo
  clear hW0 hba hob hs23 HB3 HBO HBT HLOW HORD HOO hpb hbo hbs hw2 HX2 HP2 b2 hsz2
  refine (wpIn_wide (n := 3)).1 ?_
  refine range_law (gf := 99) (lb := #[.pointer (some ⟨bs, 0, none⟩)]) rfl (enters_of Try.func99 (by kernel_rfl) rfl)
    (bks_gives oa oc (m + 1) bs bo bs (ints (O.map Int.ofNat)) W0 (sl_own HORD4.out (by rw [List.length_map]; exact HOL.out)) (by omega) HOB.out hcs (fun k => .int .i64 ((ordAt O (m - k) : Nat) : Int)) ?us) (fun h k => h.trans k) (fun W l o o' => KpS.put (by omega) (by omega) W l o o') (Below.refl _ _) (fun _ => rfl)
    (fun k W => ∃ xa o xc out top, Kp (SkyMem bo (bs + 1) bo (bo + 1) w1 W out top xa o xc) ∧ Kp (SkyInv (gOf L) (met O k) out top)) ?own ?start
    (fun k a' W => a' = { tmps := #[.slice a (m + 1) cap, .pointer (some ⟨pb, 0, none⟩), .slice none 0 0, .int .i64 0, .int .i64 0, .pointer (some ⟨bo, 0, none⟩), .pointer (some ⟨bo + 1, 0, none⟩), undef, .int .i64 ((ordAt O (m - k) : Nat) : Int), undef, .slice a (m + 1) cap, .int .i64 0, .int .i64 0, .bool false, undef, .slice a (m + 1) cap, .slice oa (m + 1) oc, .func (.func 99) #[] #[.pointer (some ⟨bs, 0, none⟩)], .int .i64 ((m : Int) - k), .int .i64 ((ordAt O (m - k) : Nat) : Int), undef, undef, undef, undef, undef, undef, undef, undef, undef, undef, undef, undef, undef, undef, undef, undef, undef, undef, undef, undef, undef, undef, undef, undef, undef, undef, undef, undef, undef, undef, undef, undef, undef, undef, undef, undef], defers := [] })
    ?ownA ?assign ?body ?done
  case us =>
    intro k hk
    rw [show m + 1 - 1 - k = m - k by omega, ordAt_eq]
    have hlt : m - k < (ints (O.map Int.ofNat)).length := by rw [ints_length, List.length_map, HOL.out]; omega
    rw [getD_at (ints (O.map Int.ofNat)) undef hlt, ints_get, List.getElem_map, getD_at O 0 (by rw [HOL.out]; omega)]
    rfl
  case own =>
    rintro k X Y row ⟨xa, o, xc, out, top, HM, HI⟩ hgr hr
    have hr' : ∀ q, row = some q → ∃ o : Obj, X.heap[q]? = some o ∧ o.isCells = false := fun q e => (hr q e).2
    have hbox : ∀ {b : Nat} {cs : Array Value} {t : TypeId}, Box X b cs t → Box Y b cs t := fun {b cs t} hb => box_keep hb hgr (fun e => by
      obtain ⟨o, ho, hc⟩ := hr' b e
      have h2' : X.heap[b]? = _ := hb
      rw [h2'] at ho
      cases ho
      cases hc)
    exact ⟨xa, o, xc, out, top, ⟨⟨HM.out.low.grown hgr (by have := HM.out.bxo.lt; omega) (fun q e => by have := (hr q e).1; omega), hbox HM.out.bxo, hbox HM.out.bxt, own_rest HM.out.row hgr hr', HM.out.len⟩⟩, HI⟩
  case start => exact ⟨none, 0, 0, [], ⟨0, 0, 0⟩, ⟨⟨HLO.out, HBO4.out, HBT4.out, World.ownsRow_nil _ _ _ _, rfl⟩⟩, ⟨SkyInv.start _ _⟩⟩
  case ownA =>
    rintro k a' _ X Y row h hgr hr
    exact h
  case assign =>
    intro lp k W K hk hle ⟨xa, o, xc, out, top, HM, HI⟩ hK
    gi_wp2
    exact hK _ _ (KeepsFrom.refl _ _) (KpS.refl _ _ _ _) ⟨xa, o, xc, out, top, HM, HI⟩ rfl
  case body =>
    rintro lp k a' W hk hle ⟨xa, o, xc, out, top, HM, HI⟩ rfl
    have hsW : bs + 1 ≤ W.heap.size := by omega
    have hbw1 : Below w1.heap.size w1 W := by rw [← HBOE.out]; exact HM.out.low
    have HPW := Kp.mk (SlF.below HP1.out hbw1)
    have hXW : Box W pb #[.slice a (m + 1) cap] 23 := HX1.out.below hbw1
    have c1 : W.cell? ⟨pb, 0, none⟩ = some (.slice a (m + 1) cap) := hXW.cell 0 rfl
    have hil : ordAt O (m - k) < m + 1 := by
      rw [ordAt_eq]
      have := HIO.out.lt (m - k) (by rw [HOL.out]; omega)
      rw [HLn.out] at this; exact this
    have HMS := Kp.mk (show met O (k + 1) = met O k ++ [ordAt O (m - k)] from by
      rw [met_succ O k (by rw [HOL.out]; exact hk), HOL.out, show m + 1 - 1 - k = m - k by omega, ordAt_eq])
    have HLX := Kp.mk (show ∀ d ∈ met O k, lexLe (gOf L (ordAt O (m - k))) (gOf L d) from fun d hd => by
      have := HIO.out.lex (j := k) (by rw [HOL.out]; exact hk) d hd
      rw [HOL.out, show m + 1 - 1 - k = m - k by omega] at this
      rw [ordAt_eq]; exact this)
    generalize ordAt O (m - k) = i at *
    obtain ⟨qb, qo, rfl, hqb, cp⟩ := HPW.out.at ptL_len (by omega) i (by rw [HLn.out]; exact hil)
    rw [← getD_at L pt0 (by rw [HLn.out]; exact hil)] at cp
    obtain ⟨p, hp⟩ : ∃ p, p = L.getD i pt0 := ⟨_, rfl⟩
    have HPE := Kp.mk (show gOf L i = p from hp.symm)
    rw [← hp] at cp
    have p0 : W.cell? ⟨qb, qo + i * 3, none⟩ = some (.int .i64 p.x) := cp 0 (by omega)
    have p1 : W.cell? ⟨qb, qo + i * 3 + 1, none⟩ = some (.int .i64 p.y) := cp 1 (by omega)
    have p2 : W.cell? ⟨qb, qo + i * 3 + 2, none⟩ = some (.int .i64 p.w) := cp 2 (by omega)
    have hin : (i : Int) < (m : Int) + 1 := by omega
    have hbel : Below W.heap.size W (W.alloc (.cells #[.int .i64 p.x, .int .i64 p.y, .int .i64 p.w] 26)) := below_alloc (Nat.le_refl _) _
    have hnew := Box.new W #[.int .i64 p.x, .int .i64 p.y, .int .i64 p.w] 26
    have HKA := Kp.mk (kps_below (bo := bo) (n0 := bs) (bs := bs) hbel (by omega) (by omega) (by omega))
    have HOA := Kp.mk (HM.out.bxo.below hbel)
    have HTA := Kp.mk (HM.out.bxt.below hbel)
    have HRA := Kp.mk (own_below HM.out.row hbel)
    have HLA := Kp.mk (HM.out.low.trans (hbel.mono (by omega)))
    have HKF := Kp.mk (show KeepsFrom W0.heap.size W (W.alloc (.cells #[.int .i64 p.x, .int .i64 p.y, .int .i64 p.w] 26)) from (KeepsOthers.alloc _ _).from _)
    have d0 : (W.alloc (.cells #[.int .i64 p.x, .int .i64 p.y, .int .i64 p.w] 26)).cell? ⟨W.heap.size, 0, none⟩ = some (.int .i64 p.x) := hnew.cell 0 rfl
    have d1 : (W.alloc (.cells #[.int .i64 p.x, .int .i64 p.y, .int .i64 p.w] 26)).cell? ⟨W.heap.size, 1, none⟩ = some (.int .i64 p.y) := hnew.cell 1 rfl
    have d2 : (W.alloc (.cells #[.int .i64 p.x, .int .i64 p.y, .int .i64 p.w] 26)).cell? ⟨W.heap.size, 2, none⟩ = some (.int .i64 p.w) := hnew.cell 2 rfl
    have HNW := Kp.mk hnew
    have hszA : W.heap.size + 1 = (W.alloc (.cells #[.int .i64 p.x, .int .i64 p.y, .int .i64 p.w] 26)).heap.size := (alloc_size _ _).symm
    have HSZA := Kp.mk hszA
    generalize hWA : W.alloc (.cells #[.int .i64 p.x, .int .i64 p.y, .int .i64 p.w] 26) = WA at *
    have c5 : WA.cell? ⟨bo, 0, none⟩ = some (.slice xa o xc) := HOA.out.cell 0 rfl
    have e0 : WA.cell? ⟨bo + 1, 0, none⟩ = some (.int .i64 top.x) := HTA.out.cell 0 rfl
    have e1 : WA.cell? ⟨bo + 1, 1, none⟩ = some (.int .i64 top.y) := HTA.out.cell 1 rfl
    have e2 : WA.cell? ⟨bo + 1, 2, none⟩ = some (.int .i64 top.w) := HTA.out.cell 2 rfl
    have hlen := HM.out.len
    have hlen' := hlen
    have hon : out = [] ↔ o = 0 := by rw [← hlen]; exact List.length_eq_zero_iff.symm
    clear cp hp hbel hnew hXW hbw1 hszA hle hlen
    have hol : o ≤ 151 := by
      have h1 := HI.out.sub.length_le
      rw [hlen', met_length O k (by rw [HOL.out]; omega)] at h1
      omega
    have hbs1 : bs + 1 ≤ WA.heap.size := by have := HSZA.out; omega
    have hwne : W.heap.size ≠ bo := by omega
    by_cases ho : o = 0
    · have ez : ((o : Int) == 0) = true := by simpa using ho
      have HI5 := Kp.mk (HI.out.take i HLX.out (.inl (hon.2 ho)))
      rw [HPE.out] at HI5
      clear ho hon
      gi_wp2_with (first
        | (gi_at_builtin; refine inList_step rfl (fun c h => by cases h) (fun K hK => ?_); refine step_push tInts (by rfl) _ _ (by rfl) (bs + 1) xa o xc _ (by rfl) (HRA.out.alloc _) 1 WA.heap.size _ (heap_alloc_new WA _) (by rfl) (by rfl) (by simp [Value.oneCell']) (by omega) (by omega) (by omega) (by rw [alloc_size]; omega) ?_; intro sa sc w3 ho3 hgr3 hno3; refine hK _ _ ?_; have hg := grownBy_of_alloc hgr3; have hb3 := box_grow HOA.out hg (row_box HRA.out HOA.out (by decide)); have ht3 := box_grow HTA.out hg (row_box HRA.out HTA.out (by decide)); have hn3 := box_grow HNW.out hg (row_box HRA.out HNW.out (by decide)); have c53 : w3.cell? ⟨bo, 0, none⟩ = some (.slice xa o xc) := hb3.cell 0 rfl; have f53 := hb3.free 0; have hb4 := box_put (i := 0) hb3 (.slice sa (o + 1) sc); have ht4 := box_far (c := bo) (o := 0) (v := .slice sa (o + 1) sc) ht3 (by omega); have hn4 := box_far (c := bo) (o := 0) (v := .slice sa (o + 1) sc) hn3 (by omega); have g0 := hn4.cell 0 rfl; have g1 := hn4.cell 1 rfl; have g2 := hn4.cell 2 rfl; have k0 := ht4.cell 0 rfl; have k1 := ht4.cell 1 rfl; have k2 := ht4.cell 2 rfl; have m0 := ht4.free 0; have m1 := ht4.free 1; have m2 := ht4.free 2; have hro := own_keep ho3 (grown_set w3 bo 0 (.slice sa (o + 1) sc)) (fun q hq => by cases hq; exact row_box ho3 hb3 (by decide)))
        | gi_in)
      have hw4 : bo + 2 ≤ (w3.setCell ⟨bo, 0, none⟩ (.slice sa (o + 1) sc)).heap.size := by have := ht4.lt; omega
      have ht5 := box_put (i := 0) ht4 (.int .i64 p.x)
      have ht6 := box_put (i := 1) ht5 (.int .i64 p.y)
      have ht7 := box_put (i := 2) ht6 (.int .i64 p.w)
      have hb7 := box_far (c := bo + 1) (o := 2) (v := .int .i64 p.w) (box_far (c := bo + 1) (o := 1) (v := .int .i64 p.y) (box_far (c := bo + 1) (o := 0) (v := .int .i64 p.x) hb4 (by omega)) (by omega)) (by omega)
      have hr5 := own_keep hro (grown_set _ (bo + 1) 0 (.int .i64 p.x)) (fun q hq => by cases hq; exact row_box hro ht4 (by decide))
      have hr6 := own_keep hr5 (grown_set _ (bo + 1) 1 (.int .i64 p.y)) (fun q hq => by cases hq; exact row_box hr5 ht5 (by decide))
      have hr7 := own_keep hr6 (grown_set _ (bo + 1) 2 (.int .i64 p.w)) (fun q hq => by cases hq; exact row_box hr6 ht6 (by decide))
      have KS : KpS bo bs bs WA _ := (kps_grown (bo := bo) (n0 := bs) (bs := bs) hg (by omega) (by omega) (fun q hq => by have := (own_lt HRA.out q hq).1; omega)).trans
        ((kps_set (c := bo) (o := 0) (u := .slice sa (o + 1) sc) (.inl rfl) hobs (by have := hb3.lt; omega)).trans
        ((kps_set (c := bo + 1) (o := 0) (u := .int .i64 p.x) (.inr rfl) hobs (by omega)).trans
        ((kps_set (c := bo + 1) (o := 1) (u := .int .i64 p.y) (.inr rfl) hobs (by have := ht5.lt; omega)).trans
        (kps_set (c := bo + 1) (o := 2) (u := .int .i64 p.w) (.inr rfl) hobs (by have := ht6.lt; omega)))))
      refine ⟨by rw [← hsz4]; exact HKF.out.trans ((keeps_own HRA.out hg).trans (((KeepsOthers.setCell _ _ _).from _).trans (((KeepsOthers.setCell _ _ _).from _).trans (((KeepsOthers.setCell _ _ _).from _).trans ((KeepsOthers.setCell _ _ _).from _))))), HKA.out.trans KS, sa, o + 1, sc, out ++ [i], p, ⟨⟨HLA.out.trans KS.bel, by simpa using hb7, by simpa using ht7, ?_, by rw [List.length_append, hlen']; rfl⟩⟩, ⟨by rw [HMS.out]; exact HI5.out⟩⟩
      rw [List.map_append, ints_append]
      exact hr7
    · have hne : out ≠ [] := fun e => ho (hon.1 e)
      have ez : ((o : Int) == 0) = false := by simpa using ho
      by_cases h1 : top.y < p.y
      · have t1 : decide (top.y < p.y) = true := decide_eq_true h1
        have HI5 := Kp.mk (HI.out.take i HLX.out (.inr (.inl (by rw [HPE.out]; exact h1))))
        rw [HPE.out] at HI5
        clear ho hon h1 hne
        gi_wp2_with (first
          | (gi_at_builtin; refine inList_step rfl (fun c h => by cases h) (fun K hK => ?_); refine step_push tInts (by rfl) _ _ (by rfl) (bs + 1) xa o xc _ (by rfl) (HRA.out.alloc _) 1 WA.heap.size _ (heap_alloc_new WA _) (by rfl) (by rfl) (by simp [Value.oneCell']) (by omega) (by omega) (by omega) (by rw [alloc_size]; omega) ?_; intro sa sc w3 ho3 hgr3 hno3; refine hK _ _ ?_; have hg := grownBy_of_alloc hgr3; have hb3 := box_grow HOA.out hg (row_box HRA.out HOA.out (by decide)); have ht3 := box_grow HTA.out hg (row_box HRA.out HTA.out (by decide)); have hn3 := box_grow HNW.out hg (row_box HRA.out HNW.out (by decide)); have c53 : w3.cell? ⟨bo, 0, none⟩ = some (.slice xa o xc) := hb3.cell 0 rfl; have f53 := hb3.free 0; have hb4 := box_put (i := 0) hb3 (.slice sa (o + 1) sc); have ht4 := box_far (c := bo) (o := 0) (v := .slice sa (o + 1) sc) ht3 (by omega); have hn4 := box_far (c := bo) (o := 0) (v := .slice sa (o + 1) sc) hn3 (by omega); have g0 := hn4.cell 0 rfl; have g1 := hn4.cell 1 rfl; have g2 := hn4.cell 2 rfl; have k0 := ht4.cell 0 rfl; have k1 := ht4.cell 1 rfl; have k2 := ht4.cell 2 rfl; have m0 := ht4.free 0; have m1 := ht4.free 1; have m2 := ht4.free 2; have hro := own_keep ho3 (grown_set w3 bo 0 (.slice sa (o + 1) sc)) (fun q hq => by cases hq; exact row_box ho3 hb3 (by decide)))
          | gi_in)
        have hw4 : bo + 2 ≤ (w3.setCell ⟨bo, 0, none⟩ (.slice sa (o + 1) sc)).heap.size := by have := ht4.lt; omega
        have ht5 := box_put (i := 0) ht4 (.int .i64 p.x)
        have ht6 := box_put (i := 1) ht5 (.int .i64 p.y)
        have ht7 := box_put (i := 2) ht6 (.int .i64 p.w)
        have hb7 := box_far (c := bo + 1) (o := 2) (v := .int .i64 p.w) (box_far (c := bo + 1) (o := 1) (v := .int .i64 p.y) (box_far (c := bo + 1) (o := 0) (v := .int .i64 p.x) hb4 (by omega)) (by omega)) (by omega)
        have hr5 := own_keep hro (grown_set _ (bo + 1) 0 (.int .i64 p.x)) (fun q hq => by cases hq; exact row_box hro ht4 (by decide))
        have hr6 := own_keep hr5 (grown_set _ (bo + 1) 1 (.int .i64 p.y)) (fun q hq => by cases hq; exact row_box hr5 ht5 (by decide))
        have hr7 := own_keep hr6 (grown_set _ (bo + 1) 2 (.int .i64 p.w)) (fun q hq => by cases hq; exact row_box hr6 ht6 (by decide))
        have KS : KpS bo bs bs WA _ := (kps_grown (bo := bo) (n0 := bs) (bs := bs) hg (by omega) (by omega) (fun q hq => by have := (own_lt HRA.out q hq).1; omega)).trans
          ((kps_set (c := bo) (o := 0) (u := .slice sa (o + 1) sc) (.inl rfl) hobs (by have := hb3.lt; omega)).trans
          ((kps_set (c := bo + 1) (o := 0) (u := .int .i64 p.x) (.inr rfl) hobs (by omega)).trans
          ((kps_set (c := bo + 1) (o := 1) (u := .int .i64 p.y) (.inr rfl) hobs (by have := ht5.lt; omega)).trans
          (kps_set (c := bo + 1) (o := 2) (u := .int .i64 p.w) (.inr rfl) hobs (by have := ht6.lt; omega)))))
        refine ⟨by rw [← hsz4]; exact HKF.out.trans ((keeps_own HRA.out hg).trans (((KeepsOthers.setCell _ _ _).from _).trans (((KeepsOthers.setCell _ _ _).from _).trans (((KeepsOthers.setCell _ _ _).from _).trans ((KeepsOthers.setCell _ _ _).from _))))), HKA.out.trans KS, sa, o + 1, sc, out ++ [i], p, ⟨⟨HLA.out.trans KS.bel, by simpa using hb7, by simpa using ht7, ?_, by rw [List.length_append, hlen']; rfl⟩⟩, ⟨by rw [HMS.out]; exact HI5.out⟩⟩
        rw [List.map_append, ints_append]
        exact hr7
      · have t1 : decide (top.y < p.y) = false := decide_eq_false h1
        by_cases h2 : p.x = top.x
        · have t2 : (p.x == top.x) = true := by simpa using h2
          by_cases h3 : p.y = top.y
          · have t3 : (p.y == top.y) = true := by simpa using h3
            have HI5 := Kp.mk (HI.out.take i HLX.out (.inr (.inr (by rw [HPE.out]; exact ⟨h2, h3⟩))))
            rw [HPE.out] at HI5
            clear ho hon h1 h2 h3 hne
            gi_wp2_with (first
              | (gi_at_builtin; refine inList_step rfl (fun c h => by cases h) (fun K hK => ?_); refine step_push tInts (by rfl) _ _ (by rfl) (bs + 1) xa o xc _ (by rfl) (HRA.out.alloc _) 1 WA.heap.size _ (heap_alloc_new WA _) (by rfl) (by rfl) (by simp [Value.oneCell']) (by omega) (by omega) (by omega) (by rw [alloc_size]; omega) ?_; intro sa sc w3 ho3 hgr3 hno3; refine hK _ _ ?_; have hg := grownBy_of_alloc hgr3; have hb3 := box_grow HOA.out hg (row_box HRA.out HOA.out (by decide)); have ht3 := box_grow HTA.out hg (row_box HRA.out HTA.out (by decide)); have hn3 := box_grow HNW.out hg (row_box HRA.out HNW.out (by decide)); have c53 : w3.cell? ⟨bo, 0, none⟩ = some (.slice xa o xc) := hb3.cell 0 rfl; have f53 := hb3.free 0; have hb4 := box_put (i := 0) hb3 (.slice sa (o + 1) sc); have ht4 := box_far (c := bo) (o := 0) (v := .slice sa (o + 1) sc) ht3 (by omega); have hn4 := box_far (c := bo) (o := 0) (v := .slice sa (o + 1) sc) hn3 (by omega); have g0 := hn4.cell 0 rfl; have g1 := hn4.cell 1 rfl; have g2 := hn4.cell 2 rfl; have k0 := ht4.cell 0 rfl; have k1 := ht4.cell 1 rfl; have k2 := ht4.cell 2 rfl; have m0 := ht4.free 0; have m1 := ht4.free 1; have m2 := ht4.free 2; have hro := own_keep ho3 (grown_set w3 bo 0 (.slice sa (o + 1) sc)) (fun q hq => by cases hq; exact row_box ho3 hb3 (by decide)))
              | gi_in)
            have hw4 : bo + 2 ≤ (w3.setCell ⟨bo, 0, none⟩ (.slice sa (o + 1) sc)).heap.size := by have := ht4.lt; omega
            have ht5 := box_put (i := 0) ht4 (.int .i64 p.x)
            have ht6 := box_put (i := 1) ht5 (.int .i64 p.y)
            have ht7 := box_put (i := 2) ht6 (.int .i64 p.w)
            have hb7 := box_far (c := bo + 1) (o := 2) (v := .int .i64 p.w) (box_far (c := bo + 1) (o := 1) (v := .int .i64 p.y) (box_far (c := bo + 1) (o := 0) (v := .int .i64 p.x) hb4 (by omega)) (by omega)) (by omega)
            have hr5 := own_keep hro (grown_set _ (bo + 1) 0 (.int .i64 p.x)) (fun q hq => by cases hq; exact row_box hro ht4 (by decide))
            have hr6 := own_keep hr5 (grown_set _ (bo + 1) 1 (.int .i64 p.y)) (fun q hq => by cases hq; exact row_box hr5 ht5 (by decide))
            have hr7 := own_keep hr6 (grown_set _ (bo + 1) 2 (.int .i64 p.w)) (fun q hq => by cases hq; exact row_box hr6 ht6 (by decide))
            have KS : KpS bo bs bs WA _ := (kps_grown (bo := bo) (n0 := bs) (bs := bs) hg (by omega) (by omega) (fun q hq => by have := (own_lt HRA.out q hq).1; omega)).trans
              ((kps_set (c := bo) (o := 0) (u := .slice sa (o + 1) sc) (.inl rfl) hobs (by have := hb3.lt; omega)).trans
              ((kps_set (c := bo + 1) (o := 0) (u := .int .i64 p.x) (.inr rfl) hobs (by omega)).trans
              ((kps_set (c := bo + 1) (o := 1) (u := .int .i64 p.y) (.inr rfl) hobs (by have := ht5.lt; omega)).trans
              (kps_set (c := bo + 1) (o := 2) (u := .int .i64 p.w) (.inr rfl) hobs (by have := ht6.lt; omega)))))
            refine ⟨by rw [← hsz4]; exact HKF.out.trans ((keeps_own HRA.out hg).trans (((KeepsOthers.setCell _ _ _).from _).trans (((KeepsOthers.setCell _ _ _).from _).trans (((KeepsOthers.setCell _ _ _).from _).trans ((KeepsOthers.setCell _ _ _).from _))))), HKA.out.trans KS, sa, o + 1, sc, out ++ [i], p, ⟨⟨HLA.out.trans KS.bel, by simpa using hb7, by simpa using ht7, ?_, by rw [List.length_append, hlen']; rfl⟩⟩, ⟨by rw [HMS.out]; exact HI5.out⟩⟩
            rw [List.map_append, ints_append]
            exact hr7
          · have t3 : (p.y == top.y) = false := by simpa using h3
            have HI5 := Kp.mk (HI.out.skip i HLX.out hne (by rw [HPE.out]; exact h1) (by rw [HPE.out]; exact fun h => h3 h.2))
            clear h1 h2 h3 hon
            gi_wp2
            exact ⟨HKF.out, HKA.out, xa, o, xc, out, top, ⟨⟨HLA.out, HOA.out, HTA.out, HRA.out, HM.out.len⟩⟩, ⟨by rw [HMS.out]; exact HI5.out⟩⟩
        · have t2 : (p.x == top.x) = false := by simpa using h2
          have HI5 := Kp.mk (HI.out.skip i HLX.out hne (by rw [HPE.out]; exact h1) (by rw [HPE.out]; exact fun h => h2 h.1))
          clear h1 h2 hon
          gi_wp2
          exact ⟨HKF.out, HKA.out, xa, o, xc, out, top, ⟨⟨HLA.out, HOA.out, HTA.out, HRA.out, HM.out.len⟩⟩, ⟨by rw [HMS.out]; exact HI5.out⟩⟩
  case done =>
    rintro D W hD ⟨xa, o, xc, out, top, HM, HI⟩ hK
    have c5 : W.cell? ⟨bo, 0, none⟩ = some (.slice xa o xc) := HM.out.bxo.cell 0 rfl
    have hol : o ≤ 151 := by
      have h1 := HI.out.sub.length_le
      rw [HM.out.len, met_length O (m + 1) (by rw [HOL.out]; omega)] at h1
      omega
    have hWs : bs + 1 ≤ W.heap.size := by
      have := (Array.getElem?_eq_some_iff.1 hK).1
      omega
    go_wp2_with fail
    refine (reverse_any (bs + 1) xa o xc (out.map Int.ofNat) W HM.out.row (by omega)).mono ?_
    rintro e X ⟨rfl, hrev, hgr⟩
    have hbX := box_grow HM.out.bxo hgr (row_box HM.out.row HM.out.bxo (by decide))
    have c5X : X.cell? ⟨bo, 0, none⟩ = some (.slice xa o xc) := hbX.cell 0 rfl
    have hKX : X.heap[D]? = some (.deferred (some [])) := (keeps_own (C := 0) HM.out.row hgr).same D _ (Nat.zero_le _) hK rfl
    have HF := Kp.mk (show Below bo w1 X from HM.out.low.trans (below_of_grown hgr (by omega) (fun q hq => by have := (own_lt HM.out.row q hq).1; omega)))
    have HRV := Kp.mk hrev
    have HLEN := Kp.mk HM.out.len
    clear hrev hgr c5 hK hbX HM
    go_wp2
    have hob := own_rest HRV.out (grownBy_putObj' X D (.deferred none)) (fun q e => by cases e; exact ⟨_, hKX, rfl⟩)
    refine ⟨by simp, .inl ⟨_, _, rfl, run_takeDeferred hKX, ?_⟩⟩
    refine ⟨.tuple #[.slice xa o xc, .int .i64 0], by simp [results, Try.results34, go_sem], xa, o, xc, O, out, rfl, HIO, ⟨⟨top, HI.out⟩⟩, HLEN, ⟨?_⟩, ?_⟩
    · refine own_sl_len (B := bs + 1) (n := o) ?_ (by rw [List.length_map, List.length_reverse]; exact HLEN.out)
      rw [List.map_reverse]
      exact hob
    · have hk := belowK_b (w := W0) (n₀ := bo) (by omega) X D (.deferred (some [])) (.deferred none) hD hKX rfl rfl
      exact HBB1.out.trans ((HF.out.trans hk).mono (by rw [HBOE.out]; exact HBB1'.out))

end Go.Proofs.Ytmfmknpkeniifaa
