import Derived.Test.YtedchegejalolaaGreatDoorMb13
import Derived.Test.YtedchegejalolaaGreatDoorMb31
import Derived.Test.YtedchegejalolaaGreatDoorMb4
import Derived.Test.YtedchegejalolaaGreatDoorMb22
/- Sky: what is out is determined by what was met. -/
namespace Go.Proofs.YtedchegejalolaaGreatDoor
set_option linter.unusedVariables false

theorem sub_eq {l l1 l2 : List Nat} (hn : l.Nodup) (h1 : l1.Sublist l) (h2 : l2.Sublist l) (h : ∀ x, x ∈ l1 ↔ x ∈ l2) : l1 = l2 := by
  induction l generalizing l1 l2 with
  | nil => rw [List.sublist_nil.1 h1, List.sublist_nil.1 h2]
  | cons a l ih =>
    obtain ⟨ha, hn'⟩ := List.nodup_cons.1 hn
    cases h1 with
    | cons _ h1 =>
      cases h2 with
      | cons _ h2 => exact ih hn' h1 h2 h
      | cons_cons _ h2 => exact absurd (h1.subset ((h a).2 List.mem_cons_self)) ha
    | cons_cons _ h1 =>
      cases h2 with
      | cons _ h2 => exact absurd (h2.subset ((h a).1 List.mem_cons_self)) ha
      | cons_cons _ h2 =>
        rename_i m1 m2
        have e : m1 = m2 := ih hn' h1 h2 fun x => by
          have hx := h x
          constructor
          · intro hm
            rcases List.mem_cons.1 (hx.1 (List.mem_cons_of_mem _ hm)) with rfl | hm'
            · exact absurd (h1.subset hm) ha
            · exact hm'
          · intro hm
            rcases List.mem_cons.1 (hx.2 (List.mem_cons_of_mem _ hm)) with rfl | hm'
            · exact absurd (h2.subset hm) ha
            · exact hm'
        rw [e]
theorem sky_unique {g : Nat → Pt} {done out out' : List Nat} {top top' : Pt} (hd : done.Nodup) (h : SkyInv g done out top) (h' : SkyInv g done out' top') : out = out' := by
  have key : ∀ {a b : List Nat} {s t : Pt}, SkyInv g done a s → SkyInv g done b t → ∀ x ∈ a, x ∈ b := by
    intro a b s t ha hb x hx
    rcases hb.cov x (ha.sub.subset hx) with hm | ⟨o, ho, hA⟩
    · exact hm
    · exact absurd hA (ha.free x hx o (hb.sub.subset ho))
  exact sub_eq hd h.sub h'.sub fun x => ⟨key h h' x, key h' h x⟩

end Go.Proofs.YtedchegejalolaaGreatDoor

/- Package sky: the walk of Sky, at no point too. -/
namespace Go.Proofs.YtedchegejalolaaGreatDoor
set_option linter.unusedVariables false
open Go.RowKit
attribute [local go_sem] Oper.semAt_some

set_option maxRecDepth 100000 in
set_option maxHeartbeats 4000000 in
theorem sky_detN (a : Option Addr) (cap n : Nat) (L : List Pt) (w : World) (h : SlF ptL 3 w a n cap L) (hm : n ≤ 150) (hN : ∀ p ∈ L, p.Near) :
    Calls Tryz.prog 35 #[.slice a n cap] w (fun e w' => ∃ ra r rc S, e = .returned (.tuple #[.slice ra r rc, .int .i64 0]) ∧ Kp (IsOrder L (detN n L)) ∧ Kp (∃ top, SkyInv (gOf L) (met (detN n L) n) S top) ∧ Kp (S.length = r) ∧ Kp (SlI w' ra rc (S.reverse.map Int.ofNat)) ∧ Below w.heap.size w w') := by
  obtain ⟨O, hO⟩ : ∃ O, detN n L = O := ⟨_, rfl⟩
  have HOE := Kp.mk hO
  rw [hO]
  clear hO
  have HLn := Kp.mk (h.len ptL_len (by omega))
  have HA := Kp.mk (below_alloc (Nat.le_refl w.heap.size) (.cells #[.slice a n cap] 42))
  have HBX := Kp.mk (Box.new w #[.slice a n cap] 42)
  have H1 := Kp.mk (SlF.below h HA.out)
  have CC := Kp.mk (gcheck_any a cap n L _ H1.out hm hN)
  have b0 : (w.alloc (.cells #[.slice a n cap] 42)).cell? ⟨w.heap.size, 0, none⟩ = some (.slice a n cap) := HBX.out.cell 0 rfl
  clear h hN
  refine (callsIn_wide (n := 3)).1 ?_
  refine callsIn_of_wp_marks Tryz.func35 rfl trivial ?_ rfl
  simp only [Tryz.ntmps35, List.size_toArray, List.length_cons, List.length_nil, Nat.reduceAdd, Nat.reduceSub, Array.replicate_succ, Array.replicate_zero, List.push_toArray, List.append_toArray, List.nil_append, List.cons_append]
  refine wpIn_wide.2 ?_
  go_wp2_with fail
  refine CC.out.mono ?_
  rintro e w1 ⟨rfl, HB1⟩
  have HX1 := Kp.mk (HBX.out.below HB1.out)
  have HP1 := Kp.mk (SlF.below H1.out HB1.out)
  have HBB1 := Kp.mk (below_step HA.out HB1.out)
  clear CC H1 b0
  -- the two boxes
  have hbo := Box.new w1 #[.slice none 0 0] 33
  have hbt := Box.new (w1.alloc (.cells #[.slice none 0 0] 33)) #[.int .i64 0, .int .i64 0, .int .i64 0] 78
  rw [alloc_size] at hbt
  have hbo2 := hbo.alloc (.cells #[.int .i64 0, .int .i64 0, .int .i64 0] 78)
  have hlow2 : Below w1.heap.size w1 ((w1.alloc (.cells #[.slice none 0 0] 33)).alloc (.cells #[.int .i64 0, .int .i64 0, .int .i64 0] 78)) := below_then_alloc (below_alloc (Nat.le_refl _) _) _
  have HX2 := Kp.mk (HX1.out.below hlow2)
  have HP2 := Kp.mk (SlF.below HP1.out hlow2)
  have hsz2 : ((w1.alloc (.cells #[.slice none 0 0] 33)).alloc (.cells #[.int .i64 0, .int .i64 0, .int .i64 0] 78)).heap.size = w1.heap.size + 2 := by rw [alloc_size, alloc_size]
  have b2 : ((w1.alloc (.cells #[.slice none 0 0] 33)).alloc (.cells #[.int .i64 0, .int .i64 0, .int .i64 0] 78)).cell? ⟨w.heap.size, 0, none⟩ = some (.slice a n cap) := HX2.out.cell 0 rfl
  generalize hw2 : (w1.alloc (.cells #[.slice none 0 0] 33)).alloc (.cells #[.int .i64 0, .int .i64 0, .int .i64 0] 78) = w2 at *
  have HBO := Kp.mk hbo2
  have HBT := Kp.mk hbt
  have HLOW := Kp.mk hlow2
  clear hbo hbt hbo2 hlow2
  go_wp2_with fail
  refine (skySorted_det a cap n L w2 HP2.out (by omega)).mono ?_
  rintro e w3 ⟨oa, oc, rfl, HIO, HOO, HB3⟩
  rw [HOE.out] at HIO HOO
  have HOL := Kp.mk (show O.length = n by rw [HIO.out.len, HLn.out])
  have HORD := Kp.mk (own_sl_len HOO.out (by rw [List.length_map]; exact HOL.out))
  go_wp2_with fail
  refine (bki_any _ _ _ _).mono ?_
  rintro e w4 ⟨rfl, rfl⟩
  go_wp2
  obtain ⟨pb, hpb⟩ : ∃ pb, pb = w.heap.size := ⟨_, rfl⟩
  obtain ⟨bo, hbo⟩ : ∃ bo, bo = w1.heap.size := ⟨_, rfl⟩
  obtain ⟨bs, hbs⟩ : ∃ bs, bs = w3.heap.size := ⟨_, rfl⟩
  have hs23 := HB3.out.size
  have hpbo : pb < bo := by rw [hpb, hbo]; exact HX1.out.lt
  have hobs : bo + 2 ≤ bs := by rw [hbo, hbs, ← hsz2]; exact hs23
  have HBSX := Kp.mk (Box.new w3 #[.slice oa n oc] 33)
  have hba := below_alloc (Nat.le_refl w3.heap.size) (.cells #[.slice oa n oc] 33)
  have HORD4 := Kp.mk (HORD.out.below hba)
  have hob := own_lt HOO.out
  have HOB := Kp.mk (show ∀ k, blk oa = some k → bo + 2 ≤ k ∧ k < bs from fun k hk => by
    have := hob k hk; rw [hsz2] at this; omega)
  have HLO := Kp.mk (show Below bo w1 (w3.alloc (.cells #[.slice oa n oc] 33)) from by
    rw [hbo]
    exact HLOW.out.trans ((HB3.out.mono (by rw [hsz2]; omega)).trans (hba.mono (by omega))))
  have HBO4 := Kp.mk ((HBO.out.below HB3.out).below hba)
  have HBT4 := Kp.mk ((HBT.out.below HB3.out).below hba)
  have hsz4 : (w3.alloc (.cells #[.slice oa n oc] 33)).heap.size = bs + 1 := by rw [alloc_size, ← hbs]
  have HBB1' := Kp.mk HBB1.out.size
  rw [← hpb] at HX1
  rw [← hbo] at HBO4 HBT4
  rw [← hbs] at HBSX
  rw [← hpb, ← hbo, ← hbs]
  obtain ⟨W0, hW0⟩ : ∃ W0, w3.alloc (.cells #[.slice oa n oc] 33) = W0 := ⟨_, rfl⟩
  rw [hW0] at HBSX HORD4 HLO HBO4 HBT4 hsz4 ⊢
  have hcs := HBSX.out.cell 0 rfl
  have HPBE := Kp.mk hpb
  have HBOE := Kp.mk hbo
  clear hW0 hba hob hs23 HB3 HBO HBT HLOW HORD HOO hpb hbo hbs hw2 HX2 HP2 b2 hsz2
  refine (wpIn_wide (n := 3)).1 ?_
  refine range_law (gf := 79) (lb := #[.pointer (some ⟨bs, 0, none⟩)]) rfl (enters_of Tryz.func79 (by kernel_rfl) rfl)
    (bks_gives oa oc n bs bo bs (ints (O.map Int.ofNat)) W0 (sl_own HORD4.out (by rw [List.length_map]; exact HOL.out)) (by omega) HOB.out hcs (fun k => .int .i64 ((ordAt O (n - 1 - k) : Nat) : Int)) ?us) (fun h k => h.trans k) (fun W l o o' => KpS.put (by omega) (by omega) W l o o') (Below.refl _ _) (fun _ => rfl)
    (fun k W => ∃ xa o xc out top, Kp (SkyMem bo (bs + 1) bo (bo + 1) w1 W out top xa o xc) ∧ Kp (SkyInv (gOf L) (met O k) out top)) ?own ?start
    (fun k a' W => a' = { tmps := #[.slice a n cap, .pointer (some ⟨pb, 0, none⟩), .slice none 0 0, .int .i64 0, .int .i64 0, .pointer (some ⟨bo, 0, none⟩), .pointer (some ⟨bo + 1, 0, none⟩), undef, .int .i64 ((ordAt O (n - 1 - k) : Nat) : Int), undef, .slice a n cap, .int .i64 0, .int .i64 0, .bool false, undef, .slice a n cap, .slice oa n oc, .func (.func 79) #[] #[.pointer (some ⟨bs, 0, none⟩)], .int .i64 ((n : Int) - 1 - k), .int .i64 ((ordAt O (n - 1 - k) : Nat) : Int), undef, undef, undef, undef, undef, undef, undef, undef, undef, undef, undef, undef, undef, undef, undef, undef, undef, undef, undef, undef, undef, undef, undef, undef, undef, undef, undef, undef, undef, undef, undef, undef, undef, undef, undef, undef], defers := [] })
    ?ownA ?assign ?body ?done
  case us =>
    intro k hk
    rw [show n - 1 - k = n - 1 - k by omega, ordAt_eq]
    have hlt : n - 1 - k < (ints (O.map Int.ofNat)).length := by rw [ints_length, List.length_map, HOL.out]; omega
    rw [getD_at (ints (O.map Int.ofNat)) undef hlt, ints_get, List.getElem_map, getD_at O 0 (by rw [HOL.out]; omega)]
    rfl
  case own =>
    rintro k X Y row ⟨xa, o, xc, out, top, HM, HI⟩ hgr hr
    have hr' : ∀ q, row = some q → ∃ o : Obj, X.heap[q]? = some o ∧ o.isCells = false := fun q e => (hr q e).2
    have hbox : ∀ {b : Nat} {cs : Array Value} {t : TypeId}, Box X b cs t → Box Y b cs t := fun {b cs t} hb => box_keep hb hgr (fun e => by
      obtain ⟨o, ho, hc⟩ := hr' b e
      have h2' : X.heap[b]? = _ := hb
      rw [h2'] at ho
      cases ho
      cases hc)
    exact ⟨xa, o, xc, out, top, ⟨⟨HM.out.low.grown hgr (by have := HM.out.bxo.lt; omega) (fun q e => by have := (hr q e).1; omega), hbox HM.out.bxo, hbox HM.out.bxt, rown_rest HM.out.row hgr hr', HM.out.len⟩⟩, HI⟩
  case start => exact ⟨none, 0, 0, [], ⟨0, 0, 0⟩, ⟨⟨HLO.out, HBO4.out, HBT4.out, World.ownsRow_nil _ _ _ _, rfl⟩⟩, ⟨SkyInv.start _ _⟩⟩
  case ownA =>
    rintro k a' _ X Y row h hgr hr
    exact h
  case assign =>
    intro lp k W K hk hle ⟨xa, o, xc, out, top, HM, HI⟩ hK
    gi_wp2
    exact hK _ _ (KeepsFrom.refl _ _) (KpS.refl _ _ _ _) ⟨xa, o, xc, out, top, HM, HI⟩ rfl
  case body =>
    rintro lp k a' W hk hle ⟨xa, o, xc, out, top, HM, HI⟩ rfl
    have hsW : bs + 1 ≤ W.heap.size := by omega
    have hbw1 : Below w1.heap.size w1 W := by rw [← HBOE.out]; exact HM.out.low
    have HPW := Kp.mk (SlF.below HP1.out hbw1)
    have hXW : Box W pb #[.slice a n cap] 42 := HX1.out.below hbw1
    have c1 : W.cell? ⟨pb, 0, none⟩ = some (.slice a n cap) := hXW.cell 0 rfl
    have hil : ordAt O (n - 1 - k) < n := by
      rw [ordAt_eq]
      have := HIO.out.lt (n - 1 - k) (by rw [HOL.out]; omega)
      rw [HLn.out] at this; exact this
    have HMS := Kp.mk (show met O (k + 1) = met O k ++ [ordAt O (n - 1 - k)] from by
      rw [met_succ O k (by rw [HOL.out]; exact hk), HOL.out, show n - 1 - k = n - 1 - k by omega, ordAt_eq])
    have HLX := Kp.mk (show ∀ d ∈ met O k, lexLe (gOf L (ordAt O (n - 1 - k))) (gOf L d) from fun d hd => by
      have := HIO.out.lex (j := k) (by rw [HOL.out]; exact hk) d hd
      rw [HOL.out, show n - 1 - k = n - 1 - k by omega] at this
      rw [ordAt_eq]; exact this)
    generalize ordAt O (n - 1 - k) = i at *
    obtain ⟨qb, qo, rfl, hqb, cp⟩ := HPW.out.at ptL_len (by omega) i (by rw [HLn.out]; exact hil)
    rw [← getD_at L pt0 (by rw [HLn.out]; exact hil)] at cp
    obtain ⟨p, hp⟩ : ∃ p, p = L.getD i pt0 := ⟨_, rfl⟩
    have HPE := Kp.mk (show gOf L i = p from hp.symm)
    rw [← hp] at cp
    have p0 : W.cell? ⟨qb, qo + i * 3, none⟩ = some (.int .i64 p.x) := cp 0 (by omega)
    have p1 : W.cell? ⟨qb, qo + i * 3 + 1, none⟩ = some (.int .i64 p.y) := cp 1 (by omega)
    have p2 : W.cell? ⟨qb, qo + i * 3 + 2, none⟩ = some (.int .i64 p.w) := cp 2 (by omega)
    have hin : (i : Int) < (n : Int) := by omega
    have hbel : Below W.heap.size W (W.alloc (.cells #[.int .i64 p.x, .int .i64 p.y, .int .i64 p.w] 78)) := below_alloc (Nat.le_refl _) _
    have hnew := Box.new W #[.int .i64 p.x, .int .i64 p.y, .int .i64 p.w] 78
    have HKA := Kp.mk (kps_below (bo := bo) (n0 := bs) (bs := bs) hbel (by omega) (by omega) (by omega))
    have HOA := Kp.mk (HM.out.bxo.below hbel)
    have HTA := Kp.mk (HM.out.bxt.below hbel)
    have HRA := Kp.mk (own_below HM.out.row hbel)
    have HLA := Kp.mk (HM.out.low.trans (hbel.mono (by omega)))
    have HKF := Kp.mk (show KeepsFrom W0.heap.size W (W.alloc (.cells #[.int .i64 p.x, .int .i64 p.y, .int .i64 p.w] 78)) from (KeepsOthers.alloc _ _).from _)
    have d0 : (W.alloc (.cells #[.int .i64 p.x, .int .i64 p.y, .int .i64 p.w] 78)).cell? ⟨W.heap.size, 0, none⟩ = some (.int .i64 p.x) := hnew.cell 0 rfl
    have d1 : (W.alloc (.cells #[.int .i64 p.x, .int .i64 p.y, .int .i64 p.w] 78)).cell? ⟨W.heap.size, 1, none⟩ = some (.int .i64 p.y) := hnew.cell 1 rfl
    have d2 : (W.alloc (.cells #[.int .i64 p.x, .int .i64 p.y, .int .i64 p.w] 78)).cell? ⟨W.heap.size, 2, none⟩ = some (.int .i64 p.w) := hnew.cell 2 rfl
    have HNW := Kp.mk hnew
    have hszA : W.heap.size + 1 = (W.alloc (.cells #[.int .i64 p.x, .int .i64 p.y, .int .i64 p.w] 78)).heap.size := (alloc_size _ _).symm
    have HSZA := Kp.mk hszA
    generalize hWA : W.alloc (.cells #[.int .i64 p.x, .int .i64 p.y, .int .i64 p.w] 78) = WA at *
    have c5 : WA.cell? ⟨bo, 0, none⟩ = some (.slice xa o xc) := HOA.out.cell 0 rfl
    have e0 : WA.cell? ⟨bo + 1, 0, none⟩ = some (.int .i64 top.x) := HTA.out.cell 0 rfl
    have e1 : WA.cell? ⟨bo + 1, 1, none⟩ = some (.int .i64 top.y) := HTA.out.cell 1 rfl
    have e2 : WA.cell? ⟨bo + 1, 2, none⟩ = some (.int .i64 top.w) := HTA.out.cell 2 rfl
    have hlen := HM.out.len
    have hlen' := hlen
    have hon : out = [] ↔ o = 0 := by rw [← hlen]; exact List.length_eq_zero_iff.symm
    clear cp hp hbel hnew hXW hbw1 hszA hle hlen
    have hol : o ≤ 151 := by
      have h1 := HI.out.sub.length_le
      rw [hlen', met_length O k (by rw [HOL.out]; omega)] at h1
      omega
    have hbs1 : bs + 1 ≤ WA.heap.size := by have := HSZA.out; omega
    have hwne : W.heap.size ≠ bo := by omega
    by_cases ho : o = 0
    · have ez : ((o : Int) == 0) = true := by simpa using ho
      have HI5 := Kp.mk (HI.out.take i HLX.out (.inl (hon.2 ho)))
      rw [HPE.out] at HI5
      clear ho hon
      gi_wp2_with (first
        | (gi_at_builtin; refine inList_step rfl (fun c h => by cases h) (fun K hK => ?_); refine step_push tInts (by rfl) _ _ (by rfl) (bs + 1) xa o xc _ (by rfl) (HRA.out.alloc _) 1 WA.heap.size _ (heap_alloc_new WA _) (by rfl) (by rfl) (by simp [Value.oneCell']) (by omega) (by omega) (by omega) (by rw [alloc_size]; omega) ?_; intro sa sc w3 ho3 hgr3 hno3; refine hK _ _ ?_; have hg := grownBy_of_alloc hgr3; have hb3 := box_grow HOA.out hg (row_box HRA.out HOA.out (by decide)); have ht3 := box_grow HTA.out hg (row_box HRA.out HTA.out (by decide)); have hn3 := box_grow HNW.out hg (row_box HRA.out HNW.out (by decide)); have c53 : w3.cell? ⟨bo, 0, none⟩ = some (.slice xa o xc) := hb3.cell 0 rfl; have f53 := hb3.free 0; have hb4 := box_put (i := 0) hb3 (.slice sa (o + 1) sc); have ht4 := box_far (c := bo) (o := 0) (v := .slice sa (o + 1) sc) ht3 (by omega); have hn4 := box_far (c := bo) (o := 0) (v := .slice sa (o + 1) sc) hn3 (by omega); have g0 := hn4.cell 0 rfl; have g1 := hn4.cell 1 rfl; have g2 := hn4.cell 2 rfl; have k0 := ht4.cell 0 rfl; have k1 := ht4.cell 1 rfl; have k2 := ht4.cell 2 rfl; have m0 := ht4.free 0; have m1 := ht4.free 1; have m2 := ht4.free 2; have hro := own_keep ho3 (grown_set w3 bo 0 (.slice sa (o + 1) sc)) (fun q hq => by cases hq; exact row_box ho3 hb3 (by decide)))
        | gi_in)
      have hw4 : bo + 2 ≤ (w3.setCell ⟨bo, 0, none⟩ (.slice sa (o + 1) sc)).heap.size := by have := ht4.lt; omega
      have ht5 := box_put (i := 0) ht4 (.int .i64 p.x)
      have ht6 := box_put (i := 1) ht5 (.int .i64 p.y)
      have ht7 := box_put (i := 2) ht6 (.int .i64 p.w)
      have hb7 := box_far (c := bo + 1) (o := 2) (v := .int .i64 p.w) (box_far (c := bo + 1) (o := 1) (v := .int .i64 p.y) (box_far (c := bo + 1) (o := 0) (v := .int .i64 p.x) hb4 (by omega)) (by omega)) (by omega)
      have hr5 := own_keep hro (grown_set _ (bo + 1) 0 (.int .i64 p.x)) (fun q hq => by cases hq; exact row_box hro ht4 (by decide))
      have hr6 := own_keep hr5 (grown_set _ (bo + 1) 1 (.int .i64 p.y)) (fun q hq => by cases hq; exact row_box hr5 ht5 (by decide))
      have hr7 := own_keep hr6 (grown_set _ (bo + 1) 2 (.int .i64 p.w)) (fun q hq => by cases hq; exact row_box hr6 ht6 (by decide))
      have KS : KpS bo bs bs WA _ := (kps_grown (bo := bo) (n0 := bs) (bs := bs) hg (by omega) (by omega) (fun q hq => by have := (own_lt HRA.out q hq).1; omega)).trans
        ((kps_set (c := bo) (o := 0) (u := .slice sa (o + 1) sc) (.inl rfl) hobs (by have := hb3.lt; omega)).trans
        ((kps_set (c := bo + 1) (o := 0) (u := .int .i64 p.x) (.inr rfl) hobs (by omega)).trans
        ((kps_set (c := bo + 1) (o := 1) (u := .int .i64 p.y) (.inr rfl) hobs (by have := ht5.lt; omega)).trans
        (kps_set (c := bo + 1) (o := 2) (u := .int .i64 p.w) (.inr rfl) hobs (by have := ht6.lt; omega)))))
      refine ⟨by rw [← hsz4]; exact HKF.out.trans ((rkeeps_own HRA.out hg).trans (((KeepsOthers.setCell _ _ _).from _).trans (((KeepsOthers.setCell _ _ _).from _).trans (((KeepsOthers.setCell _ _ _).from _).trans ((KeepsOthers.setCell _ _ _).from _))))), HKA.out.trans KS, sa, o + 1, sc, out ++ [i], p, ⟨⟨HLA.out.trans KS.bel, by simpa using hb7, by simpa using ht7, ?_, by rw [List.length_append, hlen']; rfl⟩⟩, ⟨by rw [HMS.out]; exact HI5.out⟩⟩
      rw [List.map_append, ints_append]
      exact hr7
    · have hne : out ≠ [] := fun e => ho (hon.1 e)
      have ez : ((o : Int) == 0) = false := by simpa using ho
      by_cases h1 : top.y < p.y
      · have t1 : decide (top.y < p.y) = true := decide_eq_true h1
        have HI5 := Kp.mk (HI.out.take i HLX.out (.inr (.inl (by rw [HPE.out]; exact h1))))
        rw [HPE.out] at HI5
        clear ho hon h1 hne
        gi_wp2_with (first
          | (gi_at_builtin; refine inList_step rfl (fun c h => by cases h) (fun K hK => ?_); refine step_push tInts (by rfl) _ _ (by rfl) (bs + 1) xa o xc _ (by rfl) (HRA.out.alloc _) 1 WA.heap.size _ (heap_alloc_new WA _) (by rfl) (by rfl) (by simp [Value.oneCell']) (by omega) (by omega) (by omega) (by rw [alloc_size]; omega) ?_; intro sa sc w3 ho3 hgr3 hno3; refine hK _ _ ?_; have hg := grownBy_of_alloc hgr3; have hb3 := box_grow HOA.out hg (row_box HRA.out HOA.out (by decide)); have ht3 := box_grow HTA.out hg (row_box HRA.out HTA.out (by decide)); have hn3 := box_grow HNW.out hg (row_box HRA.out HNW.out (by decide)); have c53 : w3.cell? ⟨bo, 0, none⟩ = some (.slice xa o xc) := hb3.cell 0 rfl; have f53 := hb3.free 0; have hb4 := box_put (i := 0) hb3 (.slice sa (o + 1) sc); have ht4 := box_far (c := bo) (o := 0) (v := .slice sa (o + 1) sc) ht3 (by omega); have hn4 := box_far (c := bo) (o := 0) (v := .slice sa (o + 1) sc) hn3 (by omega); have g0 := hn4.cell 0 rfl; have g1 := hn4.cell 1 rfl; have g2 := hn4.cell 2 rfl; have k0 := ht4.cell 0 rfl; have k1 := ht4.cell 1 rfl; have k2 := ht4.cell 2 rfl; have m0 := ht4.free 0; have m1 := ht4.free 1; have m2 := ht4.free 2; have hro := own_keep ho3 (grown_set w3 bo 0 (.slice sa (o + 1) sc)) (fun q hq => by cases hq; exact row_box ho3 hb3 (by decide)))
          | gi_in)
        have hw4 : bo + 2 ≤ (w3.setCell ⟨bo, 0, none⟩ (.slice sa (o + 1) sc)).heap.size := by have := ht4.lt; omega
        have ht5 := box_put (i := 0) ht4 (.int .i64 p.x)
        have ht6 := box_put (i := 1) ht5 (.int .i64 p.y)
        have ht7 := box_put (i := 2) ht6 (.int .i64 p.w)
        have hb7 := box_far (c := bo + 1) (o := 2) (v := .int .i64 p.w) (box_far (c := bo + 1) (o := 1) (v := .int .i64 p.y) (box_far (c := bo + 1) (o := 0) (v := .int .i64 p.x) hb4 (by omega)) (by omega)) (by omega)
        have hr5 := own_keep hro (grown_set _ (bo + 1) 0 (.int .i64 p.x)) (fun q hq => by cases hq; exact row_box hro ht4 (by decide))
        have hr6 := own_keep hr5 (grown_set _ (bo + 1) 1 (.int .i64 p.y)) (fun q hq => by cases hq; exact row_box hr5 ht5 (by decide))
        have hr7 := own_keep hr6 (grown_set _ (bo + 1) 2 (.int .i64 p.w)) (fun q hq => by cases hq; exact row_box hr6 ht6 (by decide))
        have KS : KpS bo bs bs WA _ := (kps_grown (bo := bo) (n0 := bs) (bs := bs) hg (by omega) (by omega) (fun q hq => by have := (own_lt HRA.out q hq).1; omega)).trans
          ((kps_set (c := bo) (o := 0) (u := .slice sa (o + 1) sc) (.inl rfl) hobs (by have := hb3.lt; omega)).trans
          ((kps_set (c := bo + 1) (o := 0) (u := .int .i64 p.x) (.inr rfl) hobs (by omega)).trans
          ((kps_set (c := bo + 1) (o := 1) (u := .int .i64 p.y) (.inr rfl) hobs (by have := ht5.lt; omega)).trans
          (kps_set (c := bo + 1) (o := 2) (u := .int .i64 p.w) (.inr rfl) hobs (by have := ht6.lt; omega)))))
        refine ⟨by rw [← hsz4]; exact HKF.out.trans ((rkeeps_own HRA.out hg).trans (((KeepsOthers.setCell _ _ _).from _).trans (((KeepsOthers.setCell _ _ _).from _).trans (((KeepsOthers.setCell _ _ _).from _).trans ((KeepsOthers.setCell _ _ _).from _))))), HKA.out.trans KS, sa, o + 1, sc, out ++ [i], p, ⟨⟨HLA.out.trans KS.bel, by simpa using hb7, by simpa using ht7, ?_, by rw [List.length_append, hlen']; rfl⟩⟩, ⟨by rw [HMS.out]; exact HI5.out⟩⟩
        rw [List.map_append, ints_append]
        exact hr7
      · have t1 : decide (top.y < p.y) = false := decide_eq_false h1
        by_cases h2 : p.x = top.x
        · have t2 : (p.x == top.x) = true := by simpa using h2
          by_cases h3 : p.y = top.y
          · have t3 : (p.y == top.y) = true := by simpa using h3
            have HI5 := Kp.mk (HI.out.take i HLX.out (.inr (.inr (by rw [HPE.out]; exact ⟨h2, h3⟩))))
            rw [HPE.out] at HI5
            clear ho hon h1 h2 h3 hne
            gi_wp2_with (first
              | (gi_at_builtin; refine inList_step rfl (fun c h => by cases h) (fun K hK => ?_); refine step_push tInts (by rfl) _ _ (by rfl) (bs + 1) xa o xc _ (by rfl) (HRA.out.alloc _) 1 WA.heap.size _ (heap_alloc_new WA _) (by rfl) (by rfl) (by simp [Value.oneCell']) (by omega) (by omega) (by omega) (by rw [alloc_size]; omega) ?_; intro sa sc w3 ho3 hgr3 hno3; refine hK _ _ ?_; have hg := grownBy_of_alloc hgr3; have hb3 := box_grow HOA.out hg (row_box HRA.out HOA.out (by decide)); have ht3 := box_grow HTA.out hg (row_box HRA.out HTA.out (by decide)); have hn3 := box_grow HNW.out hg (row_box HRA.out HNW.out (by decide)); have c53 : w3.cell? ⟨bo, 0, none⟩ = some (.slice xa o xc) := hb3.cell 0 rfl; have f53 := hb3.free 0; have hb4 := box_put (i := 0) hb3 (.slice sa (o + 1) sc); have ht4 := box_far (c := bo) (o := 0) (v := .slice sa (o + 1) sc) ht3 (by omega); have hn4 := box_far (c := bo) (o := 0) (v := .slice sa (o + 1) sc) hn3 (by omega); have g0 := hn4.cell 0 rfl; have g1 := hn4.cell 1 rfl; have g2 := hn4.cell 2 rfl; have k0 := ht4.cell 0 rfl; have k1 := ht4.cell 1 rfl; have k2 := ht4.cell 2 rfl; have m0 := ht4.free 0; have m1 := ht4.free 1; have m2 := ht4.free 2; have hro := own_keep ho3 (grown_set w3 bo 0 (.slice sa (o + 1) sc)) (fun q hq => by cases hq; exact row_box ho3 hb3 (by decide)))
              | gi_in)
            have hw4 : bo + 2 ≤ (w3.setCell ⟨bo, 0, none⟩ (.slice sa (o + 1) sc)).heap.size := by have := ht4.lt; omega
            have ht5 := box_put (i := 0) ht4 (.int .i64 p.x)
            have ht6 := box_put (i := 1) ht5 (.int .i64 p.y)
            have ht7 := box_put (i := 2) ht6 (.int .i64 p.w)
            have hb7 := box_far (c := bo + 1) (o := 2) (v := .int .i64 p.w) (box_far (c := bo + 1) (o := 1) (v := .int .i64 p.y) (box_far (c := bo + 1) (o := 0) (v := .int .i64 p.x) hb4 (by omega)) (by omega)) (by omega)
            have hr5 := own_keep hro (grown_set _ (bo + 1) 0 (.int .i64 p.x)) (fun q hq => by cases hq; exact row_box hro ht4 (by decide))
            have hr6 := own_keep hr5 (grown_set _ (bo + 1) 1 (.int .i64 p.y)) (fun q hq => by cases hq; exact row_box hr5 ht5 (by decide))
            have hr7 := own_keep hr6 (grown_set _ (bo + 1) 2 (.int .i64 p.w)) (fun q hq => by cases hq; exact row_box hr6 ht6 (by decide))
            have KS : KpS bo bs bs WA _ := (kps_grown (bo := bo) (n0 := bs) (bs := bs) hg (by omega) (by omega) (fun q hq => by have := (own_lt HRA.out q hq).1; omega)).trans
              ((kps_set (c := bo) (o := 0) (u := .slice sa (o + 1) sc) (.inl rfl) hobs (by have := hb3.lt; omega)).trans
              ((kps_set (c := bo + 1) (o := 0) (u := .int .i64 p.x) (.inr rfl) hobs (by omega)).trans
              ((kps_set (c := bo + 1) (o := 1) (u := .int .i64 p.y) (.inr rfl) hobs (by have := ht5.lt; omega)).trans
              (kps_set (c := bo + 1) (o := 2) (u := .int .i64 p.w) (.inr rfl) hobs (by have := ht6.lt; omega)))))
            refine ⟨by rw [← hsz4]; exact HKF.out.trans ((rkeeps_own HRA.out hg).trans (((KeepsOthers.setCell _ _ _).from _).trans (((KeepsOthers.setCell _ _ _).from _).trans (((KeepsOthers.setCell _ _ _).from _).trans ((KeepsOthers.setCell _ _ _).from _))))), HKA.out.trans KS, sa, o + 1, sc, out ++ [i], p, ⟨⟨HLA.out.trans KS.bel, by simpa using hb7, by simpa using ht7, ?_, by rw [List.length_append, hlen']; rfl⟩⟩, ⟨by rw [HMS.out]; exact HI5.out⟩⟩
            rw [List.map_append, ints_append]
            exact hr7
          · have t3 : (p.y == top.y) = false := by simpa using h3
            have HI5 := Kp.mk (HI.out.skip i HLX.out hne (by rw [HPE.out]; exact h1) (by rw [HPE.out]; exact fun h => h3 h.2))
            clear h1 h2 h3 hon
            gi_wp2
            exact ⟨HKF.out, HKA.out, xa, o, xc, out, top, ⟨⟨HLA.out, HOA.out, HTA.out, HRA.out, HM.out.len⟩⟩, ⟨by rw [HMS.out]; exact HI5.out⟩⟩
        · have t2 : (p.x == top.x) = false := by simpa using h2
          have HI5 := Kp.mk (HI.out.skip i HLX.out hne (by rw [HPE.out]; exact h1) (by rw [HPE.out]; exact fun h => h2 h.1))
          clear h1 h2 hon
          gi_wp2
          exact ⟨HKF.out, HKA.out, xa, o, xc, out, top, ⟨⟨HLA.out, HOA.out, HTA.out, HRA.out, HM.out.len⟩⟩, ⟨by rw [HMS.out]; exact HI5.out⟩⟩
  case done =>
    rintro D W hD ⟨xa, o, xc, out, top, HM, HI⟩ hK
    have c5 : W.cell? ⟨bo, 0, none⟩ = some (.slice xa o xc) := HM.out.bxo.cell 0 rfl
    have hol : o ≤ 151 := by
      have h1 := HI.out.sub.length_le
      rw [HM.out.len, met_length O n (by rw [HOL.out]; omega)] at h1
      omega
    have hWs : bs + 1 ≤ W.heap.size := by
      have := (Array.getElem?_eq_some_iff.1 hK).1
      omega
    go_wp2_with fail
    refine (reverse_any (bs + 1) xa o xc (out.map Int.ofNat) W HM.out.row (by omega)).mono ?_
    rintro e X ⟨rfl, hrev, hgr⟩
    have hbX := box_grow HM.out.bxo hgr (row_box HM.out.row HM.out.bxo (by decide))
    have c5X : X.cell? ⟨bo, 0, none⟩ = some (.slice xa o xc) := hbX.cell 0 rfl
    have hKX : X.heap[D]? = some (.deferred (some [])) := (rkeeps_own (C := 0) HM.out.row hgr).same D _ (Nat.zero_le _) hK rfl
    have HF := Kp.mk (show Below bo w1 X from HM.out.low.trans (below_of_grown hgr (by omega) (fun q hq => by have := (own_lt HM.out.row q hq).1; omega)))
    have HRV := Kp.mk hrev
    have HLEN := Kp.mk HM.out.len
    clear hrev hgr c5 hK hbX HM
    go_wp2
    have hob := rown_rest HRV.out (grownBy_putObj' X D (.deferred none)) (fun q e => by cases e; exact ⟨_, hKX, rfl⟩)
    refine ⟨by simp, .inl ⟨_, _, rfl, run_takeDeferred hKX, ?_⟩⟩
    refine ⟨.tuple #[.slice xa o xc, .int .i64 0], by simp [results, Tryz.results35, go_sem], xa, o, xc, out, rfl, HIO, ⟨⟨top, HI.out⟩⟩, HLEN, ⟨?_⟩, ?_⟩
    · refine own_sl_len (B := bs + 1) (n := o) ?_ (by rw [List.length_map, List.length_reverse]; exact HLEN.out)
      rw [List.map_reverse]
      exact hob
    · have hk := belowK_b (w := W0) (n₀ := bo) (by omega) X D (.deferred (some [])) (.deferred none) hD hKX rfl rfl
      exact HBB1.out.trans ((HF.out.trans hk).mono (by rw [HBOE.out]; exact HBB1'.out))

end Go.Proofs.YtedchegejalolaaGreatDoor

/- desk: sky. -/
namespace Go.Proofs.YtedchegejalolaaGreatDoor.Dk
set_option linter.unusedVariables false
open Go.RowKit

/-- What the sky of points is. -/
def SkyOf (L : List Pt) (R : List Int) : Prop := ∃ S top, IsOrder L (detN L.length L) ∧ SkyInv (gOf L) (met (detN L.length L) L.length) S top ∧ R = S.reverse.map Int.ofNat
theorem SkyOf.unique {L : List Pt} {R R' : List Int} (h : SkyOf L R) (h' : SkyOf L R') : R = R' := by
  obtain ⟨S, top, ho, hs, rfl⟩ := h
  obtain ⟨S', top', ho', hs', rfl⟩ := h'
  rw [sky_unique (List.Nodup.sublist (List.take_sublist _ _) ((List.reverse_perm _).nodup_iff.2 ho.nodup)) hs hs']
noncomputable def skyF (L : List Pt) : List Int := Classical.epsilon (SkyOf L)
theorem skyF_eq {L : List Pt} {R : List Int} (h : SkyOf L R) : R = skyF L := h.unique (Classical.epsilon_spec ⟨R, h⟩)
theorem SkyOf.bd {L : List Pt} {R : List Int} (h : SkyOf L R) : R.length ≤ L.length ∧ ∀ x ∈ R, 0 ≤ x ∧ x < L.length := by
  obtain ⟨S, top, ho, hs, rfl⟩ := h
  have hm : ∀ x ∈ met (detN L.length L) L.length, x < L.length := fun x hx => by
    have h1 : x ∈ detN L.length L := List.mem_reverse.1 (List.mem_of_mem_take hx)
    exact List.mem_range.1 (ho.perm.mem_iff.1 h1)
  have hl := hs.sub.length_le
  have hl2 : (met (detN L.length L) L.length).length ≤ L.length := by
    unfold met
    rw [List.length_take]
    exact Nat.min_le_left _ _
  refine ⟨by rw [List.length_map, List.length_reverse]; omega, fun x hx => ?_⟩
  obtain ⟨y, hy, rfl⟩ := List.mem_map.1 hx
  have := hm y (hs.sub.subset (List.mem_reverse.1 hy))
  exact ⟨Int.natCast_nonneg _, by show ((y : Nat) : Int) < _; omega⟩

noncomputable def skyG (L : List Pt) : List Int := open Classical in if (skyF L).length ≤ L.length ∧ ∀ x ∈ skyF L, 0 ≤ x ∧ x < L.length then skyF L else []
theorem skyG_bd (L : List Pt) : (skyG L).length ≤ L.length ∧ ∀ x ∈ skyG L, 0 ≤ x ∧ x < L.length := by
  unfold skyG
  split
  · assumption
  · exact ⟨by simp, by simp⟩
theorem skyG_eq {L : List Pt} {R : List Int} (h : SkyOf L R) : R = skyG L := by
  have e := skyF_eq h
  have hb := h.bd
  rw [e] at hb
  unfold skyG
  rw [if_pos hb]
  exact e

set_option maxRecDepth 100000 in
set_option maxHeartbeats 4000000 in
theorem dsky_any (B db pc : Nat) (pa : Option Addr) (L : List Pt) (w : World) (h : DS w B db pa pc L) (hL : L.length ≤ 150) (hN : ∀ p ∈ L, p.Near) (hT : Tab w) :
    Calls Tryz.prog 21 #[.pointer (some ⟨db, 0, none⟩)] w fun e w' => e = .returned (str (toldT [105, 100, 115] (skyG L))) ∧ Kp (Below w.heap.size w w') := by
  have k0 : w.cell? ⟨db, 0, none⟩ = some (.slice pa L.length pc) := h.box.cell 0 rfl
  have CS := Kp.mk (sky_detN pa pc L.length L w (own_slc h.row) hL hN)
  have HT := Kp.mk hT
  clear h
  go_enter Tryz.func21, Tryz.ntmps21
  go_wp2_with fail
  refine CS.out.mono ?_
  rintro e w1 ⟨ra, r, rc, S, rfl, HO, HI, HL, HS, HB1⟩
  have hso : SkyOf L (S.reverse.map Int.ofNat) := by
    obtain ⟨top, hi⟩ := HI.out
    exact ⟨S, top, HO.out, hi, rfl⟩
  have he := skyG_eq hso
  obtain ⟨b1, b2⟩ := hso.bd
  have CT := Kp.mk (told_any [105, 100, 115] (by decide) ra rc r (S.reverse.map Int.ofNat) w1 HS.out (by rw [List.length_map, List.length_reverse]; exact HL.out) (by rw [List.length_map, List.length_reverse] at b1; have := HL.out; omega) (fun x hx => by have := b2 x hx; omega) (HT.out.below HB1))
  rw [he] at CT
  clear k0 CS HO HI HS hso he b1 b2
  go_wp2_with fail
  refine CT.out.mono ?_
  rintro e w2 ⟨rfl, HB2⟩
  have HB := Kp.mk (below_step HB1 HB2.out)
  clear CT
  go_wp2
  go_ret
  exact ⟨rfl, HB⟩

end Go.Proofs.YtedchegejalolaaGreatDoor.Dk

/- grid.Count at any number of points (cut out of XDynG). -/
namespace Go.Proofs.YtedchegejalolaaGreatDoor.Dk
set_option linter.unusedVariables false
open Go.RowKit

set_option maxRecDepth 100000 in
set_option maxHeartbeats 2000000 in
theorem gcount0 (a : Option Addr) (cap : Nat) (X0 Y0 X1 Y1 : Int) (w : World) (h : SlF ptL 3 w a 0 cap []) :
    Calls Tryz.prog 44 #[.slice a 0 cap, .agg #[.int .i64 X0, .int .i64 Y0, .int .i64 X1, .int .i64 Y1]] w fun e w' => e = .returned (.tuple #[.int .i64 0, .int .i64 0]) ∧ Below w.heap.size w w' := by
  have HA := Kp.mk (below_alloc (Nat.le_refl w.heap.size) (.cells #[.int .i64 X0, .int .i64 Y0, .int .i64 X1, .int .i64 Y1] 80))
  have H1 := Kp.mk (SlF.below h HA.out)
  have CC := Kp.mk (gcheck_any a cap 0 [] _ H1.out (by omega) (by simp))
  clear h
  go_enter Tryz.func44, Tryz.ntmps44
  go_wp2_with fail
  refine CC.out.mono ?_
  rintro e w1 ⟨rfl, HB1⟩
  have HBB1 := Kp.mk (below_step HA.out HB1.out)
  clear CC H1 HA HB1
  go_wp2
  refine bodyPost_ret (v := .tuple #[.int .i64 0, .int .i64 0]) (by simp [results, Tryz.results44, go_sem]) rfl ?_
  exact ⟨rfl, HBB1.out⟩
theorem gcountN (a : Option Addr) (cap n : Nat) (L : List Pt) (X0 Y0 X1 Y1 : Int) (w : World) (h : SlF ptL 3 w a n cap L) (hl : L.length = n) (hn : n ≤ 150) (hN : ∀ p ∈ L, p.Near) :
    Calls Tryz.prog 44 #[.slice a n cap, .agg #[.int .i64 X0, .int .i64 Y0, .int .i64 X1, .int .i64 Y1]] w fun e w' => e = .returned (.tuple #[.int .i64 (cntR L X0 Y0 X1 Y1 : Nat), .int .i64 0]) ∧ Below w.heap.size w w' := by
  rcases Nat.eq_zero_or_pos n with rfl | h0
  · obtain rfl : L = [] := List.length_eq_zero_iff.1 hl
    refine (gcount0 a cap X0 Y0 X1 Y1 w h).mono ?_
    rintro e w' ⟨rfl, hb⟩
    exact ⟨by simp [cntR], hb⟩
  · exact gcount_any a cap n L X0 Y0 X1 Y1 w h h0 hn hN

end Go.Proofs.YtedchegejalolaaGreatDoor.Dk

