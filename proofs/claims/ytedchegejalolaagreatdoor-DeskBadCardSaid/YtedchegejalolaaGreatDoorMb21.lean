import Derived.Test.YtedchegejalolaaGreatDoorMb13
import Derived.Test.YtedchegejalolaaGreatDoorMb15
import Derived.Test.YtedchegejalolaaGreatDoorMb18
import Derived.Test.YtedchegejalolaaGreatDoorMb20
import Derived.Test.YtedchegejalolaaGreatDoorMb17
/- Package grid: the walk of build. -/
namespace Go.Proofs.YtedchegejalolaaGreatDoor
set_option linter.unusedVariables false
open Go.RowKit Go.Sort

/-- The plain facts of an index. -/
structure GFacts (n : Nat) (L : List Pt) (O : List Nat) (V : List Int) (R : List Nat) : Prop where
  len : L.length = n
  ord : IsOrder L O
  up : Up V
  rl : R.length = n
  rk : ∀ i, i < n → R.getD i 0 < V.length ∧ V.getD (R.getD i 0) 0 = (L.getD (O.getD i 0) pt0).y
  vl : V.length ≤ n
/-- An index in memory. -/
structure GIdx (w : World) (g : Nat) (a : Option Addr) (cap n : Nat) (L : List Pt) (oa : Option Addr) (oc : Nat) (O : List Nat) (va : Option Addr) (v vc : Nat) (V : List Int) (wa : Option Addr) (wc : Nat) (R : List Nat) : Prop where
  bx : Box w g #[.slice a n cap, .slice oa n oc, .slice va v vc, .slice wa 8 wc] 140
  ps : SlF ptL 3 w a n cap L
  ord : SlI w oa oc (O.map Int.ofNat)
  vals : SlI w va vc V
  vlen : V.length = v
  wave : IsWave w wa wc 8 R
theorem GIdx.below {w w' : World} {g : Nat} {a : Option Addr} {cap n : Nat} {L : List Pt} {oa : Option Addr} {oc : Nat} {O : List Nat} {va : Option Addr} {v vc : Nat} {V : List Int} {wa : Option Addr} {wc : Nat} {R : List Nat}
    (h : GIdx w g a cap n L oa oc O va v vc V wa wc R) (hb : Below w.heap.size w w') : GIdx w' g a cap n L oa oc O va v vc V wa wc R :=
  ⟨h.bx.below hb, h.ps.below hb, h.ord.below hb, h.vals.below hb, h.vlen, h.wave.below hb⟩
/-- What of an index the columns and the report read. -/
structure GIdx0 (w : World) (g : Nat) (a : Option Addr) (cap n : Nat) (L : List Pt) (oa : Option Addr) (oc : Nat) (O : List Nat) (vv wv : Value) : Prop where
  bx : Box w g #[.slice a n cap, .slice oa n oc, vv, wv] 140
  ps : SlF ptL 3 w a n cap L
  ord : SlI w oa oc (O.map Int.ofNat)
theorem GIdx0.below {w w' : World} {g : Nat} {a : Option Addr} {cap n : Nat} {L : List Pt} {oa : Option Addr} {oc : Nat} {O : List Nat} {vv wv : Value}
    (h : GIdx0 w g a cap n L oa oc O vv wv) (hb : Below w.heap.size w w') : GIdx0 w' g a cap n L oa oc O vv wv :=
  ⟨h.bx.below hb, h.ps.below hb, h.ord.below hb⟩
theorem GIdx.to0 {w : World} {g : Nat} {a : Option Addr} {cap n : Nat} {L : List Pt} {oa : Option Addr} {oc : Nat} {O : List Nat} {va : Option Addr} {v vc : Nat} {V : List Int} {wa : Option Addr} {wc : Nat} {R : List Nat}
    (h : GIdx w g a cap n L oa oc O va v vc V wa wc R) : GIdx0 w g a cap n L oa oc O (.slice va v vc) (.slice wa 8 wc) := ⟨h.bx, h.ps, h.ord⟩
/-- The memory of build. -/
structure BldMem (bs : Nat) (w wr : World) (a : Option Addr) (cap n : Nat) (cs : Array Value) : Prop where
  low : Below bs w wr
  b1 : Box wr bs #[.slice a n cap] 42
  b2 : Box wr (bs + 1) cs 140
  sz : bs + 2 ≤ wr.heap.size
theorem BldMem.below {bs : Nat} {w wr w' : World} {a : Option Addr} {cap n : Nat} {cs : Array Value} (h : BldMem bs w wr a cap n cs) (hb : Below wr.heap.size wr w') : BldMem bs w w' a cap n cs :=
  ⟨h.low.trans (hb.mono (by have := h.sz; omega)), h.b1.below hb, h.b2.below hb, Nat.le_trans h.sz hb.size⟩
theorem BldMem.grown {bs : Nat} {w wr w' : World} {a : Option Addr} {cap n : Nat} {cs : Array Value} {r : Option Nat} (h : BldMem bs w wr a cap n cs) (hg : wr.grownBy w' r) (hr : ∀ k, r = some k → bs + 2 ≤ k) : BldMem bs w w' a cap n cs :=
  ⟨h.low.trans (below_of_grown hg (by have := h.sz; omega) (fun k hk => by have := hr k hk; omega)), box_grow h.b1 hg (fun e => by have := hr _ e; omega), box_grow h.b2 hg (fun e => by have := hr _ e; omega), Nat.le_trans h.sz hg.size⟩
theorem BldMem.put {bs : Nat} {w wr : World} {a : Option Addr} {cap n : Nat} {cs : Array Value} (h : BldMem bs w wr a cap n cs) (i : Nat) (u : Value) : BldMem bs w (wr.setCell ⟨bs + 1, i, none⟩ u) a cap n (cs.setIfInBounds i u) :=
  ⟨h.low.trans (below_of_grown (grown_set wr (bs + 1) i u) (by have := h.sz; omega) (fun k hk => by cases hk; omega)), box_far h.b1 (by omega), box_put h.b2 u, Nat.le_trans h.sz (grown_set wr (bs + 1) i u).size⟩

/-- A store into a box that holds no integers leaves rows of integers as they were. -/
theorem slc_far {w : World} {a : Option Addr} {len cap size : Nat} {cs : List Value} (h : SlC w a len cap size cs) {b o : Nat} {ds : Array Value} {t : TypeId} {v : Value} (hb : Box w b ds t) (hi : ∀ u ∈ cs, ∃ x : Int, u = .int .i64 x) (hd : ∀ u ∈ ds.toList, ∀ x : Int, u ≠ .int .i64 x) : SlC (w.setCell ⟨b, o, none⟩ v) a len cap size cs :=
  ⟨h.hlen, h.le, h.capm, h.nil, fun i hi' => by
    obtain ⟨b', off, ha, hc⟩ := h.cell i hi'
    refine ⟨b', off, ha, ?_⟩
    by_cases e : b' = b
    · exfalso
      subst e
      have hb' : w.heap[b']? = some (.cells ds t (0, 0)) := hb
      rw [cell_of_row w b' (off + i) ds t (0, 0) hb'] at hc
      obtain ⟨x, hx⟩ := hi _ (List.getElem_mem hi')
      obtain ⟨hlt, he⟩ := Array.getElem?_eq_some_iff.1 hc
      exact hd _ (by rw [← he]; simp) x hx
    · rw [World.cell?_setCell_other _ _ _ _ (fun e' => by simp only [Addr.mk.injEq] at e'; exact e e'.1.symm)]
      exact hc⟩
theorem ints_int (l : List Int) : ∀ u ∈ ints l, ∃ x : Int, u = .int .i64 x := by
  intro u hu
  obtain ⟨x, _, rfl⟩ := List.mem_map.1 hu
  exact ⟨x, rfl⟩
theorem pts_int (L : List Pt) : ∀ u ∈ flat ptL L, ∃ x : Int, u = .int .i64 x := by
  intro u hu
  obtain ⟨p, _, hp⟩ := List.mem_flatMap.1 hu
  simp only [ptL, List.mem_cons, List.not_mem_nil, or_false] at hp
  rcases hp with rfl | rfl | rfl <;> exact ⟨_, rfl⟩
theorem wave_far {w : World} {a : Option Addr} {cap K b o : Nat} {l : List Nat} {cs : Array Value} {v : Value} (h : IsWave w a cap K l) (hb : Box w b cs 140) : IsWave (w.setCell ⟨b, o, none⟩ v) a cap K l := by
  unfold IsWave at *
  obtain ⟨L, h1, h2, h3⟩ := h
  have hg := grown_set w b o v
  exact ⟨L, h1, own_keep h2 hg (fun q hq hm => by simp at hq; subst hq; exact box_own h2 hb (by decide) hm), fun x hx => own_keep (h3 x hx) hg (fun q hq hm => by simp at hq; subst hq; exact box_own (h3 x hx) hb (by decide) hm)⟩
theorem irange_succ (k : Nat) : ints ((List.range (k + 1)).map Int.ofNat) = ints ((List.range k).map Int.ofNat) ++ [.int .i64 (k : Int)] := by
  rw [List.range_succ, List.map_append, ints_append]; rfl

set_option maxRecDepth 100000 in
set_option maxHeartbeats 4000000 in
theorem gbuild_any (a : Option Addr) (cap n : Nat) (L : List Pt) (w : World) (h : SlF ptL 3 w a n cap L) (hm : n ≤ 150) :
    Calls Tryz.prog 67 #[.slice a n cap] w fun e w' => ∃ g oa oc O va v vc V wa wc R, e = .returned (.pointer (some ⟨g, 0, none⟩)) ∧ Kp (GIdx w' g a cap n L oa oc O va v vc V wa wc R) ∧ Kp (GFacts n L O V R) ∧ Kp (Below w.heap.size w w') ∧ Kp (w.heap.size ≤ g ∧ ∀ k, blk oa = some k → w.heap.size ≤ k) := by
  have HL := Kp.mk (h.len ptL_len (by omega))
  have H := Kp.mk h
  have HLT := Kp.mk (show 0 < n → ∀ k, blk a = some k → k < w.heap.size from fun hn0 k hk => by
    obtain ⟨k', h1, h2⟩ := SlC.lt h (by rw [flat_length ptL_len, HL.out]; omega)
    rw [h1] at hk; cases hk; exact h2)
  have eg : ∀ args w, (callFunc 97 args).run Tryz.prog w = .ok (.enter 97 args) w := enters_of Tryz.func97 (by kernel_rfl) rfl
  have HM0 := Kp.mk (show BldMem w.heap.size w ((w.alloc (.cells #[.slice a n cap] 42)).alloc (.cells #[.slice a n cap, .slice none 0 0, .slice none 0 0, .slice none 0 0] 140)) a cap n #[.slice a n cap, .slice none 0 0, .slice none 0 0, .slice none 0 0] from
    ⟨below_then_alloc (below_alloc (Nat.le_refl _) _) _, (Box.new w _ _).alloc _, by have := Box.new (w.alloc (.cells #[.slice a n cap] 42)) #[.slice a n cap, .slice none 0 0, .slice none 0 0, .slice none 0 0] 140; rwa [alloc_size] at this, by rw [alloc_size, alloc_size]; omega⟩)
  have c0 : (w.alloc (.cells #[.slice a n cap] 42)).cell? ⟨w.heap.size, 0, none⟩ = some (.slice a n cap) := (Box.new w _ _).cell 0 rfl
  have c1 : ((w.alloc (.cells #[.slice a n cap] 42)).alloc (.cells #[.slice a n cap, .slice none 0 0, .slice none 0 0, .slice none 0 0] 140)).cell? ⟨w.heap.size, 0, none⟩ = some (.slice a n cap) := HM0.out.b1.cell 0 rfl
  clear h
  go_enter Tryz.func67, Tryz.ntmps67
  go_wp2
  obtain ⟨bs, hbs⟩ : ∃ bs, bs = w.heap.size := ⟨_, rfl⟩
  rw [← hbs] at HM0 HLT c0 c1 ⊢
  have HBS := Kp.mk hbs
  clear hbs
  generalize (w.alloc (.cells #[.slice a n cap] 42)).alloc (.cells #[.slice a n cap, .slice none 0 0, .slice none 0 0, .slice none 0 0] 140) = w2 at *
  clear c0
  have enc2 : ((bs : Int) + 1) = ((bs + 1 : Nat) : Int) := by omega
  go_loopw [16] (fun i wr => ∃ (k : Nat) (ra : Option Addr) (rc : Nat), k ≤ n ∧ i = .int .i64 k ∧ Kp (wr.ownsRow (bs + 2) 3 1 (.slice ra k rc) k (ints ((List.range k).map Int.ofNat))) ∧ Kp (BldMem bs w wr a cap n #[.slice a n cap, .slice ra k rc, .slice none 0 0, .slice none 0 0])) (fun i _ => n - (intOf i).toNat)
  case atStart => exact ⟨0, none, 0, Nat.zero_le _, rfl, ⟨World.ownsRow_nil _ _ _ _⟩, HM0⟩
  case round =>
    obtain ⟨k, ra, rc, hk, rfl, HO, HM⟩ := hrel
    have d1 := HM.out.b2.cell 1 rfl
    by_cases hlt : k < n
    · have HMA := Kp.mk (HM.out.below (below_alloc (Nat.le_refl wr.heap.size) (.cells #[.int .i64 (k : Int)] 3)))
      go_wp2_with (at_builtin; refine wpList_pushS tInts rfl _ _ rfl (bs + 2) ra k rc _ rfl HO.out 1 _ rfl rfl ?d1 ?d2 (by decide) HM.out.sz ?d4)
      case d1 => simp [Value.oneCell']
      case d2 => omega
      case d4 =>
        intro ya yc w4 ho4 hg4 hn4
        have HM4 := Kp.mk (HM.out.grown hg4 (fun q hq => (own_lt HO.out q hq).1))
        have HO4 := Kp.mk (show w4.ownsRow (bs + 2) 3 1 (.slice ya (k + 1) yc) (k + 1) (ints ((List.range (k + 1)).map Int.ofNat)) from by
          rw [irange_succ]; exact ho4)
        have e1 := HM4.out.b2.cell 1 rfl
        have f1 := HM4.out.b2.free 1
        have HM5 := Kp.mk (HM4.out.put 1 (.slice ya (k + 1) yc))
        have HO5 := Kp.mk (own_keep HO4.out (grown_set w4 (bs + 1) 1 (.slice ya (k + 1) yc)) (fun q hq => by cases hq; exact row_box HO4.out HM4.out.b2 (by decide)))
        clear ho4 hg4 hn4 d1 HMA
        go_wp2
        go_roundw
        case rel => exact ⟨k + 1, ya, yc, by omega, by go_num, HO5, HM5⟩
        case measure => simp [intOf]; omega
    · obtain rfl : n = k := by omega
      have hbr : Below w.heap.size w wr := by rw [← HBS.out]; exact HM.out.low
      have HP := Kp.mk (H.out.below hbr)
      have CS := Kp.mk (sortPl_any 97 #[.pointer (some ⟨bs, 0, none⟩)] L n (bs + 2) ra rc wr HL.out (by omega) eg HO.out HM.out.sz (fun w' gb ha hg x y hx hy => by
        have hgb := own_lt HO.out gb (by rw [ha]; rfl)
        refine gridOrd_any bs a cap n x y L w' (SlC.keep HP.out hg (fun k hk => by
          cases hk
          intro e
          have h3 : gb < bs := HLT.out (by omega) gb e
          omega)) (by omega) ?_ hx hy
        exact ((HM.out.grown hg (fun k hk => by cases hk; omega)).b1).cell 0 rfl))
      go_wp2_with fail
      refine CS.out.mono ?_
      rintro e w3 ⟨rfl, O, HOR, HO3, HG⟩
      have HM3 := Kp.mk (HM.out.grown HG.out (fun q hq => (own_lt HO.out q hq).1))
      have HP3 := Kp.mk (H.out.below (show Below w.heap.size w w3 by rw [← HBS.out]; exact HM3.out.low))
      have HOL := Kp.mk (show O.length = n by rw [HOR.out.len, HL.out])
      have HFAR := Kp.mk (show ∀ k, blk ra = some k → w.heap.size ≤ k from fun k hk => by have := (own_lt HO3.out k hk).1; rw [← HBS.out]; omega)
      have HORD := Kp.mk (own_sl_len HO3.out (by rw [List.length_map]; exact HOL.out))
      have d3 := HM3.out.b2.cell 1 rfl
      have b3 := HM3.out.b1.cell 0 rfl
      clear d1 CS HO HM HP hbr
      obtain ⟨wo, rfl⟩ : ∃ wo : World, wo = w3 := ⟨_, rfl⟩
      have hso := HM3.out.sz
      obtain ⟨Y, hY⟩ : ∃ Y : List Int, Y = O.map (fun i => (L.getD i pt0).y) := ⟨_, rfl⟩
      have HYL := Kp.mk (show Y.length = n by rw [hY, List.length_map, HOL.out])
      have HYG := Kp.mk (show ∀ i, i < n → Y.getD i 0 = (L.getD (O.getD i 0) pt0).y from fun i hi => by
        rw [hY, getD_at _ _ (by rw [List.length_map, HOL.out]; exact hi), List.getElem_map, getD_at O 0 (by rw [HOL.out]; exact hi)])
      have HYT := Kp.mk (show ∀ i, i < n → ints (Y.take (i + 1)) = ints (Y.take i) ++ [.int .i64 (Y.getD i 0)] from fun i hi => by
        rw [List.take_succ_eq_append_getElem (by rw [HYL.out]; exact hi), ints_append, getD_at Y 0 (by rw [HYL.out]; exact hi)]; rfl)
      clear hY
      go_wp2
      go_loopw [4, 41] (fun x i wr => ∃ (k : Nat) (ya : Option Addr) (yc : Nat), k ≤ n ∧ i = .int .i64 k ∧ x = .slice ya k yc ∧ Kp (wr.ownsRow wo.heap.size 3 1 (.slice ya k yc) k (ints (Y.take k))) ∧ Kp (Below wo.heap.size wo wr)) (fun _ i _ => n - (intOf i).toNat)
      case atStart => exact ⟨0, none, 0, Nat.zero_le _, rfl, rfl, ⟨World.ownsRow_nil _ _ _ _⟩, ⟨Below.refl _ _⟩⟩
      case round =>
        obtain ⟨k, ya, yc, hk, rfl, rfl, HY, HB⟩ := hrel
        by_cases hlt : k < n
        · obtain ⟨ob, oo, rfl, co⟩ := (HORD.out.below HB.out).at k (by rw [List.length_map, HOL.out]; exact hlt)
          have hil := HOR.out.lt k (by rw [HOL.out]; exact hlt)
          rw [HL.out] at hil
          rw [List.getElem_map, ← getD_at O 0 (by rw [HOL.out]; exact hlt)] at co
          obtain ⟨pb, po, rfl, hpb, cp⟩ := (HP3.out.below HB.out).at ptL_len (by omega) (O.getD k 0) (by rw [HL.out]; exact hil)
          rw [← getD_at L pt0 (by rw [HL.out]; exact hil)] at cp
          have hyg := HYG.out k hlt
          have hyt := HYT.out k hlt
          rw [hyg] at hyt
          generalize L.getD (O.getD k 0) pt0 = p at *
          generalize O.getD k 0 = i at *
          have p1 : wr.cell? ⟨pb, po + i * 3 + 1, none⟩ = some (.int .i64 p.y) := cp 1 (by omega)
          have co' : wr.cell? ⟨ob, oo + k, none⟩ = some (.int .i64 (i : Int)) := co
          have b3r := (HM3.out.b1.below HB.out).cell 0 rfl
          have hin : (i : Int) < (n : Int) := by omega
          have HYTK := Kp.mk hyt
          clear cp co hyg hyt
          go_wp2_with (at_builtin; refine wpList_push tInts rfl _ _ rfl wo.heap.size ya k yc _ rfl HY.out 1 1 _ rfl rfl ?d1 (by decide) ?d2 (by decide) HB.out.size ?d4)
          case d1 => simp [Value.oneCell']
          case d2 => omega
          case d4 =>
            intro za zc w4 ho4 hb4
            have HY4 := Kp.mk (show w4.ownsRow wo.heap.size 3 1 (.slice za (k + 1) zc) (k + 1) (ints (Y.take (k + 1))) from by rw [HYTK.out]; exact ho4)
            have HB4 := Kp.mk (HB.out.trans hb4)
            clear ho4 hb4 p1 co' b3r
            go_wp2
            go_roundw
            case rel => exact ⟨k + 1, za, zc, by omega, by go_num, rfl, HY4, HB4⟩
            case measure => simp [intOf]; omega
        · obtain rfl : n = k := by omega
          have HMr := Kp.mk (HM3.out.below HB.out)
          have hYall : Y.take n = Y := List.take_of_length_le (by rw [HYL.out]; exact Nat.le_refl _)
          rw [hYall] at HY
          have HYS := Kp.mk (own_sl_len HY.out HYL.out)
          have HPr := Kp.mk (HP3.out.below HB.out)
          have HOr := Kp.mk (HORD.out.below HB.out)
          clear hYall d3 b3 HM3 HP3 HORD hso
          go_wp2_with fail
          refine (rmake_any ya yc n Y wr HYS.out HYL.out (by omega)).mono ?_
          rintro e w5 ⟨va, v, vc, ra, rc, R, rfl, HVL, HVS, HRS, HRK, HB5⟩
          have HF := Kp.mk (show GFacts n L O (valL Y) R from ⟨HL.out, HOR.out, valL_up Y, by rw [HRK.out.1, HYL.out], fun i hi => by
            have h1 := HRK.out.2 i (by rw [HYL.out]; exact hi)
            rw [← HYG.out i hi]
            exact rk_get (valL_up Y) ((valL_mem Y _).2 (by rw [getD_at _ _ (by rw [HYL.out]; exact hi)]; exact List.getElem_mem _)) h1, by have := valL_length Y; rw [HYL.out] at this; exact this⟩)
          have HM5 := Kp.mk (HMr.out.below HB5.out)
          have HP5 := Kp.mk (HPr.out.below HB5.out)
          have HO5 := Kp.mk (HOr.out.below HB5.out)
          generalize valL Y = V at *
          have e2 := HM5.out.b2.cell 2 rfl
          have f2 := HM5.out.b2.free 2
          have HM6 := Kp.mk (HM5.out.put 2 (.slice va v vc))
          have hg6 := grown_set w5 (bs + 1) 2 (.slice va v vc)
          have HP6 := Kp.mk (slc_far (o := 2) (v := .slice va v vc) HP5.out HM5.out.b2 (pts_int L) (by simp))
          have HO6 := Kp.mk (slc_far (o := 2) (v := .slice va v vc) HO5.out HM5.out.b2 (ints_int _) (by simp))
          have HV6 := Kp.mk (slc_far (o := 2) (v := .slice va v vc) HVS.out HM5.out.b2 (ints_int _) (by simp))
          have HR6 := Kp.mk (slc_far (o := 2) (v := .slice va v vc) HRS.out HM5.out.b2 (ints_int _) (by simp))
          have HR7 := Kp.mk (show SlC (w5.setCell ⟨bs + 1, 2, none⟩ (.slice va v vc)) ra n rc 1 (nts R) from by
            have := HR6.out
            rw [List.length_map, HF.out.rl] at this
            rw [nts_ints]; exact this)
          have CW := Kp.mk (wmake_any ra rc 8 n R _ HR7.out (by omega) (by omega) (by omega) (fun y hy => by
            obtain ⟨i, hi, rfl⟩ := List.getElem_of_mem hy
            have := HF.out.rk i (by rw [← HF.out.rl]; exact hi)
            rw [getD_at R 0 hi] at this
            have := HF.out.vl
            omega))
          clear HMr HPr HOr HB5 HYS HY HB HP5 HO5 HVS HRS HR6 HR7 hg6
          generalize hw6 : w5.setCell ⟨bs + 1, 2, none⟩ (.slice va v vc) = w6 at *
          go_wp2_with fail
          unfold WaveRet at CW
          refine CW.out.mono ?_
          rintro e w7 ⟨wa, wc, rfl, HW, hb7⟩
          have HM7 := Kp.mk (HM6.out.below hb7)
          have HP7 := Kp.mk (SlC.below HP6.out hb7)
          have HO7 := Kp.mk (SlC.below HO6.out hb7)
          have HV7 := Kp.mk (SlC.below HV6.out hb7)
          have e3 := HM7.out.b2.cell 3 rfl
          have f3 := HM7.out.b2.free 3
          have HM8 := Kp.mk (HM7.out.put 3 (.slice wa 8 wc))
          have HP8 := Kp.mk (slc_far (o := 3) (v := .slice wa 8 wc) HP7.out HM7.out.b2 (pts_int L) (by simp))
          have HO8 := Kp.mk (slc_far (o := 3) (v := .slice wa 8 wc) HO7.out HM7.out.b2 (ints_int _) (by simp))
          have HV8 := Kp.mk (slc_far (o := 3) (v := .slice wa 8 wc) HV7.out HM7.out.b2 (ints_int _) (by simp))
          have HW8 := Kp.mk (wave_far (o := 3) (v := .slice wa 8 wc) HW.out HM7.out.b2)
          clear CW HM6 HP6 HO6 HV6 HP7 HO7 HV7 HW hb7 e2 f2 hw6
          go_wp2
          go_ret
          refine ⟨bs + 1, _, _, O, va, v, vc, V, wa, wc, R, rfl, ⟨⟨?_, HP8.out, HO8.out, HV8.out, HVL.out, HW8.out⟩⟩, HF, ⟨by rw [← HBS.out]; exact HM8.out.low⟩, ⟨by rw [← HBS.out]; omega, HFAR.out⟩⟩
          exact HM8.out.b2

end Go.Proofs.YtedchegejalolaaGreatDoor

/- Package grid: columns, below. -/
namespace Go.Proofs.YtedchegejalolaaGreatDoor
set_option linter.unusedVariables false
open Go.RowKit

/-- Behind a number (or at it). -/
def past (y : Int) (at' : Bool) (v : Int) : Bool := decide (y < v) || (!at' && decide (v = y))
theorem past_mono {y : Int} {at' : Bool} {u v : Int} (h : u ≤ v) (hu : past y at' u = true) : past y at' v = true := by
  unfold past at *
  cases at' <;> simp at * <;> omega
/-- The first place at which a test is met. -/
def fstIdx (p : Nat → Bool) (n : Nat) : Nat := (List.range n).findIdx p
theorem fstIdx_uniq (p : Nat → Bool) (n k : Nat) (hk : k ≤ n) (h1 : ∀ i, i < k → p i = false) (h2 : k < n → p k = true) : fstIdx p n = k := by
  unfold fstIdx
  rcases Nat.lt_or_ge k n with h | h
  · rw [List.findIdx_eq (by rw [List.length_range]; exact h)]
    refine ⟨by rw [List.getElem_range]; exact h2 h, fun j hj => ?_⟩
    rw [List.getElem_range]; simpa using h1 j hj
  · obtain rfl : k = n := by omega
    have := List.findIdx_eq_length_of_false (xs := List.range k) (p := p) (fun x hx => by
      simpa using h1 x (List.mem_range.1 hx))
    rw [this, List.length_range]
theorem fstIdx_le (p : Nat → Bool) (n : Nat) : fstIdx p n ≤ n := by
  have := List.findIdx_le_length (xs := List.range n) (p := p)
  rwa [List.length_range] at this
theorem fstIdx_before (p : Nat → Bool) (n i : Nat) (h : i < fstIdx p n) : p i = false := by
  have h1 := List.not_of_lt_findIdx (xs := List.range n) (p := p) h
  rw [List.getElem_range] at h1
  simpa using h1
theorem fstIdx_at (p : Nat → Bool) (n : Nat) (h : fstIdx p n < n) : p (fstIdx p n) = true := by
  have h1 := List.findIdx_getElem (xs := List.range n) (p := p) (w := by rw [List.length_range]; exact h)
  rw [List.getElem_range] at h1
  exact h1
attribute [irreducible] fstIdx past

/-- Those of a range of the order that are not behind a number. -/
def cntY (L : List Pt) (O : List Nat) (a b : Nat) (y : Int) (at' : Bool) : Nat := ((O.take b).drop a).countP fun i => !past y at' (L.getD i pt0).y
theorem below_eq {n : Nat} {L : List Pt} {O R : List Nat} {V : List Int} (h : GFacts n L O V R) (a b : Nat) (hb : b ≤ n) (y : Int) (at' : Bool) :
    cntBelow (sg R a b) (fstIdx (fun i => past y at' (V.getD i 0)) V.length) = cntY L O a b y at' := by
  have hol := h.ord.len
  unfold cntBelow cntY sg
  have hR := rank_cnt (fun v => !past y at' v) V h.up (fstIdx (fun i => past y at' (V.getD i 0)) V.length)
    (fun i hi hv => by rw [fstIdx_before (fun i => past y at' (V.getD i 0)) V.length i hi]; rfl)
    (fun i hi hv => by
      have h1 := fstIdx_at (fun i => past y at' (V.getD i 0)) V.length (by omega)
      rw [past_mono (up_le h.up hi hv) h1]; rfl) (((O.take b).drop a).map fun i => (L.getD i pt0).y) ((R.take b).drop a)
    (by
      simp only [List.length_map, List.length_drop, List.length_take]
      have := h.rl; have := h.len; omega)
    (fun i hi => by
      simp only [List.length_map, List.length_drop, List.length_take] at hi
      have hl := h.len
      have hi2 : a + i < n := by omega
      have h1 := h.rk (a + i) hi2
      have e1 : ((R.take b).drop a).getD i 0 = R.getD (a + i) 0 := by
        rw [getD_at _ _ (by rw [List.length_drop, List.length_take, h.rl]; omega), List.getElem_drop, List.getElem_take, getD_at _ _ (by rw [h.rl]; exact hi2)]
      have e2 : (((O.take b).drop a).map fun i => (L.getD i pt0).y).getD i 0 = (L.getD (O.getD (a + i) 0) pt0).y := by
        rw [getD_at _ _ (by rw [List.length_map, List.length_drop, List.length_take]; omega), List.getElem_map, List.getElem_drop, List.getElem_take, getD_at O 0 (by omega)]
      rw [e1, e2]
      exact h1)
  rw [hR, List.countP_map]
  rfl

set_option maxRecDepth 100000 in
set_option maxHeartbeats 2000000 in
theorem coltest_any (bq b2 b3 g k n : Nat) (from' : Int) (above : Bool) (a : Option Addr) (cap : Nat) (L : List Pt) (oa : Option Addr) (oc : Nat) (O : List Nat) (V : List Int) (R : List Nat) (vv wv : Value) (W : World)
    (h : GIdx0 W g a cap n L oa oc O vv wv) (hf : GFacts n L O V R) (hn : n ≤ 1000) (c1 : W.cell? ⟨bq, 0, none⟩ = some (.pointer (some ⟨g, 0, none⟩))) (c2 : W.cell? ⟨b2, 0, none⟩ = some (.int .i64 from')) (c3 : W.cell? ⟨b3, 0, none⟩ = some (.bool above)) (hk : k < n) :
    Calls Tryz.prog 102 #[.int .i64 k, .pointer (some ⟨bq, 0, none⟩), .pointer (some ⟨b2, 0, none⟩), .pointer (some ⟨b3, 0, none⟩)] W fun e w' => e = .returned (.bool (past from' above (L.getD (O.getD k 0) pt0).x)) ∧ Drew W w' := by
  have hol := hf.ord.len
  have hl := hf.len
  obtain ⟨ob, oo, rfl, co⟩ := h.ord.at k (by rw [List.length_map]; omega)
  rw [List.getElem_map, ← getD_at O 0 (by omega)] at co
  have hil := hf.ord.lt k (by omega)
  obtain ⟨pb, po, rfl, hpb, cp⟩ := h.ps.at ptL_len (by omega) (O.getD k 0) (by omega)
  rw [← getD_at L pt0 (by omega)] at cp
  have g0 := h.bx.cell 0 rfl
  have g1 := h.bx.cell 1 rfl
  generalize L.getD (O.getD k 0) pt0 = p at *
  generalize O.getD k 0 = i at *
  have p0 : W.cell? ⟨pb, po + i * 3, none⟩ = some (.int .i64 p.x) := cp 0 (by omega)
  have co' : W.cell? ⟨ob, oo + k, none⟩ = some (.int .i64 (i : Int)) := co
  have hin : (i : Int) < n := by omega
  have hkz : (k : Int) < n := by omega
  have hor : (decide (from' < p.x) = true ∧ Kp (past from' above p.x = true)) ∨ (decide (from' < p.x) = false ∧ above = true ∧ Kp (past from' above p.x = false)) ∨ (decide (from' < p.x) = false ∧ above = false ∧ (p.x == from') = true ∧ Kp (past from' above p.x = true)) ∨ (decide (from' < p.x) = false ∧ above = false ∧ (p.x == from') = false ∧ Kp (past from' above p.x = false)) := by
    unfold past
    by_cases h1 : from' < p.x
    · exact .inl ⟨decide_eq_true h1, ⟨by simp [h1]⟩⟩
    · cases above with
      | true => exact .inr (.inl ⟨decide_eq_false h1, rfl, ⟨by simp [h1]⟩⟩)
      | false =>
        by_cases h2 : p.x = from'
        · exact .inr (.inr (.inl ⟨decide_eq_false h1, rfl, by simpa using h2, ⟨by simp [h2]⟩⟩))
        · exact .inr (.inr (.inr ⟨decide_eq_false h1, rfl, by simpa using h2, ⟨by simp [h1, h2]⟩⟩))
  generalize past from' above p.x = r at *
  clear h hf hol hl cp co hil hpb
  rcases hor with ⟨t1, HE⟩ | ⟨t1, rfl, HE⟩ | ⟨t1, rfl, t2, HE⟩ | ⟨t1, rfl, t2, HE⟩
  all_goals
    rw [HE.out]
    clear HE
    go_enter Tryz.func102, Tryz.ntmps102
    go_wp2
    go_quiet (fail)
    have c2' : (W.drewN nq).cell? ⟨b2, 0, none⟩ = some (.int .i64 from') := c2
    have c3' := c3
    go_wp2
    go_ret
    exact ⟨rfl, nq, rfl⟩

end Go.Proofs.YtedchegejalolaaGreatDoor

/- Package grid: columns, below, Count. -/
namespace Go.Proofs.YtedchegejalolaaGreatDoor
set_option linter.unusedVariables false
open Go.RowKit

/-- The first place of an order from which on points stand behind a number (or at it). -/
def colAt (L : List Pt) (O : List Nat) (n : Nat) (from' : Int) (above : Bool) : Nat := fstIdx (fun k => past from' above (L.getD (O.getD k 0) pt0).x) n
section
variable {g n : Nat} {a : Option Addr} {cap : Nat} {L : List Pt} {oa : Option Addr} {oc : Nat} {O : List Nat} {V : List Int} {R : List Nat} {vv wv : Value}

set_option maxRecDepth 100000 in
set_option maxHeartbeats 1000000 in
theorem first_any (bq : Nat) (from' : Int) (above : Bool) (w : World) (h : GIdx0 w g a cap n L oa oc O vv wv) (hf : GFacts n L O V R) (hn : n ≤ 1000) (c1 : w.cell? ⟨bq, 0, none⟩ = some (.pointer (some ⟨g, 0, none⟩))) :
    Calls Tryz.prog 100 #[.int .i64 from', .bool above, .pointer (some ⟨bq, 0, none⟩)] w fun e w' => e = .returned (.int .i64 (colAt L O n from' above : Nat)) ∧ Below w.heap.size w w' := by
  have eg : ∀ args w, (callFunc 102 args).run Tryz.prog w = .ok (.enter 102 args) w := enters_of Tryz.func102 (by kernel_rfl) rfl
  obtain ⟨w2, hw2⟩ : ∃ w2, w2 = (w.alloc (.cells #[.int .i64 from'] 3)).alloc (.cells #[.bool above] 4) := ⟨_, rfl⟩
  have HB := Kp.mk (show Below w.heap.size w w2 from by rw [hw2]; exact below_then_alloc (below_alloc (Nat.le_refl _) _) _)
  have H2 := Kp.mk (h.below HB.out)
  have c1' : w2.cell? ⟨bq, 0, none⟩ = some (.pointer (some ⟨g, 0, none⟩)) := (HB.out.cell (p := ⟨bq, 0, none⟩) (World.block_lt_of_cell? _ _ c1)).trans c1
  have c2 : w2.cell? ⟨w.heap.size, 0, none⟩ = some (.int .i64 from') := by rw [hw2]; exact ((Box.new w #[.int .i64 from'] 3).alloc _).cell 0 rfl
  have c3 : w2.cell? ⟨w.heap.size + 1, 0, none⟩ = some (.bool above) := by
    have := (Box.new (w.alloc (.cells #[.int .i64 from'] 3)) #[.bool above] 4).cell 0 rfl
    rw [alloc_size] at this
    rw [hw2]; exact this
  have g1 := H2.out.bx.cell 1 rfl
  have CS := Kp.mk (search_any 102 #[.pointer (some ⟨bq, 0, none⟩), .pointer (some ⟨w.heap.size, 0, none⟩), .pointer (some ⟨w.heap.size + 1, 0, none⟩)] (fun k => past from' above (L.getD (O.getD k 0) pt0).x) n eg w2 (by omega)
    (fun W hd k hk => coltest_any bq w.heap.size (w.heap.size + 1) g k n from' above a cap L oa oc O V R vv wv W (H2.out.below (hd.below _)) hf hn ((hd.cell _).trans c1') ((hd.cell _).trans c2) ((hd.cell _).trans c3) hk)
    (fun i j hij hj hi => past_mono (by
      rcases Nat.eq_or_lt_of_le hij with e | e
      · rw [e]; exact Int.le_refl _
      · have := hf.ord.up i j e (by rw [hf.ord.len, hf.len]; exact hj)
        unfold lexLe at this; omega) hi))
  have hw3 := hw2.symm
  clear h hf c2 c3 hw2
  go_enter Tryz.func100, Tryz.ntmps100
  go_wp2_with fail
  refine CS.out.mono ?_
  rintro e w' ⟨k, rfl, hk, h1, h2, hd⟩
  have HE := Kp.mk (show colAt L O n from' above = k from fstIdx_uniq _ _ _ hk h1 h2)
  have HB2 := Kp.mk (below_step HB.out (hd.below _))
  clear h1 h2 hd CS
  go_wp2
  go_ret
  exact ⟨by rw [HE.out]; rfl, HB2.out⟩

theorem colAt_le (L : List Pt) (O : List Nat) (n : Nat) (y : Int) (b : Bool) : colAt L O n y b ≤ n := fstIdx_le _ _
theorem max_cast (p q : Nat) : max (p : Int) q = ((max p q : Nat) : Int) := by omega
attribute [local irreducible] colAt

set_option maxRecDepth 100000 in
set_option maxHeartbeats 1000000 in
theorem columns_any (X0 Y0 X1 Y1 : Int) (w : World) (h : GIdx0 w g a cap n L oa oc O vv wv) (hf : GFacts n L O V R) (hn : n ≤ 1000) :
    Calls Tryz.prog 68 #[.pointer (some ⟨g, 0, none⟩), .agg #[.int .i64 X0, .int .i64 Y0, .int .i64 X1, .int .i64 Y1]] w fun e w' => e = .returned (.tuple #[.int .i64 (colAt L O n X0 false : Nat), .int .i64 (max (colAt L O n X0 false) (colAt L O n X1 true) : Nat)]) ∧ Below w.heap.size w w' := by
  have eg : ∀ args w, (callFunc 100 args).run Tryz.prog w = .ok (.enter 100 args) w := enters_of Tryz.func100 (by kernel_rfl) rfl
  obtain ⟨w2, hw2⟩ : ∃ w2, w2 = (w.alloc (.cells #[.pointer (some ⟨g, 0, none⟩)] 114)).alloc (.cells #[.int .i64 X0, .int .i64 Y0, .int .i64 X1, .int .i64 Y1] 80) := ⟨_, rfl⟩
  have HB := Kp.mk (show Below w.heap.size w w2 from by rw [hw2]; exact below_then_alloc (below_alloc (Nat.le_refl _) _) _)
  have H2 := Kp.mk (h.below HB.out)
  have c1 : w2.cell? ⟨w.heap.size, 0, none⟩ = some (.pointer (some ⟨g, 0, none⟩)) := by rw [hw2]; exact ((Box.new w #[.pointer (some ⟨g, 0, none⟩)] 114).alloc _).cell 0 rfl
  have hbx : Box w2 (w.heap.size + 1) #[.int .i64 X0, .int .i64 Y0, .int .i64 X1, .int .i64 Y1] 80 := by
    have := Box.new (w.alloc (.cells #[.pointer (some ⟨g, 0, none⟩)] 114)) #[.int .i64 X0, .int .i64 Y0, .int .i64 X1, .int .i64 Y1] 80
    rw [alloc_size] at this
    rw [hw2]; exact this
  have r0 := later_cell (show w2.cell? ⟨w.heap.size + 1, 0, none⟩ = some (.int .i64 X0) from hbx.cell 0 rfl)
  have r2 := later_cell (show w2.cell? ⟨w.heap.size + 1, 2, none⟩ = some (.int .i64 X1) from hbx.cell 2 rfl)
  have C1 := Kp.mk (fun x : Later w2 => first_any w.heap.size X0 false x.val (H2.out.below x.le) hf hn (later_cell c1 x))
  have C2 := Kp.mk (fun x : Later w2 => first_any w.heap.size X1 true x.val (H2.out.below x.le) hf hn (later_cell c1 x))
  obtain ⟨p, hp⟩ : ∃ p, p = colAt L O n X0 false := ⟨_, rfl⟩
  obtain ⟨q, hq⟩ : ∃ q, q = colAt L O n X1 true := ⟨_, rfl⟩
  have hpn : p ≤ n := by rw [hp]; exact colAt_le _ _ _ _ _
  have hqn : q ≤ n := by rw [hq]; exact colAt_le _ _ _ _ _
  rw [← hp] at C1 ⊢
  rw [← hq] at C2 ⊢
  have hw3 := hw2.symm
  have HEM := Kp.mk (max_cast p q)
  clear h hf hw2 hbx c1 hp hq
  go_enter Tryz.func68, Tryz.ntmps68
  go_wp2
  refine region_later (by kernel_rfl) (by kernel_rfl) ?_
  iterate 10 (go_big_quiet_step ((go_at_fn 100; first | (with_reducible exact q_later (C1.out _)) | (with_reducible exact q_later (C2.out _)))))
  refine wpQuiet_nil ?_
  rintro w' ⟨xl, rfl⟩
  have HB5 := Kp.mk (below_step HB.out xl.le)
  clear r0 r2 C1 C2
  go_wp2
  refine bodyPost_ret (v := .tuple #[.int .i64 p, .int .i64 (max (p : Int) q)]) (by simp [results, Tryz.results68, go_sem]) rfl ?_
  exact ⟨by rw [HEM.out], HB5.out⟩

end
end Go.Proofs.YtedchegejalolaaGreatDoor

/- Package grid: below, Count. -/
namespace Go.Proofs.YtedchegejalolaaGreatDoor
set_option linter.unusedVariables false
open Go.RowKit

set_option maxRecDepth 100000 in
set_option maxHeartbeats 2000000 in
theorem beltest_any (bq b2 b3 g k n : Nat) (y : Int) (at' : Bool) (a : Option Addr) (cap : Nat) (L : List Pt) (oa : Option Addr) (oc : Nat) (O : List Nat) (va : Option Addr) (v vc : Nat) (V : List Int) (wa : Option Addr) (wc : Nat) (R : List Nat) (W : World)
    (h : GIdx W g a cap n L oa oc O va v vc V wa wc R) (hv : v ≤ 1000) (c1 : W.cell? ⟨bq, 0, none⟩ = some (.pointer (some ⟨g, 0, none⟩))) (c2 : W.cell? ⟨b2, 0, none⟩ = some (.int .i64 y)) (c3 : W.cell? ⟨b3, 0, none⟩ = some (.bool at')) (hk : k < v) :
    Calls Tryz.prog 103 #[.int .i64 k, .pointer (some ⟨bq, 0, none⟩), .pointer (some ⟨b2, 0, none⟩), .pointer (some ⟨b3, 0, none⟩)] W fun e w' => e = .returned (.bool (past y at' (V.getD k 0))) ∧ Drew W w' := by
  have hvl := h.vlen
  obtain ⟨ob, oo, rfl, co⟩ := h.vals.at k (by omega)
  rw [← getD_at V 0 (by omega)] at co
  have g2 := h.bx.cell 2 rfl
  generalize V.getD k 0 = x at *
  have hkz : (k : Int) < v := by omega
  have hor : (decide (y < x) = true ∧ Kp (past y at' x = true)) ∨ (decide (y < x) = false ∧ at' = true ∧ Kp (past y at' x = false)) ∨ (decide (y < x) = false ∧ at' = false ∧ (x == y) = true ∧ Kp (past y at' x = true)) ∨ (decide (y < x) = false ∧ at' = false ∧ (x == y) = false ∧ Kp (past y at' x = false)) := by
    unfold past
    by_cases h1 : y < x
    · exact .inl ⟨decide_eq_true h1, ⟨by simp [h1]⟩⟩
    · cases at' with
      | true => exact .inr (.inl ⟨decide_eq_false h1, rfl, ⟨by simp [h1]⟩⟩)
      | false =>
        by_cases h2 : x = y
        · exact .inr (.inr (.inl ⟨decide_eq_false h1, rfl, by simpa using h2, ⟨by simp [h2]⟩⟩))
        · exact .inr (.inr (.inr ⟨decide_eq_false h1, rfl, by simpa using h2, ⟨by simp [h1, h2]⟩⟩))
  generalize past y at' x = r at *
  clear h hvl
  rcases hor with ⟨t1, HE⟩ | ⟨t1, rfl, HE⟩ | ⟨t1, rfl, t2, HE⟩ | ⟨t1, rfl, t2, HE⟩
  all_goals
    rw [HE.out]
    clear HE
    go_enter Tryz.func103, Tryz.ntmps103
    go_wp2
    go_quiet (fail)
    go_wp2
    go_ret
    exact ⟨rfl, nq, rfl⟩

section
variable {g n : Nat} {a : Option Addr} {cap : Nat} {L : List Pt} {oa : Option Addr} {oc : Nat} {O : List Nat} {va : Option Addr} {v vc : Nat} {V : List Int} {wa : Option Addr} {wc : Nat} {R : List Nat}

set_option maxRecDepth 100000 in
set_option maxHeartbeats 2000000 in
theorem gbelow_any (p q : Nat) (y : Int) (at' : Bool) (w : World) (h : GIdx w g a cap n L oa oc O va v vc V wa wc R) (hf : GFacts n L O V R) (hn : n ≤ 150) (hpq : p ≤ q) (hq : q ≤ n) :
    Calls Tryz.prog 69 #[.pointer (some ⟨g, 0, none⟩), .int .i64 p, .int .i64 q, .int .i64 y, .bool at'] w fun e w' => e = .returned (.int .i64 (cntY L O p q y at' : Nat)) ∧ Below w.heap.size w w' := by
  have eg : ∀ args w, (callFunc 103 args).run Tryz.prog w = .ok (.enter 103 args) w := enters_of Tryz.func103 (by kernel_rfl) rfl
  obtain ⟨w2, hw2⟩ : ∃ w2, w2 = ((w.alloc (.cells #[.pointer (some ⟨g, 0, none⟩)] 114)).alloc (.cells #[.int .i64 y] 3)).alloc (.cells #[.bool at'] 4) := ⟨_, rfl⟩
  have HB := Kp.mk (show Below w.heap.size w w2 from by rw [hw2]; exact below_then_alloc (below_then_alloc (below_alloc (Nat.le_refl _) _) _) _)
  have H2 := Kp.mk (h.below HB.out)
  have c1 : w2.cell? ⟨w.heap.size, 0, none⟩ = some (.pointer (some ⟨g, 0, none⟩)) := by rw [hw2]; exact (((Box.new w #[.pointer (some ⟨g, 0, none⟩)] 114).alloc _).alloc _).cell 0 rfl
  have c2 : w2.cell? ⟨w.heap.size + 1, 0, none⟩ = some (.int .i64 y) := by
    have := ((Box.new (w.alloc (.cells #[.pointer (some ⟨g, 0, none⟩)] 114)) #[.int .i64 y] 3).alloc (.cells #[.bool at'] 4)).cell 0 rfl
    rw [alloc_size] at this
    rw [hw2]; exact this
  have c3 : w2.cell? ⟨w.heap.size + 1 + 1, 0, none⟩ = some (.bool at') := by
    have := (Box.new ((w.alloc (.cells #[.pointer (some ⟨g, 0, none⟩)] 114)).alloc (.cells #[.int .i64 y] 3)) #[.bool at'] 4).cell 0 rfl
    rw [alloc_size, alloc_size] at this
    rw [hw2]; exact this
  have g2 := H2.out.bx.cell 2 rfl
  have hvl := H2.out.vlen
  have hvn := hf.vl
  have CS := Kp.mk (search_any 103 #[.pointer (some ⟨w.heap.size, 0, none⟩), .pointer (some ⟨w.heap.size + 1, 0, none⟩), .pointer (some ⟨w.heap.size + 1 + 1, 0, none⟩)] (fun k => past y at' (V.getD k 0)) v eg w2 (by omega)
    (fun W hd k hk => beltest_any w.heap.size (w.heap.size + 1) (w.heap.size + 1 + 1) g k n y at' a cap L oa oc O va v vc V wa wc R W (H2.out.below (hd.below _)) (by omega) ((hd.cell _).trans c1) ((hd.cell _).trans c2) ((hd.cell _).trans c3) hk)
    (fun i j hij hj hi => past_mono (up_le hf.up hij (by omega)) hi))
  have HE0 := Kp.mk (show ∀ k, k ≤ v → (∀ i, i < k → past y at' (V.getD i 0) = false) → (k < v → past y at' (V.getD k 0) = true) → cntBelow (sg R p q) k = cntY L O p q y at' from fun k hk h1 h2 => by
    rw [← below_eq hf p q hq y at', hvl]
    congr 1
    exact (fstIdx_uniq _ _ _ hk h1 h2).symm)
  have HF := Kp.mk hf
  have hw3 := hw2.symm
  have hvn' : v ≤ n := by omega
  obtain ⟨r, hr⟩ : ∃ r, cntY L O p q y at' = r := ⟨_, rfl⟩
  rw [hr] at HE0 ⊢
  clear h hf c2 c3 hw2 hvl hvn hr
  go_enter Tryz.func69, Tryz.ntmps69
  go_wp2_with fail
  refine CS.out.mono ?_
  rintro e w3 ⟨k, rfl, hk, h1, h2, hd⟩
  have HE := Kp.mk (HE0.out k hk h1 h2)
  have H3 := Kp.mk (H2.out.below (hd.below _))
  have d1 := (hd.cell ⟨w.heap.size, 0, none⟩).trans c1
  have g3 := H3.out.bx.cell 3 rfl
  have HB3 := Kp.mk (below_step HB.out (hd.below _))
  have CW := Kp.mk (wBelow_any wa wc 8 n k p q R w3 H3.out.wave HF.out.rl (by omega) (by omega) (by omega) hpq hq (fun z hz => by
    obtain ⟨i, hi, rfl⟩ := List.getElem_of_mem hz
    have := HF.out.rk i (by rw [← HF.out.rl]; exact hi)
    rw [getD_at R 0 hi] at this
    have := HF.out.vl
    omega) (by omega))
  rw [HE.out] at CW
  clear h1 h2 hd CS HE0 HE c1 g2 hw3
  go_wp2_with fail
  refine CW.out.mono ?_
  rintro e w4 ⟨rfl, hb4⟩
  have HB4 := Kp.mk (below_step HB3.out hb4)
  clear hb4 CW
  go_wp2
  go_ret
  exact ⟨rfl, HB4.out⟩

end
end Go.Proofs.YtedchegejalolaaGreatDoor

