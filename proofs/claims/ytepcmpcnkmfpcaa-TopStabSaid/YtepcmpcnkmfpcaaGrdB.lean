/- Package grid: the walk of build. -/
import Derived.Test.YtepcmpcnkmfpcaaOrdG
import Derived.Test.YtepcmpcnkmfpcaaGrdP
import Derived.Test.YtepcmpcnkmfpcaaRnk
import Derived.Test.YtepcmpcnkmfpcaaWavF
namespace Go.Proofs.Ytepcmpcnkmfpcaa
set_option linter.unusedVariables false
open Go.RowKit Go.Sort

/-- The plain facts of an index. -/
structure GFacts (n : Nat) (L : List Pt) (O : List Nat) (V : List Int) (R : List Nat) : Prop where
  len : L.length = n
  ord : IsOrder L O
  up : Up V
  rl : R.length = n
  rk : ∀ i, i < n → R.getD i 0 < V.length ∧ V.getD (R.getD i 0) 0 = (L.getD (O.getD i 0) pt0).y
  vl : V.length ≤ n
/-- An index in memory. -/
structure GIdx (w : World) (g : Nat) (a : Option Addr) (cap n : Nat) (L : List Pt) (oa : Option Addr) (oc : Nat) (O : List Nat) (va : Option Addr) (v vc : Nat) (V : List Int) (wa : Option Addr) (wc : Nat) (R : List Nat) : Prop where
  bx : Box w g #[.slice a n cap, .slice oa n oc, .slice va v vc, .slice wa 8 wc] 84
  ps : SlF ptL 3 w a n cap L
  ord : SlI w oa oc (O.map Int.ofNat)
  vals : SlI w va vc V
  vlen : V.length = v
  wave : IsWave w wa wc 8 R
theorem GIdx.below {w w' : World} {g : Nat} {a : Option Addr} {cap n : Nat} {L : List Pt} {oa : Option Addr} {oc : Nat} {O : List Nat} {va : Option Addr} {v vc : Nat} {V : List Int} {wa : Option Addr} {wc : Nat} {R : List Nat}
    (h : GIdx w g a cap n L oa oc O va v vc V wa wc R) (hb : Below w.heap.size w w') : GIdx w' g a cap n L oa oc O va v vc V wa wc R :=
  ⟨h.bx.below hb, h.ps.below hb, h.ord.below hb, h.vals.below hb, h.vlen, h.wave.below hb⟩
/-- The memory of build. -/
structure BldMem (bs : Nat) (w wr : World) (a : Option Addr) (cap n : Nat) (cs : Array Value) : Prop where
  low : Below bs w wr
  b1 : Box wr bs #[.slice a n cap] 23
  b2 : Box wr (bs + 1) cs 84
  sz : bs + 2 ≤ wr.heap.size
theorem BldMem.below {bs : Nat} {w wr w' : World} {a : Option Addr} {cap n : Nat} {cs : Array Value} (h : BldMem bs w wr a cap n cs) (hb : Below wr.heap.size wr w') : BldMem bs w w' a cap n cs :=
  ⟨h.low.trans (hb.mono (by have := h.sz; omega)), h.b1.below hb, h.b2.below hb, Nat.le_trans h.sz hb.size⟩
theorem BldMem.grown {bs : Nat} {w wr w' : World} {a : Option Addr} {cap n : Nat} {cs : Array Value} {r : Option Nat} (h : BldMem bs w wr a cap n cs) (hg : wr.grownBy w' r) (hr : ∀ k, r = some k → bs + 2 ≤ k) : BldMem bs w w' a cap n cs :=
  ⟨h.low.trans (below_of_grown hg (by have := h.sz; omega) (fun k hk => by have := hr k hk; omega)), box_grow h.b1 hg (fun e => by have := hr _ e; omega), box_grow h.b2 hg (fun e => by have := hr _ e; omega), Nat.le_trans h.sz hg.size⟩
theorem BldMem.put {bs : Nat} {w wr : World} {a : Option Addr} {cap n : Nat} {cs : Array Value} (h : BldMem bs w wr a cap n cs) (i : Nat) (u : Value) : BldMem bs w (wr.setCell ⟨bs + 1, i, none⟩ u) a cap n (cs.setIfInBounds i u) :=
  ⟨h.low.trans (below_of_grown (grown_set wr (bs + 1) i u) (by have := h.sz; omega) (fun k hk => by cases hk; omega)), box_far h.b1 (by omega), box_put h.b2 u, Nat.le_trans h.sz (grown_set wr (bs + 1) i u).size⟩

/-- A store into a box that holds no integers leaves rows of integers as they were. -/
theorem slc_far {w : World} {a : Option Addr} {len cap size : Nat} {cs : List Value} (h : SlC w a len cap size cs) {b o : Nat} {ds : Array Value} {t : TypeId} {v : Value} (hb : Box w b ds t) (hi : ∀ u ∈ cs, ∃ x : Int, u = .int .i64 x) (hd : ∀ u ∈ ds.toList, ∀ x : Int, u ≠ .int .i64 x) : SlC (w.setCell ⟨b, o, none⟩ v) a len cap size cs :=
  ⟨h.hlen, h.le, h.capm, h.nil, fun i hi' => by
    obtain ⟨b', off, ha, hc⟩ := h.cell i hi'
    refine ⟨b', off, ha, ?_⟩
    by_cases e : b' = b
    · exfalso
      subst e
      have hb' : w.heap[b']? = some (.cells ds t (0, 0)) := hb
      rw [cell_of_row w b' (off + i) ds t (0, 0) hb'] at hc
      obtain ⟨x, hx⟩ := hi _ (List.getElem_mem hi')
      obtain ⟨hlt, he⟩ := Array.getElem?_eq_some_iff.1 hc
      exact hd _ (by rw [← he]; simp) x hx
    · rw [World.cell?_setCell_other _ _ _ _ (fun e' => by simp only [Addr.mk.injEq] at e'; exact e e'.1.symm)]
      exact hc⟩
theorem ints_int (l : List Int) : ∀ u ∈ ints l, ∃ x : Int, u = .int .i64 x := by
  intro u hu
  obtain ⟨x, _, rfl⟩ := List.mem_map.1 hu
  exact ⟨x, rfl⟩
theorem pts_int (L : List Pt) : ∀ u ∈ flat ptL L, ∃ x : Int, u = .int .i64 x := by
  intro u hu
  obtain ⟨p, _, hp⟩ := List.mem_flatMap.1 hu
  simp only [ptL, List.mem_cons, List.not_mem_nil, or_false] at hp
  rcases hp with rfl | rfl | rfl <;> exact ⟨_, rfl⟩
theorem wave_far {w : World} {a : Option Addr} {cap K b o : Nat} {l : List Nat} {cs : Array Value} {v : Value} (h : IsWave w a cap K l) (hb : Box w b cs 84) : IsWave (w.setCell ⟨b, o, none⟩ v) a cap K l := by
  unfold IsWave at *
  obtain ⟨L, h1, h2, h3⟩ := h
  have hg := grown_set w b o v
  exact ⟨L, h1, own_keep h2 hg (fun q hq hm => by simp at hq; subst hq; exact box_own h2 hb (by decide) hm), fun x hx => own_keep (h3 x hx) hg (fun q hq hm => by simp at hq; subst hq; exact box_own (h3 x hx) hb (by decide) hm)⟩
theorem irange_succ (k : Nat) : ints ((List.range (k + 1)).map Int.ofNat) = ints ((List.range k).map Int.ofNat) ++ [.int .i64 (k : Int)] := by
  rw [List.range_succ, List.map_append, ints_append]; rfl

set_option maxRecDepth 100000 in
set_option maxHeartbeats 4000000 in
theorem gbuild_any (a : Option Addr) (cap m : Nat) (L : List Pt) (w : World) (h : SlF ptL 3 w a (m + 1) cap L) (hm : m + 1 ≤ 150) :
    Calls Try.prog 39 #[.slice a (m + 1) cap] w fun e w' => ∃ g oa oc O va v vc V wa wc R, e = .returned (.pointer (some ⟨g, 0, none⟩)) ∧ Kp (GIdx w' g a cap (m + 1) L oa oc O va v vc V wa wc R) ∧ Kp (GFacts (m + 1) L O V R) ∧ Kp (Below w.heap.size w w') := by
  have HL := Kp.mk (h.len ptL_len (by omega))
  have H := Kp.mk h
  have HLT := Kp.mk (show ∀ k, blk a = some k → k < w.heap.size from fun k hk => by
    obtain ⟨k', h1, h2⟩ := SlC.lt h (by rw [flat_length ptL_len, HL.out]; omega)
    rw [h1] at hk; cases hk; exact h2)
  have eg : ∀ args w, (callFunc 71 args).run Try.prog w = .ok (.enter 71 args) w := enters_of Try.func71 (by kernel_rfl) rfl
  have HM0 := Kp.mk (show BldMem w.heap.size w ((w.alloc (.cells #[.slice a (m + 1) cap] 23)).alloc (.cells #[.slice a (m + 1) cap, .slice none 0 0, .slice none 0 0, .slice none 0 0] 84)) a cap (m + 1) #[.slice a (m + 1) cap, .slice none 0 0, .slice none 0 0, .slice none 0 0] from
    ⟨below_then_alloc (below_alloc (Nat.le_refl _) _) _, (Box.new w _ _).alloc _, by have := Box.new (w.alloc (.cells #[.slice a (m + 1) cap] 23)) #[.slice a (m + 1) cap, .slice none 0 0, .slice none 0 0, .slice none 0 0] 84; rwa [alloc_size] at this, by rw [alloc_size, alloc_size]; omega⟩)
  have c0 : (w.alloc (.cells #[.slice a (m + 1) cap] 23)).cell? ⟨w.heap.size, 0, none⟩ = some (.slice a (m + 1) cap) := (Box.new w _ _).cell 0 rfl
  have c1 : ((w.alloc (.cells #[.slice a (m + 1) cap] 23)).alloc (.cells #[.slice a (m + 1) cap, .slice none 0 0, .slice none 0 0, .slice none 0 0] 84)).cell? ⟨w.heap.size, 0, none⟩ = some (.slice a (m + 1) cap) := HM0.out.b1.cell 0 rfl
  clear h
  go_enter Try.func39, Try.ntmps39
  go_wp2
  obtain ⟨bs, hbs⟩ : ∃ bs, bs = w.heap.size := ⟨_, rfl⟩
  rw [← hbs] at HM0 HLT c0 c1 ⊢
  have HBS := Kp.mk hbs
  clear hbs
  generalize (w.alloc (.cells #[.slice a (m + 1) cap] 23)).alloc (.cells #[.slice a (m + 1) cap, .slice none 0 0, .slice none 0 0, .slice none 0 0] 84) = w2 at *
  clear c0
  have enc2 : ((bs : Int) + 1) = ((bs + 1 : Nat) : Int) := by omega
  go_loopw [16] (fun i wr => ∃ (k : Nat) (ra : Option Addr) (rc : Nat), k ≤ m + 1 ∧ i = .int .i64 k ∧ Kp (wr.ownsRow (bs + 2) 3 1 (.slice ra k rc) k (ints ((List.range k).map Int.ofNat))) ∧ Kp (BldMem bs w wr a cap (m + 1) #[.slice a (m + 1) cap, .slice ra k rc, .slice none 0 0, .slice none 0 0])) (fun i _ => m + 1 - (intOf i).toNat)
  case atStart => exact ⟨0, none, 0, Nat.zero_le _, rfl, ⟨World.ownsRow_nil _ _ _ _⟩, HM0⟩
  case round =>
    obtain ⟨k, ra, rc, hk, rfl, HO, HM⟩ := hrel
    have d1 := HM.out.b2.cell 1 rfl
    by_cases hlt : k < m + 1
    · have HMA := Kp.mk (HM.out.below (below_alloc (Nat.le_refl wr.heap.size) (.cells #[.int .i64 (k : Int)] 3)))
      go_wp2_with (at_builtin; refine wpList_pushS tInts rfl _ _ rfl (bs + 2) ra k rc _ rfl HO.out 1 _ rfl rfl ?d1 ?d2 (by decide) HM.out.sz ?d4)
      case d1 => simp [Value.oneCell']
      case d2 => omega
      case d4 =>
        intro ya yc w4 ho4 hg4 hn4
        have HM4 := Kp.mk (HM.out.grown hg4 (fun q hq => (own_lt HO.out q hq).1))
        have HO4 := Kp.mk (show w4.ownsRow (bs + 2) 3 1 (.slice ya (k + 1) yc) (k + 1) (ints ((List.range (k + 1)).map Int.ofNat)) from by
          rw [irange_succ]; exact ho4)
        have e1 := HM4.out.b2.cell 1 rfl
        have f1 := HM4.out.b2.free 1
        have HM5 := Kp.mk (HM4.out.put 1 (.slice ya (k + 1) yc))
        have HO5 := Kp.mk (own_keep HO4.out (grown_set w4 (bs + 1) 1 (.slice ya (k + 1) yc)) (fun q hq => by cases hq; exact row_box HO4.out HM4.out.b2 (by decide)))
        clear ho4 hg4 hn4 d1 HMA
        go_wp2
        go_roundw
        case rel => exact ⟨k + 1, ya, yc, by omega, by go_num, HO5, HM5⟩
        case measure => simp [intOf]; omega
    · obtain rfl : k = m + 1 := by omega
      have hbr : Below w.heap.size w wr := by rw [← HBS.out]; exact HM.out.low
      have HP := Kp.mk (H.out.below hbr)
      have CS := Kp.mk (sortPl_own 71 #[.pointer (some ⟨bs, 0, none⟩)] L m (bs + 2) ra rc wr HL.out (by omega) eg HO.out HM.out.sz (fun w' gb ha hg x y hx hy => by
        have hgb := own_lt HO.out gb (by rw [ha]; rfl)
        refine gridOrd_any bs a cap (m + 1) x y L w' (SlC.keep HP.out hg (fun k hk => by
          cases hk
          intro e
          have h3 : gb < bs := HLT.out gb e
          omega)) (by omega) ?_ hx hy
        exact ((HM.out.grown hg (fun k hk => by cases hk; omega)).b1).cell 0 rfl))
      go_wp2_with fail
      refine CS.out.mono ?_
      rintro e w3 ⟨rfl, O, HOR, HO3, HG⟩
      have HM3 := Kp.mk (HM.out.grown HG.out (fun q hq => (own_lt HO.out q hq).1))
      have HP3 := Kp.mk (H.out.below (show Below w.heap.size w w3 by rw [← HBS.out]; exact HM3.out.low))
      have HOL := Kp.mk (show O.length = m + 1 by rw [HOR.out.len, HL.out])
      have HORD := Kp.mk (own_sl_len HO3.out (by rw [List.length_map]; exact HOL.out))
      have d3 := HM3.out.b2.cell 1 rfl
      have b3 := HM3.out.b1.cell 0 rfl
      clear d1 CS HO HM HP hbr
      obtain ⟨wo, rfl⟩ : ∃ wo : World, wo = w3 := ⟨_, rfl⟩
      have hso := HM3.out.sz
      obtain ⟨Y, hY⟩ : ∃ Y : List Int, Y = O.map (fun i => (L.getD i pt0).y) := ⟨_, rfl⟩
      have HYL := Kp.mk (show Y.length = m + 1 by rw [hY, List.length_map, HOL.out])
      have HYG := Kp.mk (show ∀ i, i < m + 1 → Y.getD i 0 = (L.getD (O.getD i 0) pt0).y from fun i hi => by
        rw [hY, getD_at _ _ (by rw [List.length_map, HOL.out]; exact hi), List.getElem_map, getD_at O 0 (by rw [HOL.out]; exact hi)])
      have HYT := Kp.mk (show ∀ i, i < m + 1 → ints (Y.take (i + 1)) = ints (Y.take i) ++ [.int .i64 (Y.getD i 0)] from fun i hi => by
        rw [List.take_succ_eq_append_getElem (by rw [HYL.out]; exact hi), ints_append, getD_at Y 0 (by rw [HYL.out]; exact hi)]; rfl)
      clear hY
      go_wp2
      go_loopw [4, 41] (fun x i wr => ∃ (k : Nat) (ya : Option Addr) (yc : Nat), k ≤ m + 1 ∧ i = .int .i64 k ∧ x = .slice ya k yc ∧ Kp (wr.ownsRow wo.heap.size 3 1 (.slice ya k yc) k (ints (Y.take k))) ∧ Kp (Below wo.heap.size wo wr)) (fun _ i _ => m + 1 - (intOf i).toNat)
      case atStart => exact ⟨0, none, 0, Nat.zero_le _, rfl, rfl, ⟨World.ownsRow_nil _ _ _ _⟩, ⟨Below.refl _ _⟩⟩
      case round =>
        obtain ⟨k, ya, yc, hk, rfl, rfl, HY, HB⟩ := hrel
        by_cases hlt : k < m + 1
        · obtain ⟨ob, oo, rfl, co⟩ := (HORD.out.below HB.out).at k (by rw [List.length_map, HOL.out]; exact hlt)
          have hil := HOR.out.lt k (by rw [HOL.out]; exact hlt)
          rw [HL.out] at hil
          rw [List.getElem_map, ← getD_at O 0 (by rw [HOL.out]; exact hlt)] at co
          obtain ⟨pb, po, rfl, hpb, cp⟩ := (HP3.out.below HB.out).at ptL_len (by omega) (O.getD k 0) (by rw [HL.out]; exact hil)
          rw [← getD_at L pt0 (by rw [HL.out]; exact hil)] at cp
          have hyg := HYG.out k hlt
          have hyt := HYT.out k hlt
          rw [hyg] at hyt
          generalize L.getD (O.getD k 0) pt0 = p at *
          generalize O.getD k 0 = i at *
          have p1 : wr.cell? ⟨pb, po + i * 3 + 1, none⟩ = some (.int .i64 p.y) := cp 1 (by omega)
          have co' : wr.cell? ⟨ob, oo + k, none⟩ = some (.int .i64 (i : Int)) := co
          have b3r := (HM3.out.b1.below HB.out).cell 0 rfl
          have hin : (i : Int) < (m : Int) + 1 := by omega
          have HYTK := Kp.mk hyt
          clear cp co hyg hyt
          go_wp2_with (at_builtin; refine wpList_push tInts rfl _ _ rfl wo.heap.size ya k yc _ rfl HY.out 1 1 _ rfl rfl ?d1 (by decide) ?d2 (by decide) HB.out.size ?d4)
          case d1 => simp [Value.oneCell']
          case d2 => omega
          case d4 =>
            intro za zc w4 ho4 hb4
            have HY4 := Kp.mk (show w4.ownsRow wo.heap.size 3 1 (.slice za (k + 1) zc) (k + 1) (ints (Y.take (k + 1))) from by rw [HYTK.out]; exact ho4)
            have HB4 := Kp.mk (HB.out.trans hb4)
            clear ho4 hb4 p1 co' b3r
            go_wp2
            go_roundw
            case rel => exact ⟨k + 1, za, zc, by omega, by go_num, rfl, HY4, HB4⟩
            case measure => simp [intOf]; omega
        · obtain rfl : k = m + 1 := by omega
          have HMr := Kp.mk (HM3.out.below HB.out)
          have hYall : Y.take (m + 1) = Y := List.take_of_length_le (by rw [HYL.out]; exact Nat.le_refl _)
          rw [hYall] at HY
          have HYS := Kp.mk (own_sl_len HY.out HYL.out)
          have HPr := Kp.mk (HP3.out.below HB.out)
          have HOr := Kp.mk (HORD.out.below HB.out)
          clear hYall d3 b3 HM3 HP3 HORD hso
          go_wp2_with fail
          refine (rmake_any ya yc (m + 1) Y wr HYS.out HYL.out (by omega)).mono ?_
          rintro e w5 ⟨va, v, vc, ra, rc, R, rfl, HVL, HVS, HRS, HRK, HB5⟩
          have HF := Kp.mk (show GFacts (m + 1) L O (valL Y) R from ⟨HL.out, HOR.out, valL_up Y, by rw [HRK.out.1, HYL.out], fun i hi => by
            have h1 := HRK.out.2 i (by rw [HYL.out]; exact hi)
            rw [← HYG.out i hi]
            exact rk_get (valL_up Y) ((valL_mem Y _).2 (by rw [getD_at _ _ (by rw [HYL.out]; exact hi)]; exact List.getElem_mem _)) h1, by have := valL_length Y; rw [HYL.out] at this; exact this⟩)
          have HM5 := Kp.mk (HMr.out.below HB5.out)
          have HP5 := Kp.mk (HPr.out.below HB5.out)
          have HO5 := Kp.mk (HOr.out.below HB5.out)
          generalize valL Y = V at *
          have e2 := HM5.out.b2.cell 2 rfl
          have f2 := HM5.out.b2.free 2
          have HM6 := Kp.mk (HM5.out.put 2 (.slice va v vc))
          have hg6 := grown_set w5 (bs + 1) 2 (.slice va v vc)
          have HP6 := Kp.mk (slc_far (o := 2) (v := .slice va v vc) HP5.out HM5.out.b2 (pts_int L) (by simp))
          have HO6 := Kp.mk (slc_far (o := 2) (v := .slice va v vc) HO5.out HM5.out.b2 (ints_int _) (by simp))
          have HV6 := Kp.mk (slc_far (o := 2) (v := .slice va v vc) HVS.out HM5.out.b2 (ints_int _) (by simp))
          have HR6 := Kp.mk (slc_far (o := 2) (v := .slice va v vc) HRS.out HM5.out.b2 (ints_int _) (by simp))
          have HR7 := Kp.mk (show SlC (w5.setCell ⟨bs + 1, 2, none⟩ (.slice va v vc)) ra (m + 1) rc 1 (nts R) from by
            have := HR6.out
            rw [List.length_map, HF.out.rl] at this
            rw [nts_ints]; exact this)
          have CW := Kp.mk (wmake_any ra rc 8 (m + 1) R _ HR7.out (by omega) (by omega) (by omega) (fun y hy => by
            obtain ⟨i, hi, rfl⟩ := List.getElem_of_mem hy
            have := HF.out.rk i (by rw [← HF.out.rl]; exact hi)
            rw [getD_at R 0 hi] at this
            have := HF.out.vl
            omega))
          clear HMr HPr HOr HB5 HYS HY HB HP5 HO5 HVS HRS HR6 HR7 hg6
          generalize hw6 : w5.setCell ⟨bs + 1, 2, none⟩ (.slice va v vc) = w6 at *
          go_wp2_with fail
          unfold WaveRet at CW
          refine CW.out.mono ?_
          rintro e w7 ⟨wa, wc, rfl, HW, hb7⟩
          have HM7 := Kp.mk (HM6.out.below hb7)
          have HP7 := Kp.mk (SlC.below HP6.out hb7)
          have HO7 := Kp.mk (SlC.below HO6.out hb7)
          have HV7 := Kp.mk (SlC.below HV6.out hb7)
          have e3 := HM7.out.b2.cell 3 rfl
          have f3 := HM7.out.b2.free 3
          have HM8 := Kp.mk (HM7.out.put 3 (.slice wa 8 wc))
          have HP8 := Kp.mk (slc_far (o := 3) (v := .slice wa 8 wc) HP7.out HM7.out.b2 (pts_int L) (by simp))
          have HO8 := Kp.mk (slc_far (o := 3) (v := .slice wa 8 wc) HO7.out HM7.out.b2 (ints_int _) (by simp))
          have HV8 := Kp.mk (slc_far (o := 3) (v := .slice wa 8 wc) HV7.out HM7.out.b2 (ints_int _) (by simp))
          have HW8 := Kp.mk (wave_far (o := 3) (v := .slice wa 8 wc) HW.out HM7.out.b2)
          clear CW HM6 HP6 HO6 HV6 HP7 HO7 HV7 HW hb7 e2 f2 hw6
          go_wp2
          go_ret
          refine ⟨bs + 1, _, _, O, va, v, vc, V, wa, wc, R, rfl, ⟨⟨?_, HP8.out, HO8.out, HV8.out, HVL.out, HW8.out⟩⟩, HF, ⟨by rw [← HBS.out]; exact HM8.out.low⟩⟩
          exact HM8.out.b2

end Go.Proofs.Ytepcmpcnkmfpcaa
