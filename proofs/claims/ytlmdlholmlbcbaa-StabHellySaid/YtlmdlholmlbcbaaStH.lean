/- StabHelly: the walk. -/
import Derived.Test.YtlmdlholmlbcbaaStN
import Derived.Test.YtlmdlholmlbcbaaStO
import Derived.Test.YtlmdlholmlbcbaaStP
namespace Go.Proofs.Ytlmdlholmlbcbaa
set_option linter.unusedVariables false
open Go.RowKit

def hlyOf (c x : Int) : Spn := ⟨c - pick x 30, c + pick (x.tdiv 30) 30⟩
def hlysOf (l : List Int) (n : Nat) (c : Int) : List Spn := (l.take n).map (hlyOf c)
theorem hlysOf_length (l : List Int) (n : Nat) (c : Int) : (hlysOf l n c).length = min n l.length := by simp [hlysOf]
theorem hlysOf_succ (l : List Int) (k : Nat) (c : Int) (h : k < l.length) : hlysOf l (k + 1) c = hlysOf l k c ++ [hlyOf c l[k]] := by
  rw [hlysOf, List.take_succ_eq_append_getElem h, List.map_append]; rfl
theorem hlysOf_bd (l : List Int) (n : Nat) (c : Int) : ∀ s ∈ hlysOf l n c, s.lo ≤ c ∧ c ≤ s.hi ∧ c - 30 ≤ s.lo ∧ s.hi ≤ c + 30 := by
  intro s hs
  obtain ⟨x, _, rfl⟩ := List.mem_map.1 hs
  have h1 := pick_bd x 30 (by omega)
  have h2 := pick_bd (x.tdiv 30) 30 (by omega)
  unfold hlyOf
  dsimp only
  omega
attribute [irreducible] hlysOf
theorem helly_nail {L : List Spn} {M out : List Nat} {n : Nat} {c : Int} (hL : L.length = n) (hG : GInv L M n out) (hM : M.Perm (List.range n)) (hc : ∀ s ∈ L, s.lo ≤ c ∧ c ≤ s.hi) (hm : (⟨c, c⟩ : Spn) ∈ L) : out.length = 1 ∧ (hisL L out).getD 0 0 = c := by
  subst hL
  obtain ⟨i, hi, e⟩ := List.getElem_of_mem hm
  have hml : M.length = L.length := by have := hM.length_eq; rwa [List.length_range] at this
  have hin : ∀ x ∈ out, x < L.length := fun x hx => List.mem_range.1 (hM.mem_iff.1 (List.mem_of_mem_take (hG.1 x hx)))
  have hcon : ∀ x ∈ out, (L.getD x sp0).lo ≤ c ∧ c ≤ (L.getD x sp0).hi := fun x hx => by
    rw [getD_at _ _ (hin x hx)]; exact hc _ (List.getElem_mem _)
  have h0 := hG.2.2.1 (by omega)
  have h1 : out.length = 1 := by
    by_cases h : out.length = 1
    · exact h
    · have := List.pairwise_iff_getElem.1 hG.2.1 0 1 (by omega) (by omega) (by omega)
      have a := hcon _ (List.getElem_mem (show 0 < out.length by omega))
      have b := hcon _ (List.getElem_mem (show 1 < out.length by omega))
      omega
  refine ⟨h1, ?_⟩
  obtain ⟨t, ht, a1, a2⟩ := hG.2.2.2 i (by rw [List.take_of_length_le (by omega)]; exact hM.mem_iff.2 (List.mem_range.2 hi))
  rw [getD_at L sp0 hi, e] at a1 a2
  dsimp only at a1 a2
  rw [hisL_getD L out 0 h0, getD_at out 0 h0]
  obtain ⟨q, hq, e2⟩ := List.getElem_of_mem ht
  have : q = 0 := by omega
  subst this
  rw [e2]; omega

attribute [local irreducible] GInv
set_option maxRecDepth 100000 in
set_option maxHeartbeats 8000000 in
theorem walk_StabHelly (a0 : Option Addr) (len0 cap0 : Nat) (z0 : List Int) (a1 : Int) (w : World) (w0 : IsRow .i64 w a0 len0 cap0 z0) (w1 : (Lit.int .i64 a1).wf = true) :
    Calls Try.prog 4 #[.slice a0 len0 cap0, .int .i64 a1] w fun e w' => e = .returned (.bool true) ∧ Below w.heap.size w w' := by
  obtain ⟨l, rfl, hl, wl, nl⟩ := row_sl w0
  obtain ⟨i1, i2⟩ := wf_bd w1
  obtain ⟨c, hcn, hcl⟩ : ∃ c, pick a1 100 = c ∧ 0 ≤ c ∧ c < 100 := ⟨_, rfl, pick_bd a1 100 (by omega)⟩
  have CP := Kp.mk (fun W => hcn ▸ picked_any a1 100 W (by omega) (by omega) i1 i2)
  have H := Kp.mk hl
  have HW := Kp.mk wl
  obtain ⟨m, hm⟩ : ∃ m, l.length = m := ⟨_, rfl⟩
  have HML := Kp.mk hm
  rw [hm] at nl ⊢
  unfold maxLen at nl
  obtain ⟨B, hB⟩ : ∃ B, B = w.heap.size := ⟨_, rfl⟩
  have HB := Kp.mk hB
  clear w0 w1 hl wl hcn hm hB
  go_enter Try.func4, Try.ntmps4
  go_wp2_with fail
  refine (CP.out _).mono ?_
  rintro e w' ⟨rfl, rfl⟩
  clear CP
  go_wp2
  go_loopw [6, 7] (fun v i wr => ∃ (k : Nat) (sa : Option Addr) (sc : Nat), k ≤ m ∧ k ≤ 40 ∧ i = .int .i64 k ∧ v = .slice sa k sc ∧ Kp (wr.ownsRow B 26 2 (.slice sa k sc) k (flat spL (hlysOf l k c))) ∧ Kp (Below B w wr)) (fun _ i _ => m - (intOf i).toNat)
  case atStart => exact ⟨0, none, 0, Nat.zero_le _, Nat.zero_le _, rfl, rfl, ⟨by unfold hlysOf; simp [flat, World.ownsRow_nil]⟩, ⟨Below.refl _ _⟩⟩
  case round =>
    obtain ⟨k, sa, sc, hkm, hkn, rfl, rfl, HO, HBL⟩ := hrel
    by_cases hgo : k < m ∧ k < 40
    · obtain ⟨hlt, hltn⟩ := hgo
      have hkl : k < l.length := by rw [HML.out]; exact hlt
      obtain ⟨b, off, rfl, cl⟩ := (H.out.below (HB.out ▸ HBL.out)).at k hkl
      have hbw : b < w.heap.size := by
        obtain ⟨b', off', e1, c1⟩ := H.out.at k hkl
        simp only [Option.some.injEq, Addr.mk.injEq, and_true] at e1
        rw [e1.1]; exact World.block_lt_of_cell? _ _ c1
      rw [← HB.out] at hbw
      have HSU := Kp.mk (hlysOf_succ l k c hkl)
      obtain ⟨i1, i2⟩ := wf_bd (HW.out _ (List.getElem_mem hkl))
      generalize l[k]'hkl = x at *
      obtain ⟨d1, d2⟩ := tdiv_bd x 30 (by omega) i1 i2
      obtain ⟨q1, h1', l1⟩ : ∃ q, pick x 30 = q ∧ 0 ≤ q ∧ q < 30 := ⟨_, rfl, pick_bd x 30 (by omega)⟩
      obtain ⟨q2, h2', l2⟩ : ∃ q, pick (x.tdiv 30) 30 = q ∧ 0 ≤ q ∧ q < 30 := ⟨_, rfl, pick_bd (x.tdiv 30) 30 (by omega)⟩
      have HOP := Kp.mk (show hlyOf c x = ⟨c - q1, c + q2⟩ from by simp only [hlyOf, h1', h2'])
      have C1 := Kp.mk (fun W => h1' ▸ picked_any x 30 W (by omega) (by omega) i1 i2)
      have C2 := Kp.mk (fun W => h2' ▸ picked_any (x.tdiv 30) 30 W (by omega) (by omega) d1 d2)
      have hBw : B ≤ wr.heap.size := by rw [HB.out]; exact HBL.out.size
      have e1 : IntKind.i64.wrap (c - q1) = c - q1 := IntWalk.i64_in _ (by omega)
      have e2 : IntKind.i64.wrap (x.tdiv 30) = x.tdiv 30 := IntWalk.i64_in _ (by omega)
      have e3 : IntKind.i64.wrap (c + q2) = c + q2 := IntWalk.i64_in _ (by omega)
      have HKS := Kp.mk (fun (w' : World) (hgr : (wr.alloc (.cells #[.int .i64 (c - q1), .int .i64 (c + q2)] 26)).drew.grownBy w' (blk sa)) => show w'.cell? ⟨b, off + k, none⟩ = some (.int .i64 x) from by
        have hbel := pushed_below HO.out hBw hgr
        exact (hbel.cell (p := ⟨b, off + k, none⟩) hbw).trans cl)
      clear h1' h2' hkl
      go_wp2
      go_region_held3 (fun w' => w'.cell? ⟨b, off + k, none⟩ = some (.int .i64 x))
        (first | exact cl | go_keep | exact hS7)
        ((first
          | (go_at_call 19; (first | (with_reducible refine (C1.out _).mono ?_) | (with_reducible refine (C2.out _).mono ?_)); rintro e w' ⟨rfl, rfl⟩)
          | (refine step_push tSps (by rfl) _ _ (by rfl) B sa k sc _ (by rfl) ((HO.out.alloc _).drew) 1 wr.heap.size _ (heap_alloc_new wr _) (by rfl) (by rfl) (by simp [Value.oneCell']) (by omega) (by omega) (by omega) (by show B ≤ (wr.alloc _).heap.size; rw [alloc_size]; omega) ?_; intro sa' cap' w' hown' hgr hno; have hS7 := HKS.out w' hgr)
          | fail))
      all_goals
        have HO7 := Kp.mk (show w'.ownsRow B 26 2 (.slice sa' (k + 1) cap') (k + 1) (flat spL (hlysOf l (k + 1) c)) from by
          rw [HSU.out, flat_append, HOP.out]
          have e : flat spL [(⟨c - q1, c + q2⟩ : Spn)] = [.int .i64 (c - q1), .int .i64 (c + q2)] := by simp [flat, spL]
          rw [e]; exact hown')
        have HB7 := Kp.mk (HBL.out.trans (pushed_below HO.out hBw hgr))
        clear hown' hgr hno hS7
        go_wp2
        go_roundw
        case rel => exact ⟨k + 1, sa', cap', by omega, by omega, by go_num, rfl, HO7, HB7⟩
        case measure => simp [intOf]; omega
    · have HBD := Kp.mk (hlysOf_bd l k c)
      have HLN := Kp.mk (show (hlysOf l k c).length = k by rw [hlysOf_length, HML.out]; omega)
      have hor : (k < m ∧ ¬ k < 40) ∨ ¬ k < m := by
        by_cases h1 : k < m
        · exact .inl ⟨h1, fun h2 => hgo ⟨h1, h2⟩⟩
        · exact .inr h1
      have hBr : B ≤ wr.heap.size := by rw [HB.out]; exact HBL.out.size
      clear hgo
      generalize hlysOf l k c = P at *
      have tail : True := trivial
      rcases hor with ⟨hlt, hm60⟩ | hlt
      all_goals
        go_wp2_with (at_builtin; refine wpList_push tSps rfl _ _ rfl B sa k sc _ rfl HO.out 1 1 _ rfl rfl ?d1 (by decide) ?d2 (by decide) hBr ?d4)
        case d1 => simp [Value.oneCell']
        case d2 => omega
        case d4 =>
          intro na nc w2 ho2 hb2
          obtain ⟨L, hL⟩ : ∃ L : List Spn, L = P ++ [⟨c, c⟩] := ⟨_, rfl⟩
          generalize hn : k + 1 = n at *
          have HLL := Kp.mk (show L.length = n by rw [hL, List.length_append, HLN.out, ← hn]; rfl)
          have HN2 := Kp.mk (show SlF spL 2 w2 na n nc L from own_slc (show w2.ownsRow B 26 2 (.slice na n nc) n (flat spL L) from by
            rw [hL, flat_append]
            have e : flat spL [(⟨c, c⟩ : Spn)] = [.int .i64 c, .int .i64 c] := by simp [flat, spL]
            rw [e]; exact ho2))
          have HB2 := Kp.mk (show Below w.heap.size w w2 from HB.out ▸ (HBL.out.trans hb2))
          have HLB := Kp.mk (show ∀ s ∈ L, s.lo ≤ c ∧ c ≤ s.hi ∧ c - 30 ≤ s.lo ∧ s.hi ≤ c + 30 from fun s hs => by
            rw [hL] at hs
            rcases List.mem_append.1 hs with hs | hs
            · exact HBD.out _ hs
            · rw [List.mem_singleton.1 hs]; dsimp only; omega)
          have HOK := Kp.mk (show ∀ s ∈ L, s.Ok from fun s hs => by
            have := HLB.out s hs; unfold Spn.Ok; omega)
          have HCC := Kp.mk (show (⟨c, c⟩ : Spn) ∈ L by rw [hL]; simp)
          have hn81 : n ≤ 41 := by omega
          have hn0 : 0 < n := by omega
          clear ho2 hb2 hL HO HBD hn HLN
          go_wp2_with (at_builtin; refine wpList_cat tSps rfl _ _ rfl w2.heap.size none 0 0 [] rfl (World.ownsRow_nil _ _ _ _) _ _ _ _ rfl HN2.out (flat_one spL_one L) ?e1 (by decide) (Nat.le_refl _) ?e2)
          case e1 => omega
          case e2 =>
            intro ca cc w3 hc hb3
            have HC3 := Kp.mk (show SlF spL 2 w3 ca n cc L from own_slc (by simpa using hc))
            have HN3 := Kp.mk (SlF.below HN2.out hb3)
            have HB3 := Kp.mk (below_step HB2.out hb3)
            clear hc hb3 HN2
            go_wp2_with fail
            refine (Nails_any ca cc n L w3 HC3.out (by omega) hn0 HOK.out).mono ?_
            rintro e w4 ⟨xa, xc, m', out, M, rfl, HOL, HX4, HG4, hb4⟩
            have HN4 := Kp.mk (SlF.below HN3.out hb4)
            have HB4 := Kp.mk (below_step HB3.out hb4)
            have HNL := Kp.mk (helly_nail HLL.out HG4.out.2 HG4.out.1 (fun s hs => ⟨(HLB.out s hs).1, (HLB.out s hs).2.1⟩) HCC.out)
            obtain rfl : m' = 1 := by rw [← HOL.out]; exact HNL.out.1
            clear hb4 HN3 HB3 HC3
            go_wp2_with (at_builtin; refine wpList_cat tSps rfl _ _ rfl w4.heap.size none 0 0 [] rfl (World.ownsRow_nil _ _ _ _) _ _ _ _ rfl HN4.out (flat_one spL_one L) ?f1 (by decide) (Nat.le_refl _) ?f2)
            case f1 => omega
            case f2 =>
              intro da dc w5 hc hb5
              have HC5 := Kp.mk (show SlF spL 2 w5 da n dc L from own_slc (by simpa using hc))
              have HX5 := Kp.mk (own_below HX4.out hb5)
              have HB5 := Kp.mk (below_step HB4.out hb5)
              clear hc hb5 HN4 HX4 HB4
              go_wp2_with fail
              refine (most_any da dc n L w5 HC5.out (by omega) hn0 HOK.out).mono ?_
              rintro e w6 ⟨many, at', rfl, HM, hb6⟩
              have HX6 := Kp.mk (own_below HX5.out hb6)
              have HB6 := Kp.mk (below_step HB5.out hb6)
              obtain ⟨rfl, rfl⟩ := helly_most HM.out HLL.out (fun s hs => ⟨(HLB.out s hs).1, (HLB.out s hs).2.1⟩) HCC.out
              obtain ⟨g1, rfl, _⟩ := own_some HX6.out (by omega)
              have y0 := int_at HX6.out (by rw [hisL_length]; exact HOL.out) 0 (by omega)
              rw [HNL.out.2] at y0
              clear hb6 HX5 HB5 HC5 HM
              go_wp2
              go_ret
              exact ⟨by simp, HB6.out⟩

end Go.Proofs.Ytlmdlholmlbcbaa
