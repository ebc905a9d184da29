import Derived.Test.YtladgklnacihkaaGreatMg20
import Derived.Test.YtladgklnacihkaaGreatMg17
/- Points that come and go: the first ones of what the batches tell. -/
namespace Go.Proofs.YtladgklnacihkaaGreat.Dy
set_option linter.unusedVariables false
open Go.RowKit

abbrev ip0 : IP := (0, pt0)
/-- What is told of some places of a batch. -/
def toldOf (f : Pt → Int) (L : List IP) (out : List Nat) : List (Int × Int) := out.map fun i => (f (L.getD i ip0).2, (L.getD i ip0).1)
theorem toldOf_perm {f : Pt → Int} {sel : Pt → Bool} {L : List IP} {out : List Nat} (h : out.Perm ((List.range L.length).filter (fun i => sel (L.getD i ip0).2))) :
    (toldOf f L out).Perm ((L.filter (fun a => sel a.2)).map fun a => (f a.2, a.1)) := by
  refine (h.map _).trans ?_
  have e : ((List.range L.length).filter (fun i => sel (L.getD i ip0).2)).map (fun i => (f (L.getD i ip0).2, (L.getD i ip0).1)) = (L.filter (fun a => sel a.2)).map fun a => (f a.2, a.1) := by
    conv => rhs; rw [← map_range_getD' L ip0, List.filter_map, List.map_map]
    rfl
  rw [e]
theorem toldOf_len (f : Pt → Int) (L : List IP) (out : List Nat) : (toldOf f L out).length = out.length := by simp [toldOf]
theorem toldOf_succ (f : Pt → Int) (L : List IP) (out : List Nat) (j : Nat) (h : j < out.length) : (toldOf f L out).take (j + 1) = (toldOf f L out).take j ++ [(f (L.getD out[j] ip0).2, (L.getD out[j] ip0).1)] := by
  rw [List.take_succ_eq_append_getElem (by rw [toldOf_len]; exact h)]
  simp [toldOf]
theorem told_len_le {sel : Pt → Bool} {L : List IP} {out : List Nat} (h : out.Perm ((List.range L.length).filter (fun i => sel (L.getD i ip0).2))) : out.length ≤ L.length := by
  rw [h.length_eq]
  have := List.length_filter_le (fun i => sel (L.getD i ip0).2) (List.range L.length)
  rwa [List.length_range] at this

set_option maxRecDepth 100000 in
set_option maxHeartbeats 32000000 in
theorem best_any (B s : Nat) (ba : Option Addr) (bc : Nat) (T : List Bt) (nx ct kk : Nat) (g1 g2 : FuncId) (cb1 cb2 : Array Value) (sel : Pt → Bool) (f : Pt → Int) (w : World) (h : StM w B s ba bc T nx ct) (hct : (allL T).length ≤ 150) (hT : T.length ≤ 1000) (hkk : kk ≤ 1000)
    (eg1 : ∀ args w, (callFunc g1 args).run Tryz.prog w = .ok (.enter g1 args) w) (eg2 : ∀ args w, (callFunc g2 args).run Tryz.prog w = .ok (.enter g2 args) w)
    (hof : ∀ W, Below w.heap.size w W → ∀ t ∈ T, Calls Tryz.prog g1 (#[.pointer (some ⟨t.b, 0, none⟩)] ++ cb1) W fun e w' => ∃ (ra : Option Addr) (m rc : Nat) (out : List Nat), e = .returned (.slice ra m rc) ∧ Kp (out.Perm ((List.range t.L.length).filter (fun i => sel (t.L.getD i ip0).2))) ∧ Kp (w'.ownsRow W.heap.size 3 1 (.slice ra m rc) m (ints (out.map Int.ofNat))) ∧ Kp (Below W.heap.size W w'))
    (hby : ∀ W, Below w.heap.size w W → ∀ p ∈ (allL T).map (·.2), Calls Tryz.prog g2 (#[.agg #[.int .i64 p.x, .int .i64 p.y, .int .i64 p.w]] ++ cb2) W fun e w' => e = .returned (.int .i64 (f p)) ∧ Kp (Below W.heap.size W w')) :
    Calls Tryz.prog 64 #[.pointer (some ⟨s, 0, none⟩), .int .i64 (kk : Int), .func (.func g1) #[] cb1, .func (.func g2) #[] cb2] w fun e w' => ∃ (ra : Option Addr) (m rc : Nat) (ids : List Int), e = .returned (.slice ra m rc) ∧ Kp (IsBest f ((allL T).filter (fun a => sel a.2)) kk ids) ∧ Kp (w'.ownsRow w.heap.size 3 1 (.slice ra m rc) m (ints ids)) ∧ Kp (Below w.heap.size w w') := by
  have H := Kp.mk h
  have HCT := Kp.mk hct
  have HOF := Kp.mk hof
  have HBY := Kp.mk hby
  obtain ⟨n, hn⟩ : ∃ n, T.length = n := ⟨_, rfl⟩
  have HN := Kp.mk hn
  have hbx := h.box
  rw [hn] at hbx hT
  have z0 : w.cell? ⟨s, 0, none⟩ = some (.slice ba n bc) := hbx.cell 0 rfl
  have HBX := Kp.mk hbx
  clear h hct hof hby hn hbx
  go_enter Tryz.func64, Tryz.ntmps64
  go_wp2_with fail
  go_loopw [9, 22] (fun v i wr => ∃ (k : Nat) (oa : Option Addr) (oc c : Nat) (D : List (Int × Int)), k ≤ n ∧ i = .int .i64 k ∧ v = .slice oa c oc ∧ Kp (D.length = c) ∧ Kp (D.Perm (((allL (T.take k)).filter (fun a => sel a.2)).map fun a => (f a.2, a.1))) ∧ Kp (wr.ownsRow w.heap.size 152 2 (.slice oa c oc) c (flat toldL D)) ∧ Kp (Below w.heap.size w wr)) (fun _ i _ => n - (intOf i).toNat)
  case atStart => exact ⟨0, none, 0, 0, [], Nat.zero_le _, rfl, rfl, ⟨rfl⟩, ⟨by simp [allL]⟩, ⟨World.ownsRow_nil _ _ _ _⟩, ⟨Below.refl _ _⟩⟩
  case round =>
    obtain ⟨k, oa, oc, c, D, hk, rfl, rfl, HDL, HDP, HO, HB⟩ := hrel
    obtain ⟨wo, rfl⟩ : ∃ wo : World, wo = wr := ⟨_, rfl⟩
    by_cases hlt : k < n
    · have hkT : k < T.length := by rw [HN.out]; exact hlt
      have hrow := own_slc (H.out.below HB.out).row
      rw [HN.out] at hrow
      obtain ⟨b, off, rfl, c1⟩ := hrow.cell k (by rw [btV_length]; exact hkT)
      rw [show (btV T)[k]'(by rw [btV_length]; exact hkT) = .pointer (some ⟨T[k].b, 0, none⟩) by simp [btV]] at c1
      have hM := H.out.each _ (List.getElem_mem hkT)
      have hal := allL_len hkT
      have C1 := HOF.out wo HB.out _ (List.getElem_mem hkT)
      have hmem : ∀ p ∈ T[k].L.map (·.2), p ∈ (allL T).map (·.2) := fun p hp => by
        obtain ⟨a, ha, rfl⟩ := List.mem_map.1 hp
        exact List.mem_map.2 ⟨a, List.mem_flatMap.2 ⟨_, List.getElem_mem hkT, ha⟩, rfl⟩
      have hflat : allL (T.take (k + 1)) = allL (T.take k) ++ T[k].L := by
        unfold allL
        rw [List.take_succ_eq_append_getElem hkT, List.flatMap_append]; simp
      obtain ⟨t, ht⟩ : ∃ t, T[k] = t := ⟨_, rfl⟩
      rw [ht] at c1 hM hal C1 hmem hflat
      have HM := Kp.mk hM
      have HFL := Kp.mk hflat
      have HMM := Kp.mk hmem
      have C1' := Kp.mk C1
      have hal2 : t.L.length ≤ 150 := by have := HCT.out; omega
      clear hrow hM hal C1 hflat hmem ht
      go_wp2_with (go_at_fn g1; refine C1'.out.mono ?_; rintro e w2 ⟨ra, m, rc, out, rfl, HP, HR, HB2⟩)
      have hrl : out.length = m := by have := HR.out.1; rw [ints_length, List.length_map, Nat.mul_one] at this; exact this
      have HRL := Kp.mk hrl
      have hml : m ≤ t.L.length := by rw [← hrl]; exact told_len_le HP.out
      have HO2 := Kp.mk (own_below HO.out HB2.out)
      have HR2 := Kp.mk (own_base HR.out HB.out.size)
      have HBB2 := Kp.mk (HB.out.trans (HB2.out.mono HB.out.size))
      have HTP := Kp.mk (toldOf_perm (f := f) HP.out)
      have hcl : c ≤ 150 := by
        have h1 := HDP.out.length_eq
        rw [HDL.out, List.length_map] at h1
        have h2 := List.length_filter_le (fun a : IP => sel a.2) (allL (T.take k))
        have h3 : (allL (T.take k)).length ≤ (allL T).length := by
          have e : T = T.take k ++ T.drop k := by simp
          conv => rhs; rw [e]
          unfold allL
          rw [List.flatMap_append, List.length_append]; omega
        have := HCT.out; omega
      clear hrl HO HB HR HB2 C1' c1 z0
      go_loopw [9, 30] (fun v i wr => ∃ (j : Nat) (oa : Option Addr) (oc d : Nat), j ≤ m ∧ i = .int .i64 j ∧ v = .slice oa d oc ∧ d = c + j ∧ Kp (wr.ownsRow w.heap.size 152 2 (.slice oa d oc) d (flat toldL (D ++ (toldOf f t.L out).take j))) ∧ Kp (wr.ownsRow w.heap.size 3 1 (.slice ra m rc) m (ints (out.map Int.ofNat))) ∧ Kp (Below w.heap.size w wr)) (fun _ i _ => m - (intOf i).toNat)
      case atStart => exact ⟨0, oa, oc, c, Nat.zero_le _, rfl, rfl, rfl, ⟨by simpa using HO2.out⟩, HR2, HBB2⟩
      case round =>
        clear HO2 HR2 HBB2
        obtain ⟨j, oa, oc, d, hj, rfl, rfl, rfl, HO, HR, HB⟩ := hrel
        obtain ⟨wi, rfl⟩ : ∃ wi : World, wi = wr := ⟨_, rfl⟩
        by_cases hjm : j < m
        · have hjo : j < out.length := by rw [HRL.out]; exact hjm
          obtain ⟨gr, rfl, _, _⟩ := own_some HR.out (by omega)
          have hin : out[j] < t.L.length := by
            have h1 := HP.out.mem_iff.1 (List.getElem_mem hjo)
            exact List.mem_range.1 (List.mem_filter.1 h1).1
          have c2 : wi.cell? ⟨gr, j, none⟩ = some (.int .i64 ((out[j] : Nat) : Int)) := own_atK HR.out j _ (by simp [ints, hjo])
          have hts := toldOf_succ f t.L out j hjo
          have HM2 := HM.out.below HB.out
          have htn : 0 < t.L.length := by omega
          obtain ⟨gi, hgi, _, _⟩ := own_some HM2.ids htn
          obtain ⟨gp, hgp, _, _⟩ := own_some HM2.ps htn
          have ci : wi.cell? ⟨gi, out[j], none⟩ = some (.int .i64 (t.L.getD out[j] ip0).1) := by
            have h1 := HM2.ids
            rw [hgi] at h1
            exact own_atK h1 _ _ (by rw [getD_at _ _ hin]; simp [idV, ints, hin])
          have hsl := HM2.pts
          rw [hgp] at hsl
          obtain ⟨_, _, e1, x0, x1, x2⟩ := pt_cells hsl out[j] hin
          simp only [Option.some.injEq, Addr.mk.injEq, and_true] at e1
          obtain ⟨rfl, rfl⟩ := e1
          have hgd : (t.L.map (·.2)).getD out[j] pt0 = (t.L.getD out[j] ip0).2 := by
            rw [getD_at _ _ (by rw [List.length_map]; exact hin), getD_at _ _ hin, List.getElem_map]
          rw [hgd] at x0 x1 x2
          have hbox := HM2.box
          rw [hgi, hgp] at hbox
          have hpm := HMM.out _ (show (t.L.getD out[j] ip0).2 ∈ t.L.map (·.2) from by rw [getD_at _ _ hin]; exact List.mem_map.2 ⟨_, List.getElem_mem hin, rfl⟩)
          obtain ⟨x, hx⟩ : ∃ x : Nat, out[j] = x := ⟨_, rfl⟩
          rw [hx] at c2 ci x0 x1 x2 hin hpm hts
          have C2 := Kp.mk (fun W hW => HBY.out W hW _ hpm)
          have hty1 : TyAt wi gi 3 := (ty_own HM2.ids (by rw [hgi]; rfl)).1
          have hty2 : TyAt wi gp 28 := (ty_own HM2.ps (by rw [hgp]; rfl)).1
          generalize t.L.getD x ip0 = aa at *
          obtain ⟨id, px, py, pw⟩ := aa
          simp only [Nat.zero_add] at x0 x1 x2 ci hts C2
          have HTS := Kp.mk hts
          obtain ⟨tl, htl⟩ : ∃ tl, t.L.length = tl := ⟨_, rfl⟩
          rw [htl] at hbox hin hml hal2
          have HIN := Kp.mk hin
          have hxz : (x : Int) < tl := by omega
          obtain ⟨tb, tpw, tia, tic, tpa, tpc, tL⟩ := t
          simp only at hbox
          have hS0 : (fun W : World => W.cell? ⟨tb, 1, none⟩ = some (.slice (some ⟨gi, 0, none⟩) tl tic) ∧ W.cell? ⟨tb, 2, none⟩ = some (.slice (some ⟨gp, 0, none⟩) tl tpc) ∧ W.cell? ⟨gi, x, none⟩ = some (.int .i64 id) ∧ W.cell? ⟨gp, x * 3, none⟩ = some (.int .i64 px) ∧ W.cell? ⟨gp, x * 3 + 1, none⟩ = some (.int .i64 py) ∧ W.cell? ⟨gp, x * 3 + 2, none⟩ = some (.int .i64 pw)) wi := ⟨hbox.cell 1 rfl, hbox.cell 2 rfl, ci, x0, x1, x2⟩
          have HBO := Kp.mk hbox
          have HSS := Kp.mk (fun (W : World) (hW : Below wi.heap.size wi W) => show W.cell? ⟨tb, 1, none⟩ = some (.slice (some ⟨gi, 0, none⟩) tl tic) ∧ W.cell? ⟨tb, 2, none⟩ = some (.slice (some ⟨gp, 0, none⟩) tl tpc) ∧ W.cell? ⟨gi, x, none⟩ = some (.int .i64 id) ∧ W.cell? ⟨gp, x * 3, none⟩ = some (.int .i64 px) ∧ W.cell? ⟨gp, x * 3 + 1, none⟩ = some (.int .i64 py) ∧ W.cell? ⟨gp, x * 3 + 2, none⟩ = some (.int .i64 pw) from
            ⟨(hW.cell (p := ⟨tb, 1, none⟩) (World.block_lt_of_cell? _ _ hS0.1)).trans hS0.1, (hW.cell (p := ⟨tb, 2, none⟩) (World.block_lt_of_cell? _ _ hS0.2.1)).trans hS0.2.1, (hW.cell (p := ⟨gi, x, none⟩) (World.block_lt_of_cell? _ _ hS0.2.2.1)).trans hS0.2.2.1, (hW.cell (p := ⟨gp, x * 3, none⟩) (World.block_lt_of_cell? _ _ hS0.2.2.2.1)).trans hS0.2.2.2.1, (hW.cell (p := ⟨gp, x * 3 + 1, none⟩) (World.block_lt_of_cell? _ _ hS0.2.2.2.2.1)).trans hS0.2.2.2.2.1, (hW.cell (p := ⟨gp, x * 3 + 2, none⟩) (World.block_lt_of_cell? _ _ hS0.2.2.2.2.2)).trans hS0.2.2.2.2.2⟩)
          have HGS := Kp.mk (fun (W W' : World) (hW : Below wi.heap.size wi W) (hg : W.grownBy W' (blk oa)) => show (W'.cell? ⟨tb, 1, none⟩ = some (.slice (some ⟨gi, 0, none⟩) tl tic) ∧ W'.cell? ⟨tb, 2, none⟩ = some (.slice (some ⟨gp, 0, none⟩) tl tpc) ∧ W'.cell? ⟨gi, x, none⟩ = some (.int .i64 id) ∧ W'.cell? ⟨gp, x * 3, none⟩ = some (.int .i64 px) ∧ W'.cell? ⟨gp, x * 3 + 1, none⟩ = some (.int .i64 py) ∧ W'.cell? ⟨gp, x * 3 + 2, none⟩ = some (.int .i64 pw)) ∧ W'.ownsRow w.heap.size 3 1 (.slice (some ⟨gr, 0, none⟩) m rc) m (ints (out.map Int.ofNat)) from by
            have ho := own_below HO.out hW
            have hc : Chg (fun k => blk oa = some k) W W' := Chg.of_grown hg (fun k hk => hk)
            have hs := HSS.out W hW
            have tyb : ∀ k e, TyAt wi k e → e ≠ 152 → ¬ blk oa = some k := fun k e hk he hb => by
              obtain ⟨cu, hcu⟩ := hk
              exact TyAt.ne (w := W) (k := k) (e := e) ⟨cu, (hW.block k (Array.getElem?_eq_some_iff.1 hcu).1).trans hcu⟩ (ty_own ho hb).1 he rfl
            have n1 := tyb tb _ ⟨_, HBO.out⟩ (by decide)
            have n2 := tyb gi _ hty1 (by decide)
            have n3 := tyb gp _ hty2 (by decide)
            exact ⟨⟨Chg.cell hs.1 hc n1, Chg.cell hs.2.1 hc n1, Chg.cell hs.2.2.1 hc n2, Chg.cell hs.2.2.2.1 hc n3, Chg.cell hs.2.2.2.2.1 hc n3, Chg.cell hs.2.2.2.2.2 hc n3⟩, Chg.own (own_below HR.out hW) hc (fun k hk => tyb k _ (ty_own HR.out hk).1 (by decide))⟩)
          have hwi := HB.out.size
          clear hbox x0 x1 x2 ci HM2 hsl hgd hpm hts htl hin HOF HBY htn hgi hgp
          go_upto_region 8 with (fail)
          clear c2
          have hD : Below wi.heap.size wi wi.drew := (Below.refl _ _).drew
          have hDw : Below w.heap.size w wi.drew := HB.out.trans (hD.mono hwi)
          obtain ⟨fv, hfv⟩ : ∃ z, f ⟨px, py, pw⟩ = z := ⟨_, rfl⟩
          rw [hfv] at C2 HTS
          clear hfv
          go_region_held3 (fun W => W.cell? ⟨tb, 1, none⟩ = some (.slice (some ⟨gi, 0, none⟩) tl tic) ∧ W.cell? ⟨tb, 2, none⟩ = some (.slice (some ⟨gp, 0, none⟩) tl tpc) ∧ W.cell? ⟨gi, x, none⟩ = some (.int .i64 id) ∧ W.cell? ⟨gp, x * 3, none⟩ = some (.int .i64 px) ∧ W.cell? ⟨gp, x * 3 + 1, none⟩ = some (.int .i64 py) ∧ W.cell? ⟨gp, x * 3 + 2, none⟩ = some (.int .i64 pw))
            (first | exact hS0 | exact hS3 | exact HSS.out _ hx3a | exact hS5 | go_keep)
            ((first
              | (with_reducible refine (C2.out _ hDw).mono ?_; rintro e w3 ⟨rfl, hb3⟩; have hx3 : Below wi.heap.size wi w3 := hD.trans (hb3.out.mono hD.size); have hS3 := HSS.out w3 hx3; have hx3a : Below wi.heap.size wi (w3.alloc (.cells #[.int .i64 fv, .int .i64 id] 152)) := below_then_alloc hx3 _)
              | (refine step_push tTld (by rfl) _ _ (by rfl) w.heap.size oa (c + j) oc _ (by rfl) (own_below HO.out hx3a) 1 w3.heap.size _ (heap_alloc_new w3 _) (by rfl) (by rfl) (by simp [Value.oneCell']) (by omega) (by omega) (by omega) (by rw [alloc_size]; have := hx3.size; omega) ?_; intro oa' oc' w5 hown5 hgr5 hno5; obtain ⟨hS5, hr5⟩ := HGS.out _ w5 hx3a hgr5)
              | fail))
          have hO5 := Kp.mk (show w5.ownsRow w.heap.size 152 2 (.slice oa' (c + j + 1) oc') (c + j + 1) (flat toldL (D ++ (toldOf f tL out).take (j + 1))) from by
            rw [HTS.out, ← List.append_assoc, flat_append]
            simpa [flat, toldL] using hown5)
          have hR5 := Kp.mk hr5
          have hB5 := Kp.mk ((HB.out.trans (hx3a.mono hwi)).trans (below_of_grown hgr5 (by have := hx3a.size; omega) (fun k hk => (ty_own HO.out hk).2)))
          clear hown5 hgr5 hno5 hS5 hr5 hS3 hx3 hx3a hb3 hS0 hD hDw C2 HSS HGS HBO HTS
          go_wp2
          go_roundw
          case rel => exact ⟨j + 1, oa', oc', c + j + 1, by omega, by go_num, rfl, by omega, hO5, hR5, hB5⟩
          case measure => simp [intOf]; omega
        · obtain rfl : j = m := by omega
          have hD2 := Kp.mk (show (D ++ toldOf f t.L out).length = c + j from by rw [List.length_append, toldOf_len, HDL.out, HRL.out])
          have hP2 := Kp.mk (show (D ++ toldOf f t.L out).Perm (((allL (T.take (k + 1))).filter (fun a => sel a.2)).map fun a => (f a.2, a.1)) from by
            rw [HFL.out, List.filter_append, List.map_append]
            exact HDP.out.append HTP.out)
          have hO2 := HO.out
          rw [List.take_of_length_le (by rw [toldOf_len, HRL.out]; exact Nat.le_refl _)] at hO2
          have HO3 := Kp.mk hO2
          clear hO2 HO
          go_wp2
          go_roundw
          case rel => exact ⟨k + 1, oa, oc, c + j, D ++ toldOf f t.L out, by omega, by go_num, rfl, hD2, hP2, HO3, HB⟩
          case measure => simp [intOf]; omega
    · obtain rfl : k = n := by omega
      have hDP := HDP.out
      rw [List.take_of_length_le (by rw [HN.out]; exact Nat.le_refl _)] at hDP
      have hcl : c ≤ 150 := by
        have h1 := hDP.length_eq
        rw [HDL.out, List.length_map] at h1
        have h2 := List.length_filter_le (fun a : IP => sel a.2) (allL T)
        have := HCT.out; omega
      have CS := Kp.mk (sortT_own D c w.heap.size oa oc wo HDL.out (by omega) HO.out)
      have HDP2 := Kp.mk hDP
      clear hDP HDP
      go_wp2_with fail
      refine CS.out.mono ?_
      rintro e w3 ⟨rfl, D', HS, HO3, HG3⟩
      have hdl : D'.length = c := by rw [HS.out.1.length_eq]; exact HDL.out
      have HDL3 := Kp.mk hdl
      have HB3 := Kp.mk (HB.out.trans (below_of_grown HG3.out HB.out.size (fun k hk => (ty_own HO.out hk).2)))
      have HIB := Kp.mk (show IsBest f ((allL T).filter (fun a => sel a.2)) kk ((D'.take kk).map (·.2)) from ⟨D', HS.out.1.trans HDP2.out, HS.out.2, rfl⟩)
      obtain ⟨mm, hmm⟩ : ∃ mm, min kk c = mm := ⟨_, rfl⟩
      have hmc : mm ≤ c := by omega
      have hmi : min (kk : Int) (c : Int) = (mm : Int) := by omega
      have htk := Kp.mk (show D'.take kk = D'.take mm from by
        rcases Nat.le_total kk c with h1 | h1
        · rw [show mm = kk by omega]
        · rw [show mm = c by omega, List.take_of_length_le (by omega), List.take_of_length_le (by omega)])
      have hoc : c ≤ oc := (own_slc HO3.out).le
      have hmo : mm ≤ oc := by omega
      clear CS HO HB HG3 HS HDL HDP2 hdl z0
      have HHW := Kp.mk HB3.out.size
      rcases (show (oa = none ∧ c = 0 ∧ oc = 0) ∨ ∃ g, oa = some ⟨g, 0, none⟩ from by
        rcases HO3.out.2 with ⟨hv, h0⟩ | ⟨g, cap, cur, hv, _⟩
        · simp only [Value.slice.injEq] at hv
          exact .inl ⟨hv.1, h0, hv.2.2⟩
        · simp only [Value.slice.injEq] at hv
          exact .inr ⟨g, hv.1⟩) with ⟨rfl, rfl, rfl⟩ | ⟨g, rfl⟩
      · obtain rfl : mm = 0 := by omega
        have hkz : min (kk : Int) (0 : Int) = 0 := by omega
        have hnil : D' = [] := List.length_eq_zero_iff.1 HDL3.out
        have HNI := Kp.mk hnil
        clear hnil hmi hmm
        go_wp2
        go_loop [14, 65] (fun v i => v = .slice none 0 0 ∧ i = .int .i64 0) (fun _ _ => 0)
        case atStart => exact ⟨rfl, rfl⟩
        case round =>
          obtain ⟨rfl, rfl⟩ := hrel
          go_wp2
          go_ret
          exact ⟨none, 0, 0, rfl, [], ⟨by have := HIB.out; rw [HNI.out] at this; simpa using this⟩, ⟨World.ownsRow_nil _ _ _ _⟩, HB3⟩
      · clear hmm
        go_wp2
        go_loopw [14, 65] (fun v i wr => ∃ (j : Nat) (qa : Option Addr) (qc : Nat), j ≤ mm ∧ i = .int .i64 j ∧ v = .slice qa j qc ∧ Kp (wr.ownsRow w.heap.size 3 1 (.slice qa j qc) j (ints ((D'.take j).map (·.2)))) ∧ Kp (wr.ownsRow w.heap.size 152 2 (.slice (some ⟨g, 0, none⟩) c oc) c (flat toldL D')) ∧ Kp (Below w.heap.size w wr)) (fun _ i _ => mm - (intOf i).toNat)
        case atStart => exact ⟨0, none, 0, Nat.zero_le _, rfl, rfl, ⟨by simpa [ints] using World.ownsRow_nil _ _ _ _⟩, HO3, HB3⟩
        case round =>
          clear HO3 HB3 HHW
          obtain ⟨j, qa, qc, hj, rfl, rfl, HQ, HT, HB⟩ := hrel
          by_cases hjm : j < mm
          · have hjD : j < D'.length := by rw [HDL3.out]; omega
            have x0 : wr.cell? ⟨g, j * 2, none⟩ = some (.int .i64 (D'[j]).1) := own_atK HT.out _ _ (by
              have := flat_get toldL_len D' j 0 hjD (by omega)
              simpa [toldL] using this)
            have x1 : wr.cell? ⟨g, j * 2 + 1, none⟩ = some (.int .i64 (D'[j]).2) := own_atK HT.out _ _ (by
              have := flat_get toldL_len D' j 1 hjD (by omega)
              simpa [toldL] using this)
            have hts := Kp.mk (show (D'.take (j + 1)).map (·.2) = (D'.take j).map (·.2) ++ [(D'[j]).2] from by
              rw [List.take_succ_eq_append_getElem hjD, List.map_append]; rfl)
            generalize D'[j] = dd at *
            obtain ⟨d1, d2⟩ := dd
            simp only at x0 x1 hts
            have hal := below_alloc (Nat.le_refl wr.heap.size) (.cells #[.int .i64 d1, .int .i64 d2] 152)
            have HBN := Kp.mk (Box.new wr #[.int .i64 d1, .int .i64 d2] 152)
            have HQ2 := Kp.mk (own_below HQ.out hal)
            have HT2 := Kp.mk (own_below HT.out hal)
            have HB2 := Kp.mk (HB.out.trans (hal.mono HB.out.size))
            have hsw := HB2.out.size
            clear hal HQ HT HB
            go_upto_region 16 with (fail)
            obtain ⟨wq, hwq⟩ : ∃ wq, wr.alloc (.cells #[.int .i64 d1, .int .i64 d2] 152) = wq := ⟨_, rfl⟩
            rw [hwq] at HBN HQ2 HT2 HB2 hsw
            rw [hwq]
            have y1 : wq.cell? ⟨wr.heap.size, 1, none⟩ = some (.int .i64 d2) := HBN.out.cell 1 rfl
            clear hwq x0 x1
            go_wp2_with (at_builtin; refine wpList_pushS tInts (by rfl) _ _ (by rfl) w.heap.size qa j qc _ (by rfl) HQ2.out 1 _ (by rfl) (by rfl) ?d1 ?d2 (by decide) hsw ?d4)
            case d1 => simp [Value.oneCell']
            case d2 => omega
            case d4 =>
              intro qa2 qc2 w4 ho4 hg4 hn4
              have HQ4 := Kp.mk (show w4.ownsRow w.heap.size 3 1 (.slice qa2 (j + 1) qc2) (j + 1) (ints ((D'.take (j + 1)).map (·.2))) from by
                rw [hts.out, ints_append, List.map_take]; exact ho4)
              have HT4 := Kp.mk (own_keep HT2.out hg4 (fun k hk e => (ty_own HQ2.out hk).1.ne (ty_own HT2.out e).1 (by decide) rfl))
              have HB4 := Kp.mk (HB2.out.trans (below_of_grown hg4 hsw (fun k hk => (ty_own HQ2.out hk).2)))
              clear ho4 hg4 hn4 HQ2 HT2 HB2 hts HBN y1
              go_wp2
              go_roundw
              case rel => exact ⟨j + 1, qa2, qc2, by omega, by go_num, rfl, HQ4, HT4, HB4⟩
              case measure => simp [intOf]; omega
          · obtain rfl : j = mm := by omega
            go_wp2
            go_ret
            refine ⟨qa, j, qc, (D'.take kk).map (·.2), rfl, HIB, ⟨?_⟩, HB⟩
            rw [htk.out]; exact HQ.out

end Go.Proofs.YtladgklnacihkaaGreat.Dy

/- Package grid: Report and Kth: the walks. -/
namespace Go.Proofs.YtladgklnacihkaaGreat
set_option linter.unusedVariables false
open Go.RowKit

set_option maxRecDepth 100000 in
set_option maxHeartbeats 2000000 in
theorem gin_any (x y z X0 Y0 X1 Y1 : Int) (w : World) :
    Calls Tryz.prog 57 #[.agg #[.int .i64 x, .int .i64 y, .int .i64 z], .agg #[.int .i64 X0, .int .i64 Y0, .int .i64 X1, .int .i64 Y1]] w fun e w' => e = .returned (.bool (inR X0 Y0 X1 Y1 ⟨x, y, z⟩)) ∧ Below w.heap.size w w' := by
  have hI : inR X0 Y0 X1 Y1 ⟨x, y, z⟩ = decide (X0 ≤ x ∧ x ≤ X1 ∧ Y0 ≤ y ∧ y ≤ Y1) := rfl
  obtain ⟨r, hr⟩ : ∃ r, inR X0 Y0 X1 Y1 ⟨x, y, z⟩ = r := ⟨_, rfl⟩
  rw [hr] at hI ⊢
  obtain ⟨w2, hw2⟩ : ∃ w2, (w.alloc (.cells #[.int .i64 x, .int .i64 y, .int .i64 z] 28)).alloc (.cells #[.int .i64 X0, .int .i64 Y0, .int .i64 X1, .int .i64 Y1] 30) = w2 := ⟨_, rfl⟩
  have HB := Kp.mk (show Below w.heap.size w w2 from by rw [← hw2]; exact below_then_alloc (below_alloc (Nat.le_refl _) _) _)
  have b1 : Box w2 w.heap.size #[.int .i64 x, .int .i64 y, .int .i64 z] 28 := by rw [← hw2]; exact (Box.new _ _ _).alloc _
  have b2 : Box w2 (w.heap.size + 1) #[.int .i64 X0, .int .i64 Y0, .int .i64 X1, .int .i64 Y1] 30 := by
    have := Box.new (w.alloc (.cells #[.int .i64 x, .int .i64 y, .int .i64 z] 28)) #[.int .i64 X0, .int .i64 Y0, .int .i64 X1, .int .i64 Y1] 30
    rw [alloc_size] at this; rw [← hw2]; exact this
  have x0 : w2.cell? ⟨w.heap.size, 0, none⟩ = some (.int .i64 x) := b1.cell 0 rfl
  have x1 : w2.cell? ⟨w.heap.size, 1, none⟩ = some (.int .i64 y) := b1.cell 1 rfl
  have y0 : w2.cell? ⟨w.heap.size + 1, 0, none⟩ = some (.int .i64 X0) := b2.cell 0 rfl
  have y1 : w2.cell? ⟨w.heap.size + 1, 1, none⟩ = some (.int .i64 Y0) := b2.cell 1 rfl
  have y2 : w2.cell? ⟨w.heap.size + 1, 2, none⟩ = some (.int .i64 X1) := b2.cell 2 rfl
  have y3 : w2.cell? ⟨w.heap.size + 1, 3, none⟩ = some (.int .i64 Y1) := b2.cell 3 rfl
  clear b1 b2
  have hor : (X0 ≤ x ∧ x ≤ X1 ∧ Y0 ≤ y ∧ y ≤ Y1 ∧ Kp (r = true)) ∨ (¬ X0 ≤ x ∧ Kp (r = false)) ∨ (X0 ≤ x ∧ ¬ x ≤ X1 ∧ Kp (r = false)) ∨ (X0 ≤ x ∧ x ≤ X1 ∧ ¬ Y0 ≤ y ∧ Kp (r = false)) ∨ (X0 ≤ x ∧ x ≤ X1 ∧ Y0 ≤ y ∧ ¬ y ≤ Y1 ∧ Kp (r = false)) := by
    by_cases h1 : X0 ≤ x <;> by_cases h2 : x ≤ X1 <;> by_cases h3 : Y0 ≤ y <;> by_cases h4 : y ≤ Y1 <;> simp [h1, h2, h3, h4] at hI ⊢ <;> exact ⟨hI⟩
  clear hr hI
  rcases hor with ⟨h1, h2, h3, h4, H⟩ | ⟨h1, H⟩ | ⟨h1, h2, H⟩ | ⟨h1, h2, h3, H⟩ | ⟨h1, h2, h3, h4, H⟩
  all_goals
    rw [H.out]
    clear H
    go_enter Tryz.func57, Tryz.ntmps57
    go_wp2
    go_ret
    exact ⟨by simp [*], HB.out⟩

set_option maxRecDepth 100000 in
set_option maxHeartbeats 2000000 in
theorem greport_any (g : Nat) (a : Option Addr) (cap n : Nat) (L : List Pt) (oa : Option Addr) (oc : Nat) (O : List Nat) (V : List Int) (R : List Nat) (vv wv : Value)
    (X0 Y0 X1 Y1 : Int) (w : World) (h : GIdx0 w g a cap n L oa oc O vv wv) (hf : GFacts n L O V R) (hn : n ≤ 150) :
    Calls Tryz.prog 37 #[.pointer (some ⟨g, 0, none⟩), .agg #[.int .i64 X0, .int .i64 Y0, .int .i64 X1, .int .i64 Y1]] w fun e w' => ∃ ra m rc out, e = .returned (.slice ra m rc) ∧ Kp (IsRep L X0 Y0 X1 Y1 out ∧ out.length = m ∧ m ≤ n) ∧ Kp (w'.ownsRow w.heap.size 3 1 (.slice ra m rc) m (ints (out.map Int.ofNat))) ∧ Kp (Below w.heap.size w w') := by
  have HA := Kp.mk (below_alloc (Nat.le_refl w.heap.size) (.cells #[.int .i64 X0, .int .i64 Y0, .int .i64 X1, .int .i64 Y1] 30))
  have HBX := Kp.mk (Box.new w #[.int .i64 X0, .int .i64 Y0, .int .i64 X1, .int .i64 Y1] 30)
  have HI := Kp.mk (h.below HA.out)
  have HF := Kp.mk hf
  have HOL := Kp.mk (show O.length = n by rw [hf.ord.len]; exact hf.len)
  have CO := Kp.mk (columns_any X0 Y0 X1 Y1 _ HI.out hf (by omega))
  have HRE := Kp.mk (fun p b q hp hb hq => rep_eq hf.ord hf.len X0 Y0 X1 Y1 p b q hp hb hq)
  obtain ⟨p, hp⟩ : ∃ p, colAt L O n X0 false = p := ⟨_, rfl⟩
  obtain ⟨b, hb⟩ : ∃ b, colAt L O n X1 true = b := ⟨_, rfl⟩
  have hpn : p ≤ n := by rw [← hp]; exact colAt_le _ _ _ _ _
  have hbn : b ≤ n := by rw [← hb]; exact colAt_le _ _ _ _ _
  obtain ⟨q, hq⟩ : ∃ q, max p b = q := ⟨_, rfl⟩
  have HREP := Kp.mk (HRE.out p b q hp hb hq)
  rw [hp, hb, hq] at CO
  have hpq : p ≤ q := by omega
  have hqn : q ≤ n := by omega
  obtain ⟨M, hM⟩ : ∃ M, M = (O.take q).drop p := ⟨_, rfl⟩
  have HML := Kp.mk (show M.length = q - p by rw [hM, List.length_drop, List.length_take, HOL.out]; omega)
  have HMG := Kp.mk (show ∀ i, i < q - p → M.getD i 0 = O.getD (p + i) 0 from fun i hi => by
    rw [getD_at M 0 (by rw [HML.out]; exact hi), getD_at O 0 (by rw [HOL.out]; omega)]
    simp only [hM, List.getElem_drop, List.getElem_take])
  rw [← hM] at HREP
  have hoc : n ≤ oc := by have := HI.out.ord.le; rw [List.length_map, HOL.out] at this; exact this
  clear h hf hp hb hq hM hbn HRE
  obtain ⟨w1, hw1⟩ : ∃ w1, w.alloc (.cells #[.int .i64 X0, .int .i64 Y0, .int .i64 X1, .int .i64 Y1] 30) = w1 := ⟨_, rfl⟩
  rw [hw1] at HA HBX HI CO
  go_enter Tryz.func37, Tryz.ntmps37
  go_upto_region 1 with (fail)
  try simp only [hw1]
  try rw [hw1]
  have x0 : w1.cell? ⟨w.heap.size, 0, none⟩ = some (.int .i64 X0) := HBX.out.cell 0 rfl
  have x1 : w1.cell? ⟨w.heap.size, 1, none⟩ = some (.int .i64 Y0) := HBX.out.cell 1 rfl
  have x2 : w1.cell? ⟨w.heap.size, 2, none⟩ = some (.int .i64 X1) := HBX.out.cell 2 rfl
  have x3 : w1.cell? ⟨w.heap.size, 3, none⟩ = some (.int .i64 Y1) := HBX.out.cell 3 rfl
  go_wp2_with fail
  refine CO.out.mono ?_
  rintro e w2 ⟨rfl, hb2⟩
  have HI2 := Kp.mk (HI.out.below hb2)
  have HX2 := Kp.mk (HBX.out.below hb2)
  have HB2 := Kp.mk (below_step HA.out hb2)
  have o2 : w2.cell? ⟨g, 1, none⟩ = some (.slice oa n oc) := HI2.out.bx.cell 1 rfl
  have hpz : (p : Int) ≤ q := by omega
  have hqc : q ≤ oc := by omega
  clear hb2 CO hw1 HA HBX HI x0 x1 x2 x3
  obtain ⟨d, hd⟩ : ∃ d, q - p = d := ⟨_, rfl⟩
  rw [hd] at HML HMG
  have HCO := Kp.mk (fun (W : World) (hW : Below w2.heap.size w2 W) (i : Nat) (hi : i < d) => show ∃ ob oo, oa = some ⟨ob, oo, none⟩ ∧ W.cell? ⟨ob, oo + (p + i), none⟩ = some (.int .i64 ((M.getD i 0 : Nat) : Int)) from by
    obtain ⟨ob, oo, e, co⟩ := (HI2.out.below hW).ord.at (p + i) (by rw [List.length_map, HOL.out]; omega)
    rw [List.getElem_map, ← getD_at O 0 (by rw [HOL.out]; omega), ← HMG.out i hi] at co
    exact ⟨ob, oo, e, co⟩)
  have HML2 := Kp.mk (show ∀ i, i < d → M.getD i 0 < n from fun i hi => by
    rw [HMG.out i hi]; have := HF.out.ord.lt (p + i) (by rw [HOL.out]; omega); rw [HF.out.len] at this; exact this)
  have HST := Kp.mk (show ∀ i, i < d → (M.take (i + 1)).filter (inL L X0 Y0 X1 Y1) = (M.take i).filter (inL L X0 Y0 X1 Y1) ++ (if inL L X0 Y0 X1 Y1 (M.getD i 0) = true then [M.getD i 0] else []) from fun i hi => by
    rw [List.take_succ_eq_append_getElem (by rw [HML.out]; exact hi), List.filter_append, getD_at M 0 (by rw [HML.out]; exact hi)]
    congr 1
    cases hf : inL L X0 Y0 X1 Y1 (M[i]'(by rw [HML.out]; exact hi)) <;> simp [hf])
  have HLL := Kp.mk (show L.length = n from HF.out.len)
  have HSZ := Kp.mk (show w.heap.size + 1 ≤ w2.heap.size from by have := HX2.out.lt; omega)
  have HRL := Kp.mk (show (M.take d).filter (inL L X0 Y0 X1 Y1) = M.filter (inL L X0 Y0 X1 Y1) from by rw [List.take_of_length_le (by rw [HML.out]; exact Nat.le_refl _)])
  obtain ⟨F, hF⟩ : ∃ F : Nat → List Nat, F = fun i => (M.take i).filter (inL L X0 Y0 X1 Y1) := ⟨_, rfl⟩
  have HF0 := Kp.mk (show F 0 = [] by rw [hF]; rfl)
  have HFS := Kp.mk (show ∀ i, i < d → F (i + 1) = F i ++ (if inR X0 Y0 X1 Y1 (L.getD (M.getD i 0) pt0) = true then [M.getD i 0] else []) from fun i hi => by rw [hF]; exact HST.out i hi)
  have HFE := Kp.mk (show IsRep L X0 Y0 X1 Y1 (F d) from by rw [hF]; rw [← HRL.out] at HREP; exact HREP.out)
  have HFL := Kp.mk (show ∀ i, (F i).length ≤ i from fun i => by rw [hF]; exact Nat.le_trans (List.length_filter_le _ _) (by rw [List.length_take]; omega))
  clear HST HRL HREP hF HMG HML
  have HCT0 := Kp.mk (fun (h : oc = p) (W : World) (hW : Below w2.heap.size w2 W) (i : Nat) (hi : i < d) => show ∃ tb tq, oa = some ⟨tb, tq, none⟩ ∧ W.cell? ⟨tb, tq + i, none⟩ = some (.int .i64 ((M.getD i 0 : Nat) : Int)) from by omega)
  have HCT1 := Kp.mk (fun (W : World) (hW : Below w2.heap.size w2 W) (i : Nat) (hi : i < d) => show ∃ tb tq, Option.map (fun x => x.add p) oa = some (⟨tb, tq, none⟩ : Addr) ∧ W.cell? ⟨tb, tq + i, none⟩ = some (.int .i64 ((M.getD i 0 : Nat) : Int)) from by
    obtain ⟨ob, oo, e, co⟩ := HCO.out W hW i hi
    exact ⟨ob, oo + p, by rw [e]; simp [add_none], by rw [Nat.add_assoc]; exact co⟩)
  clear HCO
  have hdn : d ≤ n := by omega
  go_wp2
  case' inr h =>
    have HCT := HCT1
    clear HCT1 HCT0
    generalize Option.map (fun x => x.add p) oa = ta at *
  case' inl h =>
    have HCT := Kp.mk (HCT0.out h)
    clear HCT1 HCT0
    generalize oa = ta at *
  all_goals
    clear h hd hqc hpz hoc
    obtain ⟨wo, rfl⟩ : ∃ wo : World, wo = w2 := ⟨_, rfl⟩
    go_loopw [5, 24] (fun v5 v24 wr => ∃ (i m : Nat) (ra : Option Addr) (rc : Nat), i ≤ d ∧ m ≤ i ∧ v24 = .int .i64 i ∧ v5 = .slice ra m rc ∧ Kp ((F i).length = m) ∧ Kp (wr.ownsRow wo.heap.size 3 1 (.slice ra m rc) m (ints ((F i).map Int.ofNat))) ∧ Kp (Below wo.heap.size wo wr)) (fun _ v24 _ => d - (intOf v24).toNat)
    case atStart => exact ⟨0, 0, none, 0, Nat.zero_le _, Nat.le_refl _, rfl, rfl, ⟨by rw [HF0.out]; rfl⟩, ⟨by rw [HF0.out]; exact World.ownsRow_nil _ _ _ _⟩, ⟨Below.refl _ _⟩⟩
    case round =>
      obtain ⟨i, m, ra, rc, hi, hmi, rfl, rfl, HFm, HO, HB⟩ := hrel
      by_cases hid : i < d
      · have hiz : (i : Int) < d := by omega
        obtain ⟨tb, tq, rfl, co⟩ := HCT.out wr HB.out i hid
        have hMn := HML2.out i hid
        have hfs := Kp.mk (HFS.out i hid)
        obtain ⟨pb, po, rfl, hpb, cp⟩ := (HI2.out.ps.below HB.out).at ptL_len (by omega) (M.getD i 0) (by rw [HLL.out]; exact hMn)
        rw [← getD_at L pt0 (by rw [HLL.out]; exact hMn)] at cp
        generalize M.getD i 0 = t at *
        generalize L.getD t pt0 = P at *
        obtain ⟨px, py, pw⟩ := P
        have p0 : wr.cell? ⟨pb, po + t * 3, none⟩ = some (.int .i64 px) := cp 0 (by omega)
        have p1 : wr.cell? ⟨pb, po + t * 3 + 1, none⟩ = some (.int .i64 py) := cp 1 (by omega)
        have p2 : wr.cell? ⟨pb, po + t * 3 + 2, none⟩ = some (.int .i64 pw) := cp 2 (by omega)
        have hX := HX2.out.below HB.out
        have x0 : wr.cell? ⟨w.heap.size, 0, none⟩ = some (.int .i64 X0) := hX.cell 0 rfl
        have x1 : wr.cell? ⟨w.heap.size, 1, none⟩ = some (.int .i64 Y0) := hX.cell 1 rfl
        have x2 : wr.cell? ⟨w.heap.size, 2, none⟩ = some (.int .i64 X1) := hX.cell 2 rfl
        have x3 : wr.cell? ⟨w.heap.size, 3, none⟩ = some (.int .i64 Y1) := hX.cell 3 rfl
        have g0 : wr.cell? ⟨g, 0, none⟩ = some (.slice (some ⟨pb, po, none⟩) n cap) := (HI2.out.bx.below HB.out).cell 0 rfl
        have htz : (t : Int) < n := by omega
        clear cp hpb hX
        have y0 := later_cell p0
        have y1 := later_cell p1
        have y2 := later_cell p2
        have y3 := later_cell x0
        have y4 := later_cell x1
        have y5 := later_cell x2
        have y6 := later_cell x3
        have y7 := later_cell g0
        have CI := Kp.mk (fun W => gin_any px py pw X0 Y0 X1 Y1 W)
        have hfs2 := hfs
        clear hfs
        go_wp2
        refine region_later (by kernel_rfl) (by kernel_rfl) ?_
        iterate 9 (go_big_quiet_step ((go_at_call 57; with_reducible exact q_later (CI.out _))))
        refine wpQuiet_nil ?_
        rintro w' ⟨xl, rfl⟩
        have HBx := Kp.mk (HB.out.trans (xl.le.mono HB.out.size))
        have HOx := Kp.mk (own_below HO.out xl.le)
        generalize xl.val = w' at *
        clear y0 y1 y2 y3 y4 y5 y6 y7 p0 p1 p2 x0 x1 x2 x3 g0 CI HB HO co
        have HFL2 := Kp.mk (show (F (i + 1)).length = m + (if inR X0 Y0 X1 Y1 ⟨px, py, pw⟩ = true then 1 else 0) from by
          rw [hfs2.out, List.length_append, HFm.out]; split <;> rfl)
        have HINR := Kp.mk (show inR X0 Y0 X1 Y1 ⟨px, py, pw⟩ = true ∨ inR X0 Y0 X1 Y1 ⟨px, py, pw⟩ = false from by cases inR X0 Y0 X1 Y1 ⟨px, py, pw⟩ <;> simp)
        generalize inR X0 Y0 X1 Y1 ⟨px, py, pw⟩ = r at *
        rcases HINR.out with rfl | rfl
        · have HFX := Kp.mk (show F (i + 1) = F i ++ [t] by rw [hfs2.out]; rfl)
          have HFM := Kp.mk (show (F (i + 1)).length = m + 1 from HFL2.out)
          clear hfs2 HFL2 HINR
          have hBw := HBx.out.size
          go_wp2_with (at_builtin; refine wpList_push tInts (by rfl) _ _ (by rfl) wo.heap.size ra m rc _ (by rfl) HOx.out 1 1 _ (by rfl) (by rfl) ?d1 (by decide) ?d2 (by decide) hBw ?d4)
          case d1 => simp [Value.oneCell']
          case d2 => omega
          case d4 =>
            intro sa2 sc2 w4 ho4 hb4
            have HO4 := Kp.mk (show w4.ownsRow wo.heap.size 3 1 (.slice sa2 (m + 1) sc2) (m + 1) (ints ((F (i + 1)).map Int.ofNat)) from by
              rw [HFX.out, List.map_append, ints_append]; exact ho4)
            have HB4 := Kp.mk (HBx.out.trans hb4)
            clear ho4 hb4
            go_wp2
            go_roundw
            case rel => exact ⟨i + 1, m + 1, sa2, sc2, by omega, by omega, by go_num, rfl, HFM, HO4, HB4⟩
            case measure => simp [intOf]; omega
        · have HFX := Kp.mk (show F (i + 1) = F i by rw [hfs2.out]; simp)
          have HFM := Kp.mk (show (F (i + 1)).length = m from HFL2.out)
          rw [← HFX.out] at HOx
          clear hfs2 HFL2 HINR HFX
          go_wp2
          go_roundw
          case rel => exact ⟨i + 1, m, ra, rc, by omega, by omega, by go_num, rfl, HFM, HOx, HBx⟩
          case measure => simp [intOf]; omega
      · obtain rfl : d = i := by omega
        go_wp2
        go_ret
        exact ⟨ra, m, rc, F d, rfl, ⟨HFE.out, HFm.out, by omega⟩, ⟨own_base HO.out (by have := HSZ.out; omega)⟩, ⟨below_step HB2.out HB.out⟩⟩

end Go.Proofs.YtladgklnacihkaaGreat

/- Package grid: the function Report. -/
namespace Go.Proofs.YtladgklnacihkaaGreat
set_option linter.unusedVariables false
open Go.RowKit

set_option maxRecDepth 100000 in
set_option maxHeartbeats 4000000 in
theorem gReport_any (a : Option Addr) (cap n : Nat) (L : List Pt) (X0 Y0 X1 Y1 : Int) (w : World) (h : SlF ptL 3 w a n cap L) (hn : n ≤ 150) (hN : ∀ p ∈ L, p.Near) :
    Calls Tryz.prog 18 #[.slice a n cap, .agg #[.int .i64 X0, .int .i64 Y0, .int .i64 X1, .int .i64 Y1]] w fun e w' => ∃ ra m rc out, e = .returned (.tuple #[.slice ra m rc, .int .i64 0]) ∧ Kp (IsRep L X0 Y0 X1 Y1 out ∧ out.length = m ∧ m ≤ n) ∧ Kp (w'.ownsRow w.heap.size 3 1 (.slice ra m rc) m (ints (out.map Int.ofNat))) ∧ Kp (Below w.heap.size w w') := by
  have HA := Kp.mk (below_alloc (Nat.le_refl w.heap.size) (.cells #[.int .i64 X0, .int .i64 Y0, .int .i64 X1, .int .i64 Y1] 30))
  have HBX := Kp.mk (Box.new w #[.int .i64 X0, .int .i64 Y0, .int .i64 X1, .int .i64 Y1] 30)
  have H1 := Kp.mk (SlF.below h HA.out)
  have CC := Kp.mk (gcheck_any a cap n L _ H1.out hn hN)
  clear h hN
  go_enter Tryz.func18, Tryz.ntmps18
  go_wp2_with fail
  refine CC.out.mono ?_
  rintro e w1 ⟨rfl, HB1⟩
  have H2 := Kp.mk (SlF.below H1.out HB1.out)
  have HX1 := Kp.mk (HBX.out.below HB1.out)
  have HBB1 := Kp.mk (below_step HA.out HB1.out)
  clear CC H1 HBX HA HB1
  have HD := Kp.mk (show Below w1.heap.size w1 w1.drew from (Below.refl _ _).drew)
  have HP := Kp.mk (SlF.below H2.out HD.out)
  obtain ⟨bz, hbz⟩ : ∃ bz, w.heap.size = bz := ⟨_, rfl⟩
  have HBZE := Kp.mk hbz
  have HBZ := Kp.mk (show bz ≤ w1.heap.size from by rw [← hbz]; exact HBB1.out.size)
  rw [hbz] at HX1 HBB1 ⊢
  have x0 : w1.cell? ⟨bz, 0, none⟩ = some (.int .i64 X0) := HX1.out.cell 0 rfl
  have x1 : w1.cell? ⟨bz, 1, none⟩ = some (.int .i64 Y0) := HX1.out.cell 1 rfl
  have x2 : w1.cell? ⟨bz, 2, none⟩ = some (.int .i64 X1) := HX1.out.cell 2 rfl
  have x3 : w1.cell? ⟨bz, 3, none⟩ = some (.int .i64 Y1) := HX1.out.cell 3 rfl
  have HKS := Kp.mk (fun (w' : World) (hb : Below w1.drew.heap.size w1.drew w') => show w'.cell? ⟨bz, 0, none⟩ = some (.int .i64 X0) ∧ w'.cell? ⟨bz, 1, none⟩ = some (.int .i64 Y0) ∧ w'.cell? ⟨bz, 2, none⟩ = some (.int .i64 X1) ∧ w'.cell? ⟨bz, 3, none⟩ = some (.int .i64 Y1) from by
    have hbx := (HX1.out.below HD.out).below hb
    exact ⟨hbx.cell 0 rfl, hbx.cell 1 rfl, hbx.cell 2 rfl, hbx.cell 3 rfl⟩)
  clear hbz H2
  go_wp2
  go_region_held3 (fun w' => w'.cell? ⟨bz, 0, none⟩ = some (.int .i64 X0) ∧ w'.cell? ⟨bz, 1, none⟩ = some (.int .i64 Y0) ∧ w'.cell? ⟨bz, 2, none⟩ = some (.int .i64 X1) ∧ w'.cell? ⟨bz, 3, none⟩ = some (.int .i64 Y1))
    (first | exact ⟨x0, x1, x2, x3⟩ | exact hS1 | exact hS2 | go_keep)
    ((first
      | (go_at_call 37; refine (greport_any g a cap n L oa oc O V R _ _ X0 Y0 X1 Y1 _ HI.out.to0 HF.out hn).mono ?_; rintro e wc ⟨ra, m, rc, out, rfl, HIR, HOW, HB3⟩; have hS2 := HKS.out wc (HB2.out.trans (HB3.out.mono HB2.out.size)))
      | (go_at_call 15; refine (gbuild_any a cap n L _ HP.out hn).mono ?_; rintro e wq ⟨g, oa, oc, O, va, v, vc, V, wa, wc, R, rfl, HI, HF, HB2, _⟩; have hS1 := HKS.out wq HB2.out)
      | fail))
  all_goals
    have HBE := Kp.mk (HBB1.out.trans ((HD.out.trans ((HB2.out.trans (HB3.out.mono HB2.out.size)).mono HD.out.size)).mono HBZ.out))
    have HOE := Kp.mk (own_base HOW.out (show bz ≤ _ from Nat.le_trans HBZ.out (Nat.le_trans HD.out.size HB2.out.size)))
    clear hS1 hS2 HB2 HB3 HI HF
    go_wp2
    refine bodyPost_ret (v := .tuple #[.slice ra m rc, .int .i64 0]) (by simp [results, Tryz.results18, go_sem]) rfl ?_
    exact ⟨_, _, _, out, rfl, HIR, ⟨by rw [HBZE.out]; exact HOE.out⟩, ⟨by rw [HBZE.out]; exact HBE.out⟩⟩

end Go.Proofs.YtladgklnacihkaaGreat

