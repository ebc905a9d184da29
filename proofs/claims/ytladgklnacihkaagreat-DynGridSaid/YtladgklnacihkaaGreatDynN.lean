import Derived.Test.YtladgklnacihkaaGreatMg30
import Derived.Test.YtladgklnacihkaaGreatMg20
import Derived.Test.YtladgklnacihkaaGreatMg23
/- What is there behind acts: alive. -/
namespace Go.Proofs.YtladgklnacihkaaGreat.Dy
set_option linter.unusedVariables false
open Go.RowKit

theorem filter_at {A : List IP} (hup : A.Pairwise (fun a b => a.1 < b.1)) (k : Nat) (hk : k < A.length) (id : Int) (he : A[k].1 = id) : A.filter (fun a => a.1 != id) = A.eraseIdx k := by
  rw [List.eraseIdx_eq_take_drop_succ]
  have hp := List.pairwise_iff_getElem.1 hup
  conv => lhs; rw [← List.take_append_drop k A, List.drop_eq_getElem_cons hk]
  rw [List.filter_append, List.filter_cons, if_neg (by simp [he])]
  rw [List.filter_eq_self.2, List.filter_eq_self.2]
  · intro a ha
    obtain ⟨i, hi, rfl⟩ := List.mem_iff_getElem.1 ha
    rw [List.length_drop] at hi
    have := hp k (k + 1 + i) hk (by omega) (by omega)
    rw [List.getElem_drop, bne_iff_ne]; omega
  · intro a ha
    obtain ⟨i, hi, rfl⟩ := List.mem_iff_getElem.1 ha
    rw [List.length_take] at hi
    have := hp i k (by omega) hk (by omega)
    rw [List.getElem_take, bne_iff_ne]; omega
theorem filter_no {A : List IP} (id : Int) (h : id ∉ A.map (·.1)) : A.filter (fun a => a.1 != id) = A := by
  refine List.filter_eq_self.2 fun a ha => ?_
  rw [bne_iff_ne]
  intro e
  exact h (List.mem_map.2 ⟨a, ha, e⟩)
theorem an_put {s : St} {x : Ac} {r : An} (h : x.kind = 1) (hr : IsAn s x r) : r.code = 0 ∧ r.n = s.next ∧ (step s x).A = s.A ++ [((s.next : Int), x.p)] := by
  unfold IsAn at hr
  rw [if_pos h] at hr
  rw [hr]
  exact ⟨rfl, rfl, by unfold step; rw [if_pos h]⟩
theorem an_cut {s : St} {x : Ac} {r : An} (h : x.kind = 2) (hr : IsAn s x r) : (step s x).A = s.A.filter (fun a => a.1 != x.id) ∧ (x.id ∈ s.A.map (·.1) ∧ r.code = 0 ∨ x.id ∉ s.A.map (·.1) ∧ r.code = 7) := by
  unfold IsAn at hr
  rw [if_neg (by omega), if_pos h] at hr
  refine ⟨by unfold step; rw [if_neg (by omega), if_pos h], ?_⟩
  rw [hr]
  by_cases hm : x.id ∈ s.A.map (·.1)
  · exact .inl ⟨hm, by rw [if_pos hm]⟩
  · exact .inr ⟨hm, by rw [if_neg hm]⟩
theorem st_other {s : St} {x : Ac} (h1 : x.kind ≠ 1) (h2 : x.kind ≠ 2) : (step s x).A = s.A := by
  unfold step
  rw [if_neg h1, if_neg h2]

theorem SlC.back {w : World} {ad : Addr} {len cap size m : Nat} {cs : List Value} (h : SlC w (some ad) len cap size cs) (hm : m ≤ len) : SlC w (some (ad.add (m * size))) (len - m) (cap - m) size (cs.drop (m * size)) := by
  refine ⟨by rw [List.length_drop, h.hlen, Nat.mul_sub_right_distrib], by have := h.le; omega, by have := h.capm; omega, (fun e => by cases e), fun i hi => ?_⟩
  rw [List.length_drop] at hi
  obtain ⟨b, off, ha, hc⟩ := h.cell (m * size + i) (by omega)
  obtain rfl := Option.some.inj ha
  refine ⟨b, off + m * size, by simp [Addr.add], ?_⟩
  rw [Nat.add_assoc, hc, List.getElem_drop]

/-- The rows of what is there. -/
structure AlI (B : Nat) (w wr : World) (A : List IP) (m : Nat) (ia : Option Addr) (ic : Nat) (pa : Option Addr) (pc : Nat) : Prop where
  len : A.length = m
  ids : wr.ownsRow B 3 1 (.slice ia m ic) m (idV A)
  pts : wr.ownsRow B 28 3 (.slice pa m pc) m (ptV A)
  bel : Below B w wr
theorem AlI.apart {B : Nat} {w wr : World} {A : List IP} {m ic pc : Nat} {ia pa : Option Addr} (h : AlI B w wr A m ia ic pa pc) : ∀ k, blk ia = some k → blk pa ≠ some k := fun k h1 h2 =>
  (ty_own h.ids h1).1.ne (ty_own h.pts h2).1 (by decide) rfl
theorem AlI.later {B : Nat} {w wr wq : World} {A : List IP} {m ic pc : Nat} {ia pa : Option Addr} (h : AlI B w wr A m ia ic pa pc) (hb : Below wr.heap.size wr wq) (hB : B ≤ wr.heap.size) : AlI B w wq A m ia ic pa pc :=
  ⟨h.len, own_below h.ids hb, own_below h.pts hb, h.bel.trans (hb.mono hB)⟩

set_option maxRecDepth 100000 in
set_option maxHeartbeats 32000000 in
theorem alive_any (la : Option Addr) (lc n : Nat) (L : List Ac) (xa : Option Addr) (xc : Nat) (R : List Aw) (w : World) (h : SlF acL 10 w la n lc L) (hx : SlF anL 3 w xa n xc R) (hl : L.length = n) (hr : R.length = n) (hn : n ≤ 140) (hok : ∀ x ∈ L, x.Ok)
    (hans : ∀ j (h : j < R.length) (h' : j < L.length), IsAn (stAt L j) L[j] R[j].r) :
    Calls Tryz.prog 10 #[.slice la n lc, .slice xa n xc] w fun e w' => ∃ (ia pa : Option Addr) (ic pc m : Nat), e = .returned (.tuple #[.slice ia m ic, .slice pa m pc]) ∧ Kp (AlI w.heap.size w w' (stAt L n).A m ia ic pa pc) := by
  have H := Kp.mk h
  have HX := Kp.mk hx
  have HLN := Kp.mk hl
  have HRN := Kp.mk hr
  have HOK := Kp.mk hok
  have HAN := Kp.mk hans
  obtain ⟨B, hB⟩ : ∃ B, w.heap.size = B := ⟨_, rfl⟩
  rw [hB]
  have HBE := Kp.mk hB
  clear h hx hl hr hok hans hB
  go_enter Tryz.func10, Tryz.ntmps10
  go_wp2
  go_loopw [6, 7, 8] (fun iv pv kv wr => ∃ (k m : Nat) (ia pa : Option Addr) (ic pc : Nat), k ≤ n ∧ m ≤ k ∧ kv = .int .i64 k ∧ iv = .slice ia m ic ∧ pv = .slice pa m pc ∧ Kp (AlI B w wr (stAt L k).A m ia ic pa pc)) (fun _ _ kv _ => n - (intOf kv).toNat)
  case atStart => exact ⟨0, 0, none, none, 0, 0, Nat.zero_le _, Nat.le_refl _, rfl, rfl, rfl, ⟨⟨rfl, World.ownsRow_nil _ _ _ _, World.ownsRow_nil _ _ _ _, Below.refl _ _⟩⟩⟩
  case round =>
    obtain ⟨k, m, ia, pa, ic, pc, hk, hmk, rfl, rfl, rfl, HI⟩ := hrel
    by_cases hlt : k < n
    · have hkL : k < L.length := by rw [HLN.out]; exact hlt
      have hkR : k < R.length := by rw [HRN.out]; exact hlt
      have hs1 : B ≤ wr.heap.size := by have := HI.out.bel.size; have := HBE.out; omega
      have han := HAN.out k hkR hkL
      have hst := stAt_succ L k hkL
      have hinv := inv_at L HOK.out k (by omega)
      have HKS := Kp.mk (fun (W : World) (hW : Below B w W) => (SlF.below H.out (show Below w.heap.size w W by rw [HBE.out]; exact hW)).at acL_len (by omega) k hkL)
      have HKX := Kp.mk (fun (W : World) (hW : Below B w W) => (SlF.below HX.out (show Below w.heap.size w W by rw [HBE.out]; exact hW)).at anL_len (by omega) k hkR)
      generalize L[k] = ac at *
      generalize R[k] = an at *
      obtain ⟨ak, ⟨px, py, pv⟩, aa, ab, ac', ad, aid, az⟩ := ac
      obtain ⟨⟨cd, nn, ids⟩, ra, rm, rc⟩ := an
      obtain ⟨lb, lo, rfl, hbw, co⟩ := HKS.out wr HI.out.bel
      obtain ⟨xb, xo, rfl, hbx, cx⟩ := HKX.out wr HI.out.bel
      have x0 : wr.cell? ⟨lb, lo + k * 10, none⟩ = some (.int .i64 ak) := co 0 (by omega)
      have x8 : wr.cell? ⟨lb, lo + k * 10 + 8, none⟩ = some (.int .i64 aid) := co 8 (by omega)
      have r0 : wr.cell? ⟨xb, xo + k * 3, none⟩ = some (.int .i64 cd) := cx 0 (by omega)
      have r1 : wr.cell? ⟨xb, xo + k * 3 + 1, none⟩ = some (.int .i64 nn) := cx 1 (by omega)
      clear co cx hbw hbx
      by_cases h1 : ak = 1
      · subst h1
        obtain ⟨rfl, rfl, hA⟩ := an_put rfl han
        simp only at hA
        obtain ⟨nx, hnx⟩ : ∃ nx, (stAt L k).next = nx := ⟨_, rfl⟩
        rw [hnx] at r1 hA
        have HA1 := Kp.mk (show (stAt L (k + 1)).A = (stAt L k).A ++ [((nx : Int), (⟨px, py, pv⟩ : Pt))] from by rw [hst]; exact hA)
        clear hA hst hinv han hnx
        go_wp2_with (at_builtin; refine wpList_pushS tInts (by rfl) _ _ (by rfl) B ia m ic _ (by rfl) HI.out.ids 1 _ (by rfl) (by rfl) ?d1 ?d2 (by decide) hs1 ?d4)
        case d1 => simp [Value.oneCell']
        case d2 => omega
        case d4 =>
          intro ia2 ic2 w2 ho2 hg2 hn2
          have HB2 := Kp.mk (HI.out.bel.trans (below_of_grown hg2 hs1 (fun q hq => (ty_own HI.out.ids hq).2)))
          have HP2 := Kp.mk (own_keep HI.out.pts hg2 HI.out.apart)
          have HD2 := Kp.mk ho2
          have hs2 : B ≤ w2.heap.size := Nat.le_trans hs1 hg2.size
          obtain ⟨b', o', e', _, co⟩ := HKS.out w2 HB2.out
          obtain ⟨rfl, rfl⟩ : b' = lb ∧ o' = lo := by cases e'; exact ⟨rfl, rfl⟩
          have z0 : w2.cell? ⟨b', o' + k * 10, none⟩ = some (.int .i64 1) := co 0 (by omega)
          have z1 : w2.cell? ⟨b', o' + k * 10 + 1, none⟩ = some (.int .i64 px) := co 1 (by omega)
          have z2 : w2.cell? ⟨b', o' + k * 10 + 2, none⟩ = some (.int .i64 py) := co 2 (by omega)
          have z3 : w2.cell? ⟨b', o' + k * 10 + 3, none⟩ = some (.int .i64 pv) := co 3 (by omega)
          clear ho2 hg2 hn2 e' co x0 x8 r0 r1
          go_wp2_with (at_builtin; refine wpList_pushS tPts (by rfl) _ _ (by rfl) B pa m pc _ (by rfl) HP2.out 1 _ (by rfl) (by rfl) ?f1 ?f2 (by decide) hs2 ?f4)
          case f1 => simp [Value.oneCell']
          case f2 => omega
          case f4 =>
            intro pa2 pc2 w3 ho3 hg3 hn3
            have HB3 := Kp.mk (HB2.out.trans (below_of_grown hg3 hs2 (fun q hq => (ty_own HP2.out hq).2)))
            have HD3 := Kp.mk (own_keep HD2.out hg3 (fun q h1 h2 => (ty_own HD2.out h2).1.ne (ty_own HP2.out h1).1 (by decide) rfl))
            obtain ⟨b3, o3, e3, _, co⟩ := HKS.out w3 HB3.out
            obtain ⟨rfl, rfl⟩ : b3 = b' ∧ o3 = o' := by cases e3; exact ⟨rfl, rfl⟩
            have y0 : w3.cell? ⟨b3, o3 + k * 10, none⟩ = some (.int .i64 1) := co 0 (by omega)
            have HI3 := Kp.mk (show AlI B w w3 (stAt L (k + 1)).A (m + 1) ia2 ic2 pa2 pc2 from ⟨by rw [HA1.out, List.length_append, HI.out.len]; rfl, by rw [HA1.out]; simpa [idV, ints] using HD3.out, by rw [HA1.out]; unfold ptV; rw [List.map_append, flat_append]; simpa [flat, ptL, ptV] using ho3, HB3.out⟩)
            clear ho3 hg3 hn3 e3 co z0 z1 z2 z3 HB2 HP2 HD2 HB3 HD3 HA1
            go_wp2
            go_roundw
            case rel => exact ⟨k + 1, m + 1, ia2, pa2, ic2, pc2, by omega, by omega, by go_num, rfl, rfl, HI3⟩
            case measure => simp [intOf]; omega
      · have e1 : (ak == 1) = false := by simpa using h1
        by_cases h2 : ak = 2
        · subst h2
          obtain ⟨hA, hc⟩ := an_cut rfl han
          simp only at hA hc
          rcases hc with ⟨hm, rfl⟩ | ⟨hm, rfl⟩
          · obtain ⟨wo, rfl⟩ : ∃ wo : World, wo = wr := ⟨_, rfl⟩
            obtain ⟨A, hAg⟩ : ∃ A, (stAt L k).A = A := ⟨_, rfl⟩
            have hup := hinv.up
            rw [hAg] at hA hm HI hup
            have HA1 := Kp.mk (show (stAt L (k + 1)).A = A.filter (fun a => a.1 != aid) from by rw [hst]; exact hA)
            have HUP := Kp.mk hup
            have HM := Kp.mk (show ∃ i, ∃ h : i < A.length, A[i].1 = aid from by
              obtain ⟨a, ha, e⟩ := List.mem_map.1 hm
              obtain ⟨i, hi, rfl⟩ := List.mem_iff_getElem.1 ha
              exact ⟨i, hi, e⟩)
            have hm0 : 0 < m := by obtain ⟨i, hi, _⟩ := HM.out; have := HI.out.len; omega
            clear hA hm hup hst hinv han hAg
            obtain ⟨gi, rfl, hgi, _⟩ := own_some HI.out.ids hm0
            obtain ⟨gp, rfl, hgp, _⟩ := own_some HI.out.pts hm0
            go_wp2
            go_loopw [6, 7, 9] (fun iv pv jv wq => ∃ j : Nat, j ≤ m ∧ jv = .int .i64 j ∧ iv = .slice (some ⟨gi, 0, none⟩) m ic ∧ pv = .slice (some ⟨gp, 0, none⟩) m pc ∧ Kp (∀ i, i < j → ∀ h : i < A.length, A[i].1 ≠ aid) ∧ Kp (Below wo.heap.size wo wq)) (fun _ _ jv _ => m - (intOf jv).toNat)
            case atStart => exact ⟨0, Nat.zero_le _, rfl, rfl, rfl, ⟨fun i hi => by omega⟩, ⟨Below.refl _ _⟩⟩
            case round =>
              obtain ⟨j, hj, rfl, rfl, rfl, HJ, HBQ⟩ := hrel
              have hjm : j < m := by
                obtain ⟨i, hi, e⟩ := HM.out
                have h1 := HI.out.len
                rcases Nat.lt_or_ge j m with h2 | h2
                · exact h2
                · exact absurd e (HJ.out i (by omega) hi)
              have hjA : j < A.length := by rw [HI.out.len]; exact hjm
              have i0 : wr.cell? ⟨gi, j, none⟩ = some (.int .i64 A[j].1) := own_atK (own_below HI.out.ids HBQ.out) j _ (by unfold idV ints; simp [hjA])
              obtain ⟨b', o', e', _, co⟩ := HKS.out wr (HI.out.bel.trans (HBQ.out.mono hs1))
              obtain ⟨rfl, rfl⟩ : b' = lb ∧ o' = lo := by cases e'; exact ⟨rfl, rfl⟩
              have z8 : wr.cell? ⟨b', o' + k * 10 + 8, none⟩ = some (.int .i64 aid) := co 8 (by omega)
              clear e' co x0 x8 r0 r1
              by_cases hx : A[j].1 = aid
              · rw [hx] at i0
                go_wp2
                go_quiet (fail)
                go_upto_region 14 with (fail)
                have hbd' : Below wo.heap.size wo (wr.drewN nq) := below_drewN HBQ.out _
                generalize wr.drewN nq = wd at *
                have hic := (own_slc HI.out.ids).le
                have hcm := (own_slc HI.out.ids).capm
                unfold maxLen at hcm
                have hjc : j ≤ ic := by omega
                have hjm1 : j + 1 ≤ m := hjm
                have hjc1 : j + 1 ≤ ic := by omega
                have hji0 : (0 : Int) ≤ (j : Int) + 1 := by omega
                have hji1 : (j : Int) + 1 ≤ (m : Int) := by omega
                have ewj : IntKind.i64.wrap ((j : Int) + 1) = (j : Int) + 1 := IntWalk.i64_in _ (by omega)
                have HIa := Kp.mk (HI.out.later hbd' hs1)
                clear HBQ HKX H HX HKS z8 i0
                go_cut [6] (fun v wx => ∃ (qa : Option Addr) (qc : Nat), v = .slice qa (j + (m - (j + 1))) qc ∧ Kp (wx.ownsRow wd.heap.size 3 1 (.slice qa (j + (m - (j + 1))) qc) (j + (m - (j + 1))) (cutL 1 j (idV A))) ∧ Kp (Below wd.heap.size wd wx))
                case first =>
                  have HF := Kp.mk (fun (W : World) (hW : Below wd.heap.size wd W) => ((own_slc HIa.out.ids).below hW).front (m := j) (by omega))
                  have hone : ∀ u ∈ idV A, u.oneCell' = true := fun u hu => by
                    obtain ⟨z, _, rfl⟩ := List.mem_map.1 hu
                    rfl
                  have hD : Below wd.heap.size wd wd.drew := (Below.refl _ _).drew
                  by_cases hce : ic = j + 1
                  · have hmj : m = j + 1 := by omega
                    have HZ := Kp.mk (show cutL 1 j (idV A) = (idV A).take (j * 1) ++ [] from by
                      unfold cutL
                      rw [List.drop_of_length_le (by rw [idV_length, HIa.out.len]; omega)])
                    have HSN := Kp.mk (fun (W : World) => show SlC W (some ⟨gi, 0, none⟩) 0 0 1 [] from ⟨rfl, Nat.le_refl _, Nat.zero_le _, (fun e => by cases e), (fun i hi => absurd hi (Nat.not_lt_zero _))⟩)
                    subst hmj hce
                    have hjj : (j : Int) ≤ (j : Int) + 1 := by omega
                    have hj0 : (0 : Int) ≤ (j : Int) := by omega
                    clear hji1 hjm hm0 hcm hjm1 hjc1
                    go_region_held3 (fun W => True)
                      (first | exact trivial | go_keep)
                      ((first
                        | (refine step_cat0 tInts (by rfl) _ _ (by rfl) wd.heap.size (by rfl) (some ⟨gi, 0, none⟩) j (j + 1) _ (by rfl) (HF.out _ hD) (fun u hu => hone u (List.mem_of_mem_take hu)) (by omega) (by decide) hD.size ?_; intro xa xc wa howna hgra; have hba : Below wd.heap.size wd wa := hD.trans (below_of_grown hgra hD.size (fun q hq => by cases hq)))
                        | (refine step_cat tInts (by rfl) _ _ (by rfl) wd.heap.size xa j xc _ (by rfl) howna (some ⟨gi, 0, none⟩) 0 0 [] (by rfl) (HSN.out _) (by simp) (by omega) (by decide) hba.size ?_; intro ya yc wb hownb hgrb hnob; have hbb : Below wd.heap.size wd wb := hba.trans (below_of_grown hgrb hba.size (fun q hq => (ty_own howna hq).2)))
                        | fail))
                    all_goals
                      go_wp2
                      go_meet
                      exact ⟨ya, yc, by rw [Nat.sub_self, Nat.add_zero], ⟨by rw [HZ.out, Nat.sub_self]; exact hownb⟩, ⟨hbb⟩⟩
                  · have HBK := Kp.mk (fun (W : World) (hW : Below wd.heap.size wd W) => show SlC W (some ⟨gi, j + 1, none⟩) (m - (j + 1)) (ic - (j + 1)) 1 ((idV A).drop ((j + 1) * 1)) from by
                      have := SlC.back ((own_slc HIa.out.ids).below hW) (m := j + 1) hjm1
                      simpa [Addr.add] using this)
                    go_region_held3 (fun W => True)
                      (first | exact trivial | go_keep)
                      ((first
                        | (refine step_cat0 tInts (by rfl) _ _ (by rfl) wd.heap.size (by rfl) (some ⟨gi, 0, none⟩) j ic _ (by rfl) (HF.out _ hD) (fun u hu => hone u (List.mem_of_mem_take hu)) (by omega) (by decide) hD.size ?_; intro xa xc wa howna hgra; have hba : Below wd.heap.size wd wa := hD.trans (below_of_grown hgra hD.size (fun q hq => by cases hq)))
                        | (refine step_cat tInts (by rfl) _ _ (by rfl) wd.heap.size xa j xc _ (by rfl) howna (some ⟨gi, j + 1, none⟩) (m - (j + 1)) (ic - (j + 1)) _ (by rfl) (HBK.out _ hba) (fun u hu => hone u (List.mem_of_mem_drop hu)) (by omega) (by decide) hba.size ?_; intro ya yc wb hownb hgrb hnob; have hbb : Below wd.heap.size wd wb := hba.trans (below_of_grown hgrb hba.size (fun q hq => (ty_own howna hq).2)))
                        | fail))
                    all_goals
                      go_wp2
                      go_meet
                      exact ⟨ya, yc, rfl, ⟨hownb⟩, ⟨hbb⟩⟩
                case rest =>
                  obtain ⟨qa, qc, rfl, HQI, HB1⟩ := hcut
                  obtain ⟨w1, rfl⟩ : ∃ w1 : World, w1 = wc := ⟨_, rfl⟩
                  have HER := Kp.mk (show (stAt L (k + 1)).A = A.eraseIdx j from by rw [HA1.out]; exact filter_at HUP.out j hjA aid hx)
                  have hjA' := Kp.mk hjA
                  have hsd : B ≤ wd.heap.size := Nat.le_trans hs1 hbd'.size
                  have HPa := Kp.mk (own_below HIa.out.pts HB1.out)
                  have HBa := Kp.mk (HIa.out.bel.trans (HB1.out.mono hsd))
                  have hs2 : B ≤ w1.heap.size := Nat.le_trans hsd HB1.out.size
                  have hpc := (own_slc HPa.out).le
                  have hpm := (own_slc HPa.out).capm
                  unfold maxLen at hpm
                  have hjp : j ≤ pc := by omega
                  have hjp1 : j + 1 ≤ pc := by omega
                  have HLA := Kp.mk HIa.out.len
                  clear HI HIa HM HJ hjA hx hic hcm hjc hjc1 HA1 HUP hbd'
                  go_upto_region 15 with (fail)
                  go_cut [7] (fun v wx => ∃ (ra : Option Addr) (rc : Nat), v = .slice ra (j + (m - (j + 1))) rc ∧ Kp (wx.ownsRow w1.heap.size 28 3 (.slice ra (j + (m - (j + 1))) rc) (j + (m - (j + 1))) (cutL 3 j (ptV A))) ∧ Kp (Below w1.heap.size w1 wx))
                  case first =>
                    have HF := Kp.mk (fun (W : World) (hW : Below w1.heap.size w1 W) => ((own_slc HPa.out).below hW).front (m := j) (by omega))
                    have hone : ∀ u ∈ ptV A, u.oneCell' = true := flat_one ptL_one _
                    have hD : Below w1.heap.size w1 w1.drew := (Below.refl _ _).drew
                    by_cases hce : pc = j + 1
                    · have hmj : m = j + 1 := by omega
                      have HZ := Kp.mk (show cutL 3 j (ptV A) = (ptV A).take (j * 3) ++ [] from by
                        unfold cutL
                        rw [List.drop_of_length_le (by rw [ptV_length, HLA.out]; omega)])
                      have HSN := Kp.mk (fun (W : World) => show SlC W (some ⟨gp, 0, none⟩) 0 0 3 [] from ⟨rfl, Nat.le_refl _, Nat.zero_le _, (fun e => by cases e), (fun i hi => absurd hi (Nat.not_lt_zero _))⟩)
                      subst hmj hce
                      have hjj : (j : Int) ≤ (j : Int) + 1 := by omega
                      have hj0 : (0 : Int) ≤ (j : Int) := by omega
                      clear hji1 hjm hm0 hpm hjm1 hjp1
                      go_region_held3 (fun W => True)
                        (first | exact trivial | go_keep)
                        ((first
                          | (refine step_cat0 tPts (by rfl) _ _ (by rfl) w1.heap.size (by rfl) (some ⟨gp, 0, none⟩) j (j + 1) _ (by rfl) (HF.out _ hD) (fun u hu => hone u (List.mem_of_mem_take hu)) (by omega) (by decide) hD.size ?_; intro xa xc wa howna hgra; have hba : Below w1.heap.size w1 wa := hD.trans (below_of_grown hgra hD.size (fun q hq => by cases hq)))
                          | (refine step_cat tPts (by rfl) _ _ (by rfl) w1.heap.size xa j xc _ (by rfl) howna (some ⟨gp, 0, none⟩) 0 0 [] (by rfl) (HSN.out _) (by simp) (by omega) (by decide) hba.size ?_; intro ya yc wb hownb hgrb hnob; have hbb : Below w1.heap.size w1 wb := hba.trans (below_of_grown hgrb hba.size (fun q hq => (ty_own howna hq).2)))
                          | fail))
                      all_goals
                        go_wp2
                        go_meet
                        exact ⟨ya, yc, by rw [Nat.sub_self, Nat.add_zero], ⟨by rw [HZ.out, Nat.sub_self]; exact hownb⟩, ⟨hbb⟩⟩
                    · have HBK := Kp.mk (fun (W : World) (hW : Below w1.heap.size w1 W) => show SlC W (some ⟨gp, (j + 1) * 3, none⟩) (m - (j + 1)) (pc - (j + 1)) 3 ((ptV A).drop ((j + 1) * 3)) from by
                        have := SlC.back ((own_slc HPa.out).below hW) (m := j + 1) hjm1
                        simpa [Addr.add] using this)
                      go_region_held3 (fun W => True)
                        (first | exact trivial | go_keep)
                        ((first
                          | (refine step_cat0 tPts (by rfl) _ _ (by rfl) w1.heap.size (by rfl) (some ⟨gp, 0, none⟩) j pc _ (by rfl) (HF.out _ hD) (fun u hu => hone u (List.mem_of_mem_take hu)) (by omega) (by decide) hD.size ?_; intro xa xc wa howna hgra; have hba : Below w1.heap.size w1 wa := hD.trans (below_of_grown hgra hD.size (fun q hq => by cases hq)))
                          | (refine step_cat tPts (by rfl) _ _ (by rfl) w1.heap.size xa j xc _ (by rfl) howna (some ⟨gp, (j + 1) * 3, none⟩) (m - (j + 1)) (pc - (j + 1)) _ (by rfl) (HBK.out _ hba) (fun u hu => hone u (List.mem_of_mem_drop hu)) (by omega) (by decide) hba.size ?_; intro ya yc wb hownb hgrb hnob; have hbb : Below w1.heap.size w1 wb := hba.trans (below_of_grown hgrb hba.size (fun q hq => (ty_own howna hq).2)))
                          | fail))
                      all_goals
                        go_wp2
                        go_meet
                        exact ⟨ya, yc, rfl, ⟨hownb⟩, ⟨hbb⟩⟩
                  case rest =>
                    obtain ⟨ra, rc, rfl, HQP, HB2⟩ := hcut
                    obtain ⟨w2, rfl⟩ : ∃ w2 : World, w2 = wc := ⟨_, rfl⟩
                    have HI2 := Kp.mk (show AlI B w w2 (stAt L (k + 1)).A (j + (m - (j + 1))) qa qc ra rc from
                      ⟨by rw [HER.out, List.length_eraseIdx_of_lt hjA'.out, HLA.out]; omega,
                       by rw [HER.out, ← cutL_idV A j hjA'.out]; exact own_base (own_below HQI.out HB2.out) hsd,
                       by rw [HER.out, ← cutL_ptV A j hjA'.out]; exact own_base HQP.out hs2,
                       HBa.out.trans (HB2.out.mono hs2)⟩)
                    clear HQI HQP HB1 HB2 HBa HPa HER HLA
                    go_wp2
                    go_roundw
                    case rel => exact ⟨k + 1, j + (m - (j + 1)), qa, ra, qc, rc, by omega, by omega, by go_num, rfl, rfl, HI2⟩
                    case measure => simp [intOf]; omega
              · have ex : (A[j].1 == aid) = false := by simpa using hx
                have HJ2 := Kp.mk (show ∀ i, i < j + 1 → ∀ h : i < A.length, A[i].1 ≠ aid from fun i hi h => by
                  rcases Nat.lt_or_ge i j with h2 | h2
                  · exact HJ.out i h2 h
                  · obtain rfl : i = j := by omega
                    exact hx)
                generalize A[j].1 = aj at *
                clear hx HJ
                go_wp2
                go_quiet (fail)
                go_wp2
                go_roundw
                case rel => exact ⟨j + 1, by omega, by go_num, rfl, rfl, HJ2, ⟨below_drewN HBQ.out _⟩⟩
                case measure => simp [intOf]; omega
          · have HI2 := Kp.mk (show AlI B w wr (stAt L (k + 1)).A m ia ic pa pc from by rw [hst, hA, filter_no _ hm]; exact HI.out)
            clear hA hm hst hinv han HI
            go_wp2
            go_roundw
            case rel => exact ⟨k + 1, m, ia, pa, ic, pc, by omega, by omega, by go_num, rfl, rfl, HI2⟩
            case measure => simp [intOf]; omega
        · have e2 : (ak == 2) = false := by simpa using h2
          have hA := st_other (s := stAt L k) (x := ⟨ak, ⟨px, py, pv⟩, aa, ab, ac', ad, aid, az⟩) h1 h2
          have HI2 := Kp.mk (show AlI B w wr (stAt L (k + 1)).A m ia ic pa pc from by rw [hst, hA]; exact HI.out)
          clear han hst hA hinv HI
          go_wp2
          go_roundw
          case rel => exact ⟨k + 1, m, ia, pa, ic, pc, by omega, by omega, by go_num, rfl, rfl, HI2⟩
          case measure => simp [intOf]; omega
    · obtain rfl : k = n := by omega
      go_wp2
      refine bodyPost_ret (v := .tuple #[.slice ia m ic, .slice pa m pc]) (by simp [results, Tryz.results10, go_sem]) rfl ?_
      exact ⟨ia, pa, ic, pc, m, rfl, HI⟩

end Go.Proofs.YtladgklnacihkaaGreat.Dy

