/- The walk of FenTrue. -/
import Derived.Test.YtjofajpcchncpaaFenL
namespace Go.Proofs.Ytjofajpcchncpaa
set_option linter.unusedVariables false
open Go.RowKit

theorem tdiv_bd (x c : Int) (hc : 0 < c) (h1 : -9223372036854775808 ≤ x) (h2 : x ≤ 9223372036854775807) : -9223372036854775808 ≤ x.tdiv c ∧ x.tdiv c ≤ 9223372036854775807 := by
  by_cases h : 0 ≤ x
  · rw [Int.tdiv_eq_ediv_of_nonneg h]
    have h3 : x / c ≤ x := Int.ediv_le_self c h
    have h4 : 0 ≤ x / c := Int.ediv_nonneg h (by omega)
    omega
  · have h3 : x.tdiv c = -((-x) / c) := by
      rw [← Int.tdiv_eq_ediv_of_nonneg (show 0 ≤ -x by omega), Int.neg_tdiv, Int.neg_neg]
    rw [h3]
    have h4 : (-x) / c ≤ -x := Int.ediv_le_self c (by omega)
    have h5 : 0 ≤ (-x) / c := Int.ediv_nonneg (by omega) (by omega)
    omega
theorem set_bd (l : List Int) (p : Nat) (b M L : Int) (hp : p < l.length) (h : ∀ x ∈ l, -M ≤ x ∧ x ≤ M) (hb1 : -L ≤ b) (hb2 : b ≤ L) : ∀ x ∈ l.set p (l[p] + b), -(M + L) ≤ x ∧ x ≤ M + L := by
  intro x hx
  have h0 := h _ (List.getElem_mem hp)
  rcases List.mem_or_eq_of_mem_set hx with hx | rfl
  · have := h x hx; omega
  · omega

set_option maxHeartbeats 2000000 in
theorem walk_FenTrue (a0 : Option Addr) (len0 cap0 : Nat) (z0 : List Int) (a1 : Option Addr) (len1 cap1 : Nat) (z1 : List Int) (a2 : Int) (w : World) (w0 : IsRow .i64 w a0 len0 cap0 z0) (w1 : IsRow .i64 w a1 len1 cap1 z1) (w2 : (Lit.int .i64 a2).wf = true) :
    Calls Try.prog 6 #[.slice a0 len0 cap0, .slice a1 len1 cap1, .int .i64 a2] w fun e w' => e = .returned (.bool true) ∧ Below w.heap.size w w' := by
  obtain ⟨l, rfl, hl, wl, nl⟩ := row_sl w0
  obtain ⟨ad, rfl, had, wad, nad⟩ := row_sl w1
  obtain ⟨b1, b2⟩ := wf_bd w2
  have HL := Kp.mk hl
  have WL := Kp.mk wl
  have HAD := Kp.mk had
  have WAD := Kp.mk wad
  unfold maxLen at nl nad
  clear w0 w1 w2 hl wl had wad
  go_enter Try.func6, Try.ntmps6
  go_wp2_with fail
  refine (signed_any a0 cap0 80 1000 l w HL.out (by omega) (by omega) (by omega) (by omega) WL.out).mono ?_
  rintro e wa ⟨sa, sc, rfl, hown, hbel⟩
  have hlen : (sgn l 80 1000).length ≤ 80 := by rw [sgn_length]; omega
  have HBD := Kp.mk (app_bd _ 1000 5 (sgn_bd l 80 1000 (by omega)) (by omega) (by omega))
  generalize sgn l 80 1000 = L at *
  obtain ⟨m, hm⟩ : ∃ m, m = L.length := ⟨_, rfl⟩
  unfold OwnI at hown
  rw [← hm] at hown hlen ⊢
  have HM := Kp.mk hm
  have HO := Kp.mk hown
  have HB := Kp.mk hbel
  have hsz : Kp (w.heap.size ≤ wa.heap.size) := ⟨hbel.size⟩
  clear hm hown hbel
  go_wp2_with (at_builtin; refine wpList_push tInts rfl _ _ rfl w.heap.size _ _ _ _ rfl HO.out 1 1 _ rfl rfl ?c1 (by decide) ?c2 (by decide) hsz.out ?c4)
  case c1 => simp [Value.oneCell']
  case c2 => omega
  case c4 =>
    intro sb cb wb hownb hbelb
    have HN : Kp ((L ++ [5]).length = m + 1) := ⟨by rw [List.length_append, HM.out]; rfl⟩
    rw [show ints L ++ #[Value.int IntKind.i64 5].toList = ints (L ++ [5]) by rw [ints_append]; rfl] at hownb
    have HBB := Kp.mk (HB.out.trans hbelb)
    generalize L ++ [5] = ns at *
    obtain ⟨n, hn⟩ : ∃ n, n = m + 1 := ⟨_, rfl⟩
    rw [← hn] at HN hownb ⊢
    have hn1 : 1 ≤ n := by omega
    have hn2 : n ≤ 81 := by omega
    obtain ⟨g, rfl, hg1, hg2⟩ := own_some hownb (by omega)
    have HOW := Kp.mk hownb
    clear hn hownb hbelb HO HB HM hlen
    have HTL : ∀ ns : List Int, ns.length = n → (treeOf ns).length = n := fun ns h => by rw [treeOf_length]; exact h
    have HTL' := Kp.mk HTL
    clear HTL
    go_wp2_with fail
    refine (copied_n _ cb n _ _ (own_sl_len HOW.out HN.out) HN.out (by omega)).mono ?_
    rintro e wc ⟨s1, c1, rfl, hS1, hb1⟩
    have HB1 := Kp.mk (below_step HBB.out hb1)
    have HO1 := Kp.mk (own_below HOW.out hb1)
    have hgc : g < wc.heap.size := Nat.lt_of_lt_of_le hg2 hb1.size
    clear hb1 HBB HOW
    go_wp2_with fail
    refine (fmake_any s1 c1 n ns _ hS1 HN.out (by omega) 1000 (by omega) (by omega) HBD.out).mono ?_
    rintro e wd ⟨s2, c2, rfl, hO, hb⟩
    have HB2 := Kp.mk (below_step HB1.out hb)
    have HO2 := Kp.mk (own_below HO1.out hb)
    have hne0 : Kp (blk s2 ≠ some g) := ⟨fun h => by have := own_lt hO g h; omega⟩
    have HT2 := Kp.mk (own_sl_len hO (HTL'.out ns HN.out))
    have HNS := Kp.mk (show ∃ N : List Int, N = ns from ⟨ns, rfl⟩)
    clear hb HB1 HO1 hS1 hO hgc hg2
    go_wp2
    go_loopw [8, 10] (fun t i wr => ∃ (k : Nat) (N : List Int) (st : Option Addr) (ct : Nat), k ≤ ad.length ∧ k ≤ 20 ∧ i = .int .i64 k ∧ t = .slice st n ct ∧ N.length = n ∧ (∀ x ∈ N, -(1000 + 200 * (k : Int)) ≤ x ∧ x ≤ 1000 + 200 * (k : Int)) ∧ SlI wr st ct (treeOf N) ∧ blk st ≠ some g ∧ wr.ownsRow w.heap.size 3 1 (.slice (some ⟨g, 0, none⟩) n cb) n (ints N) ∧ Below w.heap.size w wr) (fun _ i _ => 20 - (intOf i).toNat)
    case atStart => exact ⟨0, ns, s2, c2, Nat.zero_le _, Nat.zero_le _, rfl, rfl, HN.out, fun x hx => by have := HBD.out x hx; omega, HT2.out, hne0.out, HO2.out, HB2.out⟩
    case round =>
      obtain ⟨k, N, st, ct, hka, hk20, rfl, rfl, hNn, hNb, hT, hne, hO, hbel⟩ := hrel
      have HNn := Kp.mk hNn
      have HNb := Kp.mk hNb
      have HT := Kp.mk hT
      have HNE := Kp.mk hne
      have HO := Kp.mk hO
      have HBE := Kp.mk hbel
      clear hNn hNb hT hne hO hbel HT2 HO2 HB2
      by_cases hgo : k < ad.length ∧ k < 20
      · obtain ⟨h1, h2⟩ := hgo
        obtain ⟨b, off, rfl, c1⟩ := (HAD.out.below HBE.out).at k h1
        obtain ⟨x1, x2⟩ := wf_bd (WAD.out _ (List.getElem_mem h1))
        generalize ad[k] = x at *
        have hxt := tdiv_bd x 100 (by omega) x1 x2
        have hp1 := pick_bd x n (by omega)
        obtain ⟨p, hp⟩ : ∃ q : Nat, pick x n = q := ⟨_, (Int.toNat_of_nonneg hp1.1).symm⟩
        have hpn : p < n := by omega
        have HP := Kp.mk hp
        clear hp hp1
        go_wp2_with fail
        refine (picked_any x n _ (by omega) (by omega) x1 x2).mono ?_
        rintro e w' ⟨rfl, rfl⟩
        rw [HP.out]
        go_wp2_with fail
        have hp2 := pick_bd (x.tdiv 100) 401 (by omega)
        refine (picked_any (x.tdiv 100) 401 _ (by omega) (by omega) hxt.1 hxt.2).mono ?_
        rintro e w' ⟨rfl, rfl⟩
        generalize pick (x.tdiv 100) 401 = y at *
        clear hxt
        obtain ⟨z, hz⟩ : ∃ z, z = y - 200 := ⟨_, rfl⟩
        have hzb : -200 ≤ z ∧ z ≤ 200 := by omega
        have hpl : p < N.length := by rw [HNn.out]; exact hpn
        have hset := Kp.mk (addT_tree N p z hpl (by rw [HNn.out]; omega))
        have HSB := Kp.mk (set_bd N p z _ 200 hpl HNb.out hzb.1 hzb.2)
        have HTB := Kp.mk (tree_bd N _ (by omega) HNb.out (by rw [HNn.out]; omega))
        have HSL : Kp ((N.set p (N[p] + z)).length = n) := ⟨by rw [List.length_set]; exact HNn.out⟩
        have HTB2 := Kp.mk (tree_bd _ _ (by omega) HSB.out (by rw [HSL.out]; omega))
        go_wp2_with fail
        rw [← hz]
        have HZ := Kp.mk hz
        clear hz
        refine (fadd_any st ct n p z _ _ HT.out (HTL'.out N HNn.out) (by omega) hpn (by omega) (by omega) (fun v hv => by have := HTB.out v hv; omega) (fun v hv => by rw [hset.out] at hv; have := HTB2.out v hv; omega)).mono ?_
        rintro e we ⟨s3, c3, rfl, hO3, hb⟩
        rw [hset.out] at hO3
        have HT3 := own_sl_len hO3 (HTL'.out _ HSL.out)
        have hOn := own_below HO.out hb
        have hne3 : blk s3 ≠ some g := fun h => by
          have := own_lt hO3 g h
          have h2 := own_lt HO.out g rfl
          omega
        have HBE3 := Kp.mk (below_step HBE.out hb)
        have c9 := hOn.cellAt p (by omega)
        rw [List.getElem?_eq_getElem (by rw [ints_length]; exact hpl), ints_get] at c9
        have f9 := hOn.frozenAt p
        have hst := (hOn.stored p (.int .i64 (N[p] + z))).1
        rw [ints_set] at hst
        have HST := Kp.mk hst
        have HT4 := Kp.mk (SlC.keep HT3 (grown_set we g p (.int .i64 (N[p] + z))) (fun k hk => by cases hk; exact hne3))
        have HNE3 := Kp.mk hne3
        have hnp := HNb.out _ (List.getElem_mem hpl)
        clear hO3 HT3 hOn hne3 hst hb
        have HSB2 : Kp (∀ v ∈ N.set p (N[p] + z), -(1000 + 200 * ((k + 1 : Nat) : Int)) ≤ v ∧ v ≤ 1000 + 200 * ((k + 1 : Nat) : Int)) := ⟨fun v hv => by have := HSB.out v hv; push_cast; omega⟩
        clear HSB HTB HTB2 hset
        generalize hq : N[p] = q at *
        clear hq
        go_wp2
        go_roundw
        case rel =>
          exact ⟨k + 1, _, s3, c3, by omega, by omega, by go_num, rfl, HSL.out, HSB2.out, HT4.out, HNE3.out, HST.out, HBE3.out.setCell (p := ⟨g, p, none⟩) hg1 _⟩
        case measure => simp [intOf]; omega
      · have hstop : ¬ k < ad.length ∨ (k < ad.length ∧ ¬ k < 20) := by omega
        have hpb := pick_bd a2 (n + 1) (by omega)
        obtain ⟨r, hr⟩ : ∃ q : Nat, pick a2 ((n : Int) + 1) = q := ⟨_, (Int.toNat_of_nonneg hpb.1).symm⟩
        have hrn : r ≤ n := by omega
        have HR := Kp.mk hr
        have HM : Kp (∀ x ∈ N, -5000 ≤ x ∧ x ≤ 5000) := ⟨fun x hx => by have := HNb.out x hx; omega⟩
        have HPB := Kp.mk (fun k (hk : k ≤ n) => pre_bd N 5000 HM.out k (by rw [HNn.out]; exact hk) 0 (by omega))
        clear hr hpb hgo
        rcases hstop with hs | ⟨hs, hs2⟩
        all_goals
          go_wp2_with fail
          refine (picked_any a2 (n + 1) _ (by omega) (by omega) b1 b2).mono ?_
          rintro e w' ⟨rfl, rfl⟩
          rw [HR.out]
          go_wp2
          go_loop [16, 17] (fun s i => ∃ j : Nat, j ≤ r ∧ i = .int .i64 j ∧ s = .int .i64 (pre N j)) (fun _ i => r - (intOf i).toNat)
          case atStart => exact ⟨0, Nat.zero_le _, rfl, by rw [pre_zero]⟩
          case round =>
            obtain ⟨j, hj, rfl, rfl⟩ := hrel
            have hpj := HPB.out j (by omega)
            rw [pre_zero] at hpj
            by_cases hlt : j < r
            · have c1 := HO.out.cellAt j (by omega)
              rw [List.getElem?_eq_getElem (by rw [ints_length, HNn.out]; omega), ints_get] at c1
              have hps := Kp.mk (pre_succ N j (by rw [HNn.out]; omega))
              have hxb := HM.out _ (List.getElem_mem (l := N) (n := j) (by rw [HNn.out]; omega))
              generalize N[j]'(by rw [HNn.out]; omega) = x at *
              generalize pre N j = pk at *
              go_wp2
              go_round
              case rel => exact ⟨j + 1, by omega, by go_num, by rw [hps.out]⟩
              case measure => simp [intOf]; omega
            · obtain rfl : j = r := by omega
              have CS := Kp.mk (fsum_any st ct n j N _ HT.out HNn.out (by omega) (by omega) 5000 (by omega) (by omega) HM.out)
              have hS := own_sl_len HO.out HNn.out
              go_wp2_with fail
              refine CS.out.mono ?_
              rintro e w' ⟨rfl, rfl⟩
              go_wp2_with fail
              refine (copied_n _ cb n _ _ hS HNn.out (by omega)).mono ?_
              rintro e we ⟨s5, c5, rfl, hS5, hb5⟩
              have HB5 := Kp.mk (below_step HBE.out hb5)
              have HT5 := Kp.mk (HT.out.below hb5)
              clear hb5 hS CS HT HBE
              go_wp2_with fail
              refine (fmake_any s5 c5 n N _ hS5 HNn.out (by omega) 5000 (by omega) (by omega) HM.out).mono ?_
              rintro e wf ⟨s6, c6, rfl, hO6, hb6⟩
              have Q := Kp.mk (sameInts_same st s6 ct c6 n _ _ wf (HT5.out.below hb6) (own_sl_len hO6 (HTL'.out N HNn.out)) (HTL'.out N HNn.out) (HTL'.out N HNn.out) rfl (by omega))
              have HB6 := Kp.mk (below_step HB5.out hb6)
              clear hO6 hb6 hS5 HB5 HT5
              generalize pre N j = pk at *
              go_wp2_with fail
              refine Q.out.mono ?_
              rintro e wg ⟨rfl, hb7⟩
              have HB7 := Kp.mk (below_step HB6.out hb7)
              clear hb7 Q
              go_wp2
              go_ret
              exact ⟨rfl, HB7.out⟩

end Go.Proofs.Ytjofajpcchncpaa
