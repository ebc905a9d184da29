/- KleeHelly: the walk. -/
import Derived.Test.YtlmdlholmlbcbaaKlC
import Derived.Test.YtlmdlholmlbcbaaKlD
import Derived.Test.YtlmdlholmlbcbaaStepK
import Derived.Test.YtlmdlholmlbcbaaFlatIn
namespace Go.Proofs.Ytlmdlholmlbcbaa
set_option linter.unusedVariables false
open Go.RowKit
open Pick (Rc IsDepth tot cov inRc meetR okR)

/-- 'append(s, x...)': the old slice still reads as it did. -/
theorem wpList_catK {P : Program} {t e : TypeId} {size bytes : Nat} {z : Value} (T : ElemTy P t e size bytes z)
    {ops : Array Oper} {rest : List Oper} {o : Oper} {a : Act} {Q : Exit → Act → World → Prop} {W : World} (hw : Region.wanted o (yielded ops a.tmps) = true) (s x : Operand)
    (ho : o.op = .call { callee := .builtin .append, args := #[s, x], argTypes := #[t, t] })
    (B : Nat) (sa : Option Addr) (n cap : Nat) (xs : List Value) (hs : a.eval s = .slice sa n cap) (hown : W.ownsRow B e size (.slice sa n cap) n xs)
    (ad : Addr) (m c : Nat) (cs : List Value) (hx : a.eval x = .slice (some ad) m c) (hl : cs.length = m * size) (hnews : ∀ j u, cs[j]? = some u → W.cell? (ad.add j) = some u) (h1 : ∀ u ∈ cs, u.oneCell' = true)
    (hm : 0 < m) (hbytes : (n + m) * bytes ≤ 140737488355328) (hbp : 0 < bytes) (hB : B ≤ W.heap.size)
    (h : ∀ sa' cap' w', w'.ownsRow B e size (.slice sa' (n + m) cap') (n + m) (xs ++ cs) → W.grownBy w' (blk sa) → SlC w' sa n cap size xs → wpList P ops Q rest (a.put o.dst (.slice sa' (n + m) cap')) w') :
    wpList P ops Q (o :: rest) a W := by
  obtain ⟨i, hi, hz, hsz, hby⟩ := T.info
  have hnm : n + m ≤ maxLen := by
    have : n + m ≤ (n + m) * bytes := Nat.le_mul_of_pos_right _ hbp
    simp only [maxLen]; omega
  obtain ⟨g, cap', w', hr, h2, h3, h4, h5⟩ := run_append_lies (P := P) W t o.type B e i z size bytes T.und hi hz hsz hby T.zs T.pos _ n xs hown ad m c cs hl hnews h1 hm hnm hbytes hB W.heap.size rfl
  have hk := run_append_keeps T B sa n cap xs hown ad m c cs hl hnews h1 hnm hbytes hr
  unfold wpList
  rw [if_pos hw]
  refine .inl ?_
  unfold Oper.wp execOp
  simp only [ho, resolve, invoke, builtin, Sem.run_bind, Sem.run_pure, Result.andThen_ok, List.map_toArray, List.map_cons, List.map_nil, hs, hx, hr]
  rw [ownBlock_blk] at h3
  exact h (some ⟨g, 0, none⟩) cap' w' h2 h3 hk

theorem meet_comm (r s : Rc) : meetR r s = meetR s r := by
  unfold meetR
  congr 1 <;> omega
theorem okR_self {r : Rc} (h : okR r) : okR (meetR r r) := by
  unfold okR meetR at *
  dsimp only
  omega
theorem helly_iff {L : List Rc} {n r dd : Nat} {d : Int} (hn : L.length = n) (h0 : 0 < n) (hok : ∀ q ∈ L, okR q) (hC : CrossI L n n (n + 1) r dd) (hD : IsDepth L d) : dd = 0 ↔ d = n := by
  rw [hC.all]
  have hget : ∀ p, p < n → L.getD p rc0 ∈ L := fun p hp => by rw [getD_at _ _ (by omega)]; exact List.getElem_mem _
  constructor
  · rintro ⟨h1, _⟩
    have hne : L ≠ [] := fun e => by rw [e] at hn; simp at hn; omega
    obtain ⟨x, y, hxy⟩ := Pick.helly_rects hne hok (fun q hq s hs => by
      obtain ⟨i, hi, rfl⟩ := List.getElem_of_mem hq
      obtain ⟨j, hj, rfl⟩ := List.getElem_of_mem hs
      rcases Nat.lt_trichotomy i j with h | h | h
      · have := h1 i j (by omega) h (by omega)
        unfold meets at this
        rwa [getD_at _ _ hi, getD_at _ _ hj] at this
      · subst h; exact okR_self (hok _ hq)
      · have := h1 j i (by omega) h (by omega)
        unfold meets at this
        rw [getD_at _ _ hi, getD_at _ _ hj, meet_comm] at this
        exact this)
    have h2 := (Pick.cov_full L x y).2 hxy
    have h3 := hD.le x y
    obtain ⟨x', y', h4⟩ := hD.at_
    have h5 := Pick.cov_le L x' y'
    omega
  · intro e
    obtain ⟨x, y, h4⟩ := hD.at_
    have hf := (Pick.cov_full L x y).1 (by rw [h4, e, hn])
    have key : ∀ p q, p < n → q < n → meets L p q := fun p q hp hq => by
      unfold meets
      have h6 := (Pick.meet_in (L.getD p rc0) (L.getD q rc0) x y).2 ⟨hf _ (hget p hp), hf _ (hget q hq)⟩
      rw [Pick.inRc_iff] at h6
      exact ⟨by omega, by omega⟩
    exact ⟨fun p q h1 h2 h3 => key p q (by omega) h3, fun q h1 h2 => by omega⟩

attribute [local irreducible] cov crossT tot
set_option maxRecDepth 100000 in
set_option maxHeartbeats 8000000 in
theorem walk_KleeHelly (a0 : Option Addr) (len0 cap0 : Nat) (z0 : List Int) (w : World) (w0 : IsFlat 3 w a0 len0 cap0 z0) :
    Calls Try.prog 13 #[.slice a0 len0 cap0] w fun e w' => e = .returned (.bool true) ∧ Below w.heap.size w w' := by
  obtain ⟨S, hS, wS, nS⟩ := spots_in w0
  have C1 := Kp.mk (rects_any a0 cap0 len0 7 12 S w hS (by unfold maxLen at nS; omega) (by omega) (by omega) (by omega) wS)
  clear hS wS nS w0
  go_enter Try.func13, Try.ntmps13
  go_wp2_with fail
  refine C1.out.mono ?_
  rintro e w1 ⟨oa, oc, r0, rfl, HR, HO, hb1⟩
  have HIN := Kp.mk (rcsOf_in S 7 12 (by omega))
  have hr7 : r0 ≤ 7 := by rw [← HR.out, rcsOf_length]; omega
  obtain ⟨L0, hL0⟩ : ∃ L0, rcsOf S 7 12 = L0 := ⟨_, rfl⟩
  rw [hL0] at HR HO HIN
  have HB1 := Kp.mk hb1
  have hsz := Kp.mk hb1.size
  clear C1 hb1 hL0
  go_wp2_with (at_builtin; refine wpList_push tRcs rfl _ _ rfl w.heap.size oa r0 oc _ rfl HO.out 1 1 _ rfl rfl ?d1 (by decide) ?d2 (by decide) hsz.out ?d4)
  case d1 => simp [Value.oneCell']
  case d2 => omega
  case d4 =>
    intro sa sc w2 hown hbel
    have HLE := Kp.mk (show (L0 ++ [(⟨0, 0, 11, 11⟩ : Rc)]).length = r0 + 1 by rw [List.length_append, HR.out]; rfl)
    have HO2 := Kp.mk (show w2.ownsRow w.heap.size 65 4 (.slice sa (r0 + 1) sc) (r0 + 1) (flat rcL (L0 ++ [(⟨0, 0, 11, 11⟩ : Rc)])) from by rw [flat_append]; exact hown)
    have HI2 := Kp.mk (show ∀ q ∈ L0 ++ [(⟨0, 0, 11, 11⟩ : Rc)], 0 ≤ q.x0 ∧ q.x0 ≤ q.x1 ∧ q.x1 < 12 ∧ 0 ≤ q.y0 ∧ q.y0 ≤ q.y1 ∧ q.y1 < 12 from fun q hq => by
      rcases List.mem_append.1 hq with hq | hq
      · exact HIN.out q hq
      · rw [List.mem_singleton.1 hq]; decide)
    have HLA := Kp.mk (show (⟨0, 0, 11, 11⟩ : Rc) ∈ L0 ++ [(⟨0, 0, 11, 11⟩ : Rc)] by simp)
    have HB2 := Kp.mk (HB1.out.trans hbel)
    generalize L0 ++ [(⟨0, 0, 11, 11⟩ : Rc)] = L at *
    clear hown hbel HO HR HIN hsz HB1
    obtain ⟨n, hn⟩ : ∃ n, r0 + 1 = n := ⟨_, rfl⟩
    rw [hn] at HLE HO2 ⊢
    have hn8 : 0 < n ∧ n ≤ 8 := by omega
    clear hn hr7
    have HBX := Kp.mk (show Pick.Boxed L 0 12 from fun q hq => by have := HI2.out q hq; omega)
    have HOK := Kp.mk (show ∀ q ∈ L, q.x0 ≤ q.x1 ∧ q.y0 ≤ q.y1 from fun q hq => by have := HI2.out q hq; omega)
    have HRO := Kp.mk (rc_ok HBX.out (by omega) (by omega) HOK.out)
    go_wp2_with (at_builtin; refine wpList_cat tRcs rfl _ _ rfl w2.heap.size none 0 0 [] rfl (World.ownsRow_nil _ _ _ _) _ _ _ _ rfl (own_slc HO2.out) (rcL_one _) ?c1 (by decide) (Nat.le_refl _) ?c2)
    case c1 => omega
    case c2 =>
      intro xa xc w3 ho3 hb3
      have CX := Kp.mk (cross_any xa xc n L w3 (own_slc ho3) (by omega) HRO.out)
      have HO3 := Kp.mk (own_below HO2.out hb3)
      have HB3 := Kp.mk (below_step HB2.out hb3)
      clear ho3 hb3 HO2 HB2
      go_wp2_with fail
      refine CX.out.mono ?_
      rintro e w4 ⟨pa, pc, r, dd, rfl, HCI, hb4⟩
      have HO4 := Kp.mk (own_below HO3.out hb4)
      have HB4 := Kp.mk (below_step HB3.out hb4)
      clear hb4 HO3 HB3 CX
      go_wp2_with (at_builtin; refine wpList_cat tRcs rfl _ _ rfl w4.heap.size none 0 0 [] rfl (World.ownsRow_nil _ _ _ _) _ _ _ _ rfl (own_slc HO4.out) (rcL_one _) ?e1 (by decide) (Nat.le_refl _) ?e2)
      case e1 => omega
      case e2 =>
        intro ya yc w5 ho5 hb5
        have CD := Kp.mk (depth_any ya yc n L 0 12 w5 (own_slc ho5) (by omega) HBX.out (by omega) (by omega) HOK.out)
        have HO5 := Kp.mk (own_below HO4.out hb5)
        have HB5 := Kp.mk (below_step HB4.out hb5)
        clear ho5 hb5 HO4 HB4
        go_wp2_with fail
        refine CD.out.mono ?_
        rintro e w6 ⟨d, rfl, HID, hb6⟩
        have HO6 := Kp.mk (own_below HO5.out hb6)
        have HB6 := Kp.mk (below_step HB5.out hb6)
        clear hb6 HO5 HB5 CD
        have HIF := Kp.mk (helly_iff HLE.out hn8.1 (fun q hq => HOK.out q hq) HCI.out HID.out)
        have hdn : 1 ≤ d ∧ d ≤ n := by
          obtain ⟨x, y, h4⟩ := HID.out.at_
          have h5 := Pick.cov_le L x y
          have h6 := (Pick.cov_pos L 0 0).2 ⟨_, HLA.out, by rw [Pick.inRc_iff]; decide⟩
          have h7 := HID.out.le 0 0
          rw [HLE.out] at h5
          omega
        have hsum := HCI.out.sum
        have hall := crossT_all n n (Nat.le_refl _)
        obtain ⟨c, hc⟩ : ∃ c, crossT n n = c := ⟨_, rfl⟩
        rw [hc] at hsum hall
        have hrc : r + dd = c := by omega
        have hcb : c ≤ 64 := by
          have h1 := Nat.mul_le_mul hn8.2 hn8.2
          omega
        have hnn : (n : Int) * ((n : Int) - 1) = 2 * (c : Int) := by
          rw [Int.mul_sub, Int.mul_one]
          have : (n : Int) * n = ((n * n : Nat) : Int) := by simp
          rw [this]; omega
        have q1 : IntKind.i64.wrap ((n : Int) - 1) = (n : Int) - 1 := IntWalk.i64_in _ (by omega)
        have q2 : IntKind.i64.wrap ((n : Int) * ((n : Int) - 1)) = 2 * (c : Int) := by rw [hnn]; exact IntWalk.i64_in _ (by omega)
        have q3 : (2 * (c : Int)).tdiv 2 = (c : Int) := by rw [Int.mul_comm]; exact Int.mul_tdiv_cancel _ (by decide)
        have q4 : IntKind.i64.wrap (c : Int) = (c : Int) := IntWalk.i64_in _ (by omega)
        have t1 : decide (d < 1) = false := decide_eq_false (by omega)
        have t2 : decide (d > n) = false := decide_eq_false (by omega)
        have t3 : decide ((r : Int) > c) = false := decide_eq_false (by omega)
        have t4 : ¬ c < r := by omega
        have HOR := Kp.mk (show (r = c ∧ d = n) ∨ (r ≠ c ∧ d ≠ n) from by
          by_cases h : dd = 0
          · exact .inl ⟨by omega, HIF.out.1 h⟩
          · exact .inr ⟨by omega, fun e => h (HIF.out.2 e)⟩)
        clear hsum hall hc hrc hnn HIF HCI HID HLA
        obtain ⟨g, rfl, _, _⟩ := own_some HO6.out hn8.1
        have HNW := Kp.mk (own_slc HO6.out).news
        have HFL := Kp.mk HO6.out.1
        have CA1 := Kp.mk (fun (W : World) (x : Option Addr) (y : Nat) (hx : SlF rcL 4 W x (n + n) y (L ++ L)) => areaOf_any x y (n + n) (L ++ L) 0 12 W hx (by omega) (fun q hq => HBX.out q (by simpa using hq)) (by omega) (by omega) (fun q hq => HOK.out q (by simpa using hq)))
        have HTT := Kp.mk (show tot (L ++ L) 0 12 = tot L 0 12 from Pick.tot_congr 0 12 (fun x y => by rw [Pick.cov_pos, Pick.cov_pos]; simp))
        rw [HTT.out] at CA1
        have CA2 := Kp.mk (fun (W : World) (hx : SlF rcL 4 W (some ⟨g, 0, none⟩) n sc L) => areaOf_any (some ⟨g, 0, none⟩) sc n L 0 12 W hx (by omega) HBX.out (by omega) (by omega) HOK.out)
        obtain ⟨tt, htt⟩ : ∃ tt, tot L 0 12 = tt := ⟨_, rfl⟩
        rw [htt] at CA1 CA2
        have hwz : w.heap.size ≤ w6.heap.size := HB6.out.size
        clear htt HTT HBX HOK HRO HI2 t1 t2
        rcases HOR.out with ⟨h1, h2⟩ | ⟨h1, h2⟩
        focus
          have b1 : ((r : Int) == (c : Int)) = true := by rw [beq_iff_eq]; omega
          have b2 : (d == (n : Int)) = true := by rw [beq_iff_eq]; omega
          clear h1 h2 HOR
        rotate_left
        focus
          have b1 : ((r : Int) == (c : Int)) = false := by rw [beq_eq_false_iff_ne]; omega
          have b2 : (d == (n : Int)) = false := by rw [beq_eq_false_iff_ne]; omega
          clear h1 h2 HOR
        rotate_left
        all_goals
          go_wp2_with (at_builtin; refine wpList_catK tRcs (by rfl) _ _ rfl w.heap.size (some ⟨g, 0, none⟩) n sc _ rfl HO6.out ⟨g, 0, none⟩ n sc _ rfl HFL.out HNW.out (rcL_one _) hn8.1 ?f1 (by decide) hwz ?f2)
          case f1 => omega
          case f2 =>
            intro za zc w7 hown hg hkeep
            have C7 := Kp.mk (CA1.out w7 za zc (by unfold SlF; rw [flat_append]; exact own_slc hown))
            have HK7 := Kp.mk (show SlF rcL 4 w7 (some ⟨g, 0, none⟩) n sc L from hkeep)
            have HB7 := Kp.mk (HB6.out.trans (below_of_grown hg hwz (fun q hq => (own_lt HO6.out q hq).1)))
            clear hown hg hkeep CA1
            go_wp2_with fail
            refine C7.out.mono ?_
            rintro e w8 ⟨rfl, hb8⟩
            have C8 := Kp.mk (CA2.out w8 (HK7.out.below hb8))
            have HB8 := Kp.mk (below_step HB7.out hb8)
            clear hb8 C7 HK7
            go_wp2_with fail
            refine C8.out.mono ?_
            rintro e w9 ⟨rfl, hb9⟩
            have HB9 := Kp.mk (below_step HB8.out hb9)
            clear hb9 C8
            go_wp2
            go_ret
            exact ⟨by first | rfl | simp, HB9.out⟩

end Go.Proofs.Ytlmdlholmlbcbaa
