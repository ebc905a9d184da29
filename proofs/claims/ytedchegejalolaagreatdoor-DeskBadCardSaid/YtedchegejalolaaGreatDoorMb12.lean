import Derived.Test.YtedchegejalolaaGreatDoorMb11
import Derived.Test.YtedchegejalolaaGreatDoorMb0
import Derived.Test.YtedchegejalolaaGreatDoorMb2
import Derived.Test.YtedchegejalolaaGreatDoorMb9
/- The parser: the words of an expression are parsed. -/
namespace Go.Proofs.YtedchegejalolaaGreatDoor
set_option linter.unusedVariables false
open Go.RowKit Qk

def stopA : Wd → Prop := fun t => t = [38]
def stopO : Wd → Prop := fun t => t = [38] ∨ t = [124]
theorem and1 (w0 : World) (T0 : List Wd) (x0 : Ex) (h0 : PartC w0 119 T0 x0 noStop) : PartC w0 93 (T0) x0 stopA := by
  intro w pb lc la rest hr hps
  refine (and_any w0 noStop (T0, x0) [] (fun p hp => ?_) (fun h => h) (by simp) w pb lc la rest (fun t ht => ⟨fun h => h, fun e => hr t ht e⟩) (by simpa [tailW] using hps)).mono ?_
  · rw [List.mem_singleton.1 hp]; exact h0
  · rintro e w' ⟨V, vs, oa, oc, la', lc', rfl, HV, HL, HS, HG⟩
    refine ⟨V, la', lc', rfl, ⟨?_⟩, HS, HG⟩
    rw [HV.out]
    exact HL.out.at 0 (by simp)
theorem and2 (w0 : World) (T0 : List Wd) (x0 : Ex) (T1 : List Wd) (x1 : Ex) (h0 : PartC w0 119 T0 x0 noStop) (h1 : PartC w0 119 T1 x1 noStop) : PartC w0 93 (T0 ++ [[38]] ++ T1) (.two false x0 x1) stopA := by
  intro w pb lc la rest hr hps
  refine (and_any w0 noStop (T0, x0) [(T1, x1)] (fun p hp => ?_) (fun h => h) (by simp) w pb lc la rest (fun t ht => ⟨fun h => h, fun e => hr t ht e⟩) (by simpa [tailW] using hps)).mono ?_
  · simp only [List.mem_cons, List.not_mem_nil, or_false] at hp
    rcases hp with rfl | rfl
    · exact h0
    · exact h1
  · rintro e w' ⟨V, vs, oa, oc, la', lc', rfl, HV, HL, HS, HG⟩
    refine ⟨V, la', lc', rfl, ⟨?_⟩, HS, HG⟩
    rw [HV.out]
    exact HL.out.isTwo false
theorem and3 (w0 : World) (T0 : List Wd) (x0 : Ex) (T1 : List Wd) (x1 : Ex) (T2 : List Wd) (x2 : Ex) (h0 : PartC w0 119 T0 x0 noStop) (h1 : PartC w0 119 T1 x1 noStop) (h2 : PartC w0 119 T2 x2 noStop) : PartC w0 93 (T0 ++ [[38]] ++ (T1 ++ [[38]] ++ T2)) (.three false x0 x1 x2) stopA := by
  intro w pb lc la rest hr hps
  refine (and_any w0 noStop (T0, x0) [(T1, x1), (T2, x2)] (fun p hp => ?_) (fun h => h) (by simp) w pb lc la rest (fun t ht => ⟨fun h => h, fun e => hr t ht e⟩) (by simpa [tailW] using hps)).mono ?_
  · simp only [List.mem_cons, List.not_mem_nil, or_false] at hp
    rcases hp with rfl | rfl | rfl
    · exact h0
    · exact h1
    · exact h2
  · rintro e w' ⟨V, vs, oa, oc, la', lc', rfl, HV, HL, HS, HG⟩
    refine ⟨V, la', lc', rfl, ⟨?_⟩, HS, HG⟩
    rw [HV.out]
    exact HL.out.isThree false
theorem or1 (w0 : World) (T0 : List Wd) (x0 : Ex) (h0 : PartC w0 93 T0 x0 stopA) : PartC w0 64 (T0) x0 stopO := by
  intro w pb lc la rest hr hps
  refine (or_any w0 stopA (T0, x0) [] (fun p hp => ?_) (by unfold stopA; decide) (by simp) w pb lc la rest (fun t ht => ⟨fun h => hr t ht (.inl h), fun e => hr t ht (.inr e)⟩) (by simpa [tailW] using hps)).mono ?_
  · rw [List.mem_singleton.1 hp]; exact h0
  · rintro e w' ⟨V, vs, oa, oc, la', lc', rfl, HV, HL, HS, HG⟩
    refine ⟨V, la', lc', rfl, ⟨?_⟩, HS, HG⟩
    rw [HV.out]
    exact HL.out.at 0 (by simp)
theorem or2 (w0 : World) (T0 : List Wd) (x0 : Ex) (T1 : List Wd) (x1 : Ex) (h0 : PartC w0 93 T0 x0 stopA) (h1 : PartC w0 93 T1 x1 stopA) : PartC w0 64 (T0 ++ [[124]] ++ T1) (.two true x0 x1) stopO := by
  intro w pb lc la rest hr hps
  refine (or_any w0 stopA (T0, x0) [(T1, x1)] (fun p hp => ?_) (by unfold stopA; decide) (by simp) w pb lc la rest (fun t ht => ⟨fun h => hr t ht (.inl h), fun e => hr t ht (.inr e)⟩) (by simpa [tailW] using hps)).mono ?_
  · simp only [List.mem_cons, List.not_mem_nil, or_false] at hp
    rcases hp with rfl | rfl
    · exact h0
    · exact h1
  · rintro e w' ⟨V, vs, oa, oc, la', lc', rfl, HV, HL, HS, HG⟩
    refine ⟨V, la', lc', rfl, ⟨?_⟩, HS, HG⟩
    rw [HV.out]
    exact HL.out.isTwo true
theorem orq3 (w0 : World) (T0 : List Wd) (x0 : Ex) (T1 : List Wd) (x1 : Ex) (T2 : List Wd) (x2 : Ex) (h0 : PartC w0 93 T0 x0 stopA) (h1 : PartC w0 93 T1 x1 stopA) (h2 : PartC w0 93 T2 x2 stopA) : PartC w0 64 (T0 ++ [[124]] ++ (T1 ++ [[124]] ++ T2)) (.three true x0 x1 x2) stopO := by
  intro w pb lc la rest hr hps
  refine (or_any w0 stopA (T0, x0) [(T1, x1), (T2, x2)] (fun p hp => ?_) (by unfold stopA; decide) (by simp) w pb lc la rest (fun t ht => ⟨fun h => hr t ht (.inl h), fun e => hr t ht (.inr e)⟩) (by simpa [tailW] using hps)).mono ?_
  · simp only [List.mem_cons, List.not_mem_nil, or_false] at hp
    rcases hp with rfl | rfl | rfl
    · exact h0
    · exact h1
    · exact h2
  · rintro e w' ⟨V, vs, oa, oc, la', lc', rfl, HV, HL, HS, HG⟩
    refine ⟨V, la', lc', rfl, ⟨?_⟩, HS, HG⟩
    rw [HV.out]
    exact HL.out.isThree true
theorem rank_or (k : Int) : Ex.rank k = 1 ∨ Ex.rank k = 2 ∨ Ex.rank k = 3 := by
  unfold Ex.rank
  split
  · exact .inl rfl
  · split
    · exact .inr (.inl rfl)
    · exact .inr (.inr rfl)
/-- What is known of the words of an expression. -/
structure Parsed (w0 : World) (x : Ex) : Prop where
  one : Ex.rank x.kind = 3 → PartC w0 119 (toks x) x noStop
  and : 2 ≤ Ex.rank x.kind → PartC w0 93 (toks x) x stopA
  or : PartC w0 64 (toks x) x stopO
theorem Parsed.of_one {w0 : World} {x : Ex} (h : PartC w0 119 (toks x) x noStop) : Parsed w0 x :=
  ⟨fun _ => h, fun _ => and1 w0 _ _ h, or1 w0 _ _ (and1 w0 _ _ h)⟩
theorem Parsed.brackets {w0 : World} {x : Ex} (h : Parsed w0 x) : PartC w0 119 ([[40]] ++ toks x ++ [[41]]) x noStop := one_paren w0 stopO (by unfold stopO; decide) _ _ h.or
theorem Parsed.wrap {w0 : World} {x : Ex} (h : Parsed w0 x) (k : Int) (hk : 2 ≤ Ex.rank k) : PartC w0 119 (wrapK k x (toks x)) x noStop := by
  unfold wrapK
  split
  · exact h.brackets
  · refine h.one ?_
    have := rank_or x.kind
    omega
theorem Parsed.wrapO {w0 : World} {x : Ex} (h : Parsed w0 x) (k : Int) : PartC w0 93 (wrapK k x (toks x)) x stopA := by
  unfold wrapK
  split
  · exact and1 w0 _ _ h.brackets
  · refine h.and ?_
    have := rank_or x.kind
    have := rank_or k
    omega
theorem parsed (w0 : World) : ∀ x : Ex, x.small → Parsed w0 x
  | .inn a b c d, hs => by
    simp only [Ex.small] at hs
    exact Parsed.of_one (one_in w0 a b c d (by omega) (by omega) (by omega) (by omega) (by omega) (by omega) (by omega) (by omega) noStop)
  | .hv x, hs => by
    simp only [Ex.small] at hs
    exact Parsed.of_one (one_w w0 x (by omega) (by omega) noStop)
  | .not p, hs => by
    simp only [Ex.small] at hs
    exact Parsed.of_one (one_not w0 _ _ ((parsed w0 p hs).wrap 5 (by decide)))
  | .two o p q, hs => by
    simp only [Ex.small] at hs
    have h1 := parsed w0 p hs.1
    have h2 := parsed w0 q hs.2
    cases o with
    | false =>
      have h := and2 w0 _ _ _ _ (h1.wrap 3 (by decide)) (h2.wrap 3 (by decide))
      exact ⟨fun e => absurd e (show ¬ Ex.rank 3 = 3 by decide), fun _ => h, or1 w0 _ _ h⟩
    | true =>
      have h := or2 w0 _ _ _ _ (h1.wrapO 4) (h2.wrapO 4)
      exact ⟨fun e => absurd e (show ¬ Ex.rank 4 = 3 by decide), fun e => absurd e (show ¬ 2 ≤ Ex.rank 4 by decide), h⟩
  | .three o p q r, hs => by
    simp only [Ex.small] at hs
    have h1 := parsed w0 p hs.1
    have h2 := parsed w0 q hs.2.1
    have h3 := parsed w0 r hs.2.2
    cases o with
    | false =>
      have h := and3 w0 _ _ _ _ _ _ (h1.wrap 3 (by decide)) (h2.wrap 3 (by decide)) (h3.wrap 3 (by decide))
      exact ⟨fun e => absurd e (show ¬ Ex.rank 3 = 3 by decide), fun _ => h, or1 w0 _ _ h⟩
    | true =>
      have h := orq3 w0 _ _ _ _ _ _ (h1.wrapO 4) (h2.wrapO 4) (h3.wrapO 4)
      exact ⟨fun e => absurd e (show ¬ Ex.rank 4 = 3 by decide), fun e => absurd e (show ¬ 2 ≤ Ex.rank 4 by decide), h⟩
end Go.Proofs.YtedchegejalolaaGreatDoor

/- Package query: near, fault: the walks. -/
namespace Go.Proofs.YtedchegejalolaaGreatDoor
set_option linter.unusedVariables false
open Go.RowKit

set_option maxHeartbeats 1000000 in
theorem qnear_any (n : Int) (h1 : -1048576 ≤ n) (h2 : n ≤ 1048576) (w : World) : Calls Tryz.prog 120 #[.int .i64 n] w fun e w' => e = .returned (.bool true) ∧ w = w' := by
  go_enter Tryz.func120, Tryz.ntmps120
  go_wp2
  go_ret
  exact ⟨by simp [*], rfl⟩

set_option maxRecDepth 100000 in
set_option maxHeartbeats 8000000 in
theorem fault_any : ∀ (x : Ex) (deep : Nat) (v : ExV) (w : World), IsEx w x v → x.small → x.dep + deep ≤ 8 →
    Calls Tryz.prog 94 #[.agg (exL v).toArray, .int .i64 (deep : Int)] w fun e w' => e = .returned (.int .i64 0) ∧ Below w.heap.size w w' := by
  refine Ex.ind ?_
  intro x ih deep v w h hs hd
  obtain ⟨vs, hv, hsl, hvl, hvs⟩ := h.view
  have HIH := Kp.mk (fun (i : Nat) (hi : i < x.parts.length) (W : World) (hW : Below w.heap.size w W) => ih _ (List.getElem_mem hi) (deep + 1) (vs.getD i ev0) W ((hvs i hi).below hW) (Ex.small_part hs (List.getElem_mem hi)) (by have := Ex.dep_part (List.getElem_mem hi); omega))
  have hsh := x.shape
  have hsr := Ex.small_rect hs
  have hdp := x.dep_pos
  have hd8 : deep < 8 := by omega
  rw [hv]
  clear hv h hs ih hvs hd hdp
  generalize v.sa = sa at *
  generalize v.cap = cap at *
  generalize x.kind = k at *
  generalize x.rx0 = a at *
  generalize x.ry0 = b at *
  generalize x.rx1 = c at *
  generalize x.ry1 = d at *
  generalize x.wt = y at *
  generalize x.parts.length = n at *
  show Calls Tryz.prog 94 #[.agg #[.int .i64 k, .int .i64 a, .int .i64 b, .int .i64 c, .int .i64 d, .int .i64 y, .slice sa n cap], .int .i64 (deep : Int)] w _
  obtain ⟨⟨a1, a2⟩, ⟨b1, b2⟩, ⟨c1, c2⟩, ⟨d1, d2⟩, y1, y2⟩ := hsr
  have hdz : (deep : Int) < 8 := by omega
  have ed : IntKind.i64.wrap ((deep : Int) + 1) = ((deep + 1 : Nat) : Int) := by rw [Int.natCast_add]; exact IntWalk.i64_in _ (by omega)
  have HSH := Kp.mk hsh
  have HSL := Kp.mk hsl
  have HVL := Kp.mk hvl
  have N1 := Kp.mk (qnear_any a (by omega) (by omega))
  have N2 := Kp.mk (qnear_any b (by omega) (by omega))
  have N3 := Kp.mk (qnear_any c (by omega) (by omega))
  have N4 := Kp.mk (qnear_any d (by omega) (by omega))
  have N5 := Kp.mk (qnear_any y (by omega) (by omega))
  clear hsh hsl hvl a1 a2 b1 b2 c1 c2 d1 d2 y1 y2
  obtain ⟨bz, hbz⟩ : ∃ bz, w.heap.size = bz := ⟨_, rfl⟩
  go_enter Tryz.func94, Tryz.ntmps94
  go_upto_region 3 with (fail)
  obtain ⟨w2, hw2⟩ : ∃ w2, (w.alloc (.cells #[.int .i64 k, .int .i64 a, .int .i64 b, .int .i64 c, .int .i64 d, .int .i64 y, .slice sa n cap] 83)).alloc (.cells #[.int .i64 a, .int .i64 b, .int .i64 c, .int .i64 d] 80) = w2 := ⟨_, rfl⟩
  have HB2 := Kp.mk (show Below w.heap.size w w2 from by rw [← hw2]; exact below_then_alloc (below_alloc (Nat.le_refl _) _) _)
  have b1 : Box w2 bz #[.int .i64 k, .int .i64 a, .int .i64 b, .int .i64 c, .int .i64 d, .int .i64 y, .slice sa n cap] 83 := by rw [← hw2, ← hbz]; exact (Box.new _ _ _).alloc _
  have b2 : Box w2 (bz + 1) #[.int .i64 a, .int .i64 b, .int .i64 c, .int .i64 d] 80 := by
    have := Box.new (w.alloc (.cells #[.int .i64 k, .int .i64 a, .int .i64 b, .int .i64 c, .int .i64 d, .int .i64 y, .slice sa n cap] 83)) #[.int .i64 a, .int .i64 b, .int .i64 c, .int .i64 d] 80
    rw [alloc_size, hbz] at this; rw [← hw2]; exact this
  have HS2 := Kp.mk (SlF.below HSL.out HB2.out)
  rw [hw2]
  have x0 : w2.cell? ⟨bz, 0, none⟩ = some (.int .i64 k) := b1.cell 0 rfl
  have x5 : w2.cell? ⟨bz, 5, none⟩ = some (.int .i64 y) := b1.cell 5 rfl
  have x6 : w2.cell? ⟨bz, 6, none⟩ = some (.slice sa n cap) := b1.cell 6 rfl
  have y0 : w2.cell? ⟨bz + 1, 0, none⟩ = some (.int .i64 a) := b2.cell 0 rfl
  have y1 : w2.cell? ⟨bz + 1, 1, none⟩ = some (.int .i64 b) := b2.cell 1 rfl
  have y2 : w2.cell? ⟨bz + 1, 2, none⟩ = some (.int .i64 c) := b2.cell 2 rfl
  have y3 : w2.cell? ⟨bz + 1, 3, none⟩ = some (.int .i64 d) := b2.cell 3 rfl
  have HBZ := Kp.mk hbz
  clear hw2 b1 b2 HSL hbz
  rcases HSH.out with ⟨rfl, rfl, rfl⟩ | ⟨rfl, rfl, rfl, rfl, rfl, rfl⟩ | ⟨rfl | rfl, rfl | rfl, rfl, rfl, rfl, rfl, rfl⟩ | ⟨rfl, rfl, rfl, rfl, rfl, rfl, rfl⟩
  all_goals
    clear HSH
    go_upto_region 16 with (first
      | (go_at_call 120; with_reducible refine (N1.out _).mono ?_; rintro e w' ⟨rfl, rfl⟩)
      | (go_at_call 120; with_reducible refine (N2.out _).mono ?_; rintro e w' ⟨rfl, rfl⟩)
      | (go_at_call 120; with_reducible refine (N3.out _).mono ?_; rintro e w' ⟨rfl, rfl⟩)
      | (go_at_call 120; with_reducible refine (N4.out _).mono ?_; rintro e w' ⟨rfl, rfl⟩)
      | (go_at_call 120; with_reducible refine (N5.out _).mono ?_; rintro e w' ⟨rfl, rfl⟩)
      | fail)
  all_goals
    obtain ⟨n, x6n, hn3, HIHn, HSn, HVn⟩ : ∃ n : Nat, w2.cell? ⟨bz, 6, none⟩ = some (.slice sa n cap) ∧ n ≤ 3 ∧ Kp (∀ (i : Nat), i < n → ∀ (W : World), Below w.heap.size w W → Calls Tryz.prog 94 #[.agg (exL (vs.getD i ev0)).toArray, .int .i64 ((deep + 1 : Nat) : Int)] W fun e w' => e = .returned (.int .i64 0) ∧ Below W.heap.size W w') ∧ Kp (SlF exL 7 w2 sa n cap vs) ∧ Kp (vs.length = n) := ⟨_, x6, by omega, HIH, HS2, HVL⟩
    clear x6 HIH HS2 HVL N1 N2 N3 N4 N5 x0 x5 y0 y1 y2 y3
    obtain ⟨wo, rfl⟩ : ∃ wo : World, wo = w2 := ⟨_, rfl⟩
    go_wp2
    go_loopw [103] (fun v wr => ∃ i : Nat, i ≤ n ∧ v = .int .i64 i ∧ Kp (Below wo.heap.size wo wr)) (fun v _ => n - (intOf v).toNat)
    case atStart => exact ⟨0, Nat.zero_le _, rfl, ⟨Below.refl _ _⟩⟩
    case round =>
      obtain ⟨i, hi, rfl, HB⟩ := hrel
      by_cases hin : i < n
      · have hiz : (i : Int) < n := by omega
        have e1 : IntKind.i64.wrap ((i : Int) + 1) = ((i + 1 : Nat) : Int) := by rw [Int.natCast_add]; exact IntWalk.i64_in _ (by omega)
        have HCI := Kp.mk (fun W hW => HIHn.out i hin W hW)
        obtain ⟨sb, so, rfl, hsb, cs⟩ := (HSn.out.below HB.out).at exL_len (by omega) i (by rw [HVn.out]; exact hin)
        rw [← getD_at vs ev0 (by rw [HVn.out]; exact hin)] at cs
        generalize vs.getD i ev0 = U at *
        obtain ⟨uk, ua, ub, uc, ud, ux, us, un, uq⟩ := U
        have c0 : wr.cell? ⟨sb, so + i * 7, none⟩ = some (.int .i64 uk) := cs 0 (by omega)
        have c1 : wr.cell? ⟨sb, so + i * 7 + 1, none⟩ = some (.int .i64 ua) := cs 1 (by omega)
        have c2 : wr.cell? ⟨sb, so + i * 7 + 2, none⟩ = some (.int .i64 ub) := cs 2 (by omega)
        have c3 : wr.cell? ⟨sb, so + i * 7 + 3, none⟩ = some (.int .i64 uc) := cs 3 (by omega)
        have c4 : wr.cell? ⟨sb, so + i * 7 + 4, none⟩ = some (.int .i64 ud) := cs 4 (by omega)
        have c5 : wr.cell? ⟨sb, so + i * 7 + 5, none⟩ = some (.int .i64 ux) := cs 5 (by omega)
        have c6 : wr.cell? ⟨sb, so + i * 7 + 6, none⟩ = some (.slice us un uq) := cs 6 (by omega)
        clear cs hsb
        go_upto_region 19 with (fail)
        have hB4 := below_then_alloc HB.out (.cells #[.int .i64 uk, .int .i64 ua, .int .i64 ub, .int .i64 uc, .int .i64 ud, .int .i64 ux, .slice us un uq] 83)
        have b4 := Box.new wr #[.int .i64 uk, .int .i64 ua, .int .i64 ub, .int .i64 uc, .int .i64 ud, .int .i64 ux, .slice us un uq] 83
        obtain ⟨w4, hw4⟩ : ∃ w4, wr.alloc (.cells #[.int .i64 uk, .int .i64 ua, .int .i64 ub, .int .i64 uc, .int .i64 ud, .int .i64 ux, .slice us un uq] 83) = w4 := ⟨_, rfl⟩
        obtain ⟨bq, hbq⟩ : ∃ bq, wr.heap.size = bq := ⟨_, rfl⟩
        rw [hw4] at hB4 b4 ⊢
        rw [hbq] at b4
        try simp only [hbq]
        have HB4 := Kp.mk hB4
        have CF := Kp.mk (HCI.out w4 (below_step HB2.out hB4))
        have z0 : w4.cell? ⟨bq, 0, none⟩ = some (.int .i64 uk) := b4.cell 0 rfl
        have z1 : w4.cell? ⟨bq, 1, none⟩ = some (.int .i64 ua) := b4.cell 1 rfl
        have z2 : w4.cell? ⟨bq, 2, none⟩ = some (.int .i64 ub) := b4.cell 2 rfl
        have z3 : w4.cell? ⟨bq, 3, none⟩ = some (.int .i64 uc) := b4.cell 3 rfl
        have z4 : w4.cell? ⟨bq, 4, none⟩ = some (.int .i64 ud) := b4.cell 4 rfl
        have z5 : w4.cell? ⟨bq, 5, none⟩ = some (.int .i64 ux) := b4.cell 5 rfl
        have z6 : w4.cell? ⟨bq, 6, none⟩ = some (.slice us un uq) := b4.cell 6 rfl
        clear b4 hB4 hw4 hbq HCI c0 c1 c2 c3 c4 c5 c6 HSn
        go_wp2_with fail
        refine CF.out.mono ?_
        rintro e w5 ⟨rfl, hb5⟩
        have HB5 := Kp.mk (HB4.out.trans (hb5.mono HB4.out.size))
        clear hb5 CF z0 z1 z2 z3 z4 z5 z6 HB4
        go_wp2
        go_roundw
        case rel => exact ⟨i + 1, by omega, by go_num, HB5⟩
        case measure => simp [intOf]; omega
      · obtain rfl : n = i := by omega
        go_wp2
        go_ret
        exact ⟨rfl, below_step HB2.out HB.out⟩

end Go.Proofs.YtedchegejalolaaGreatDoor

/- Package query: Check: the walk. -/
namespace Go.Proofs.YtedchegejalolaaGreatDoor
set_option linter.unusedVariables false
open Go.RowKit

set_option maxRecDepth 100000 in
set_option maxHeartbeats 4000000 in
theorem qcheck_any (x : Ex) (v : ExV) (w : World) (h : IsEx w x v) (hs : x.small) (hd : x.dep ≤ 8) (hl : x.txt.length ≤ 400) (hT : Tab w) :
    Calls Tryz.prog 65 #[.agg (exL v).toArray] w fun e w' => e = .returned (.int .i64 0) ∧ RowKit.Below w.heap.size w w' := by
  have HF := Kp.mk (fun (W : World) (hW : RowKit.Below w.heap.size w W) => fault_any x 0 v W (h.below hW) hs (by omega))
  have HX := Kp.mk (fun (W : World) (hW : RowKit.Below w.heap.size w W) => text_any x v W (h.below hW) hs (by omega) (hT.below hW))
  have hls : (⟨x.txt.toArray⟩ : ByteArray).size ≤ 400 := str_size hl
  clear h hs hd hT
  obtain ⟨k, a, b, c, d, y, sa, n, cap⟩ := v
  show Calls Tryz.prog 65 #[.agg #[.int .i64 k, .int .i64 a, .int .i64 b, .int .i64 c, .int .i64 d, .int .i64 y, .slice sa n cap]] w _
  generalize x.txt = t at *
  have HA := Kp.mk (below_alloc (Nat.le_refl w.heap.size) (.cells #[.int .i64 k, .int .i64 a, .int .i64 b, .int .i64 c, .int .i64 d, .int .i64 y, .slice sa n cap] 83))
  have HBX := Kp.mk (Box.new w #[.int .i64 k, .int .i64 a, .int .i64 b, .int .i64 c, .int .i64 d, .int .i64 y, .slice sa n cap] 83)
  obtain ⟨bz, hbz⟩ : ∃ bz, w.heap.size = bz := ⟨_, rfl⟩
  obtain ⟨w1, hw1⟩ : ∃ w1, w.alloc (.cells #[.int .i64 k, .int .i64 a, .int .i64 b, .int .i64 c, .int .i64 d, .int .i64 y, .slice sa n cap] 83) = w1 := ⟨_, rfl⟩
  rw [hw1] at HA HBX
  rw [hbz] at HBX
  have CF := Kp.mk (HF.out w1 HA.out)
  have z0 : w1.cell? ⟨bz, 0, none⟩ = some (.int .i64 k) := HBX.out.cell 0 rfl
  have z1 : w1.cell? ⟨bz, 1, none⟩ = some (.int .i64 a) := HBX.out.cell 1 rfl
  have z2 : w1.cell? ⟨bz, 2, none⟩ = some (.int .i64 b) := HBX.out.cell 2 rfl
  have z3 : w1.cell? ⟨bz, 3, none⟩ = some (.int .i64 c) := HBX.out.cell 3 rfl
  have z4 : w1.cell? ⟨bz, 4, none⟩ = some (.int .i64 d) := HBX.out.cell 4 rfl
  have z5 : w1.cell? ⟨bz, 5, none⟩ = some (.int .i64 y) := HBX.out.cell 5 rfl
  have z6 : w1.cell? ⟨bz, 6, none⟩ = some (.slice sa n cap) := HBX.out.cell 6 rfl
  have HBZ := Kp.mk hbz
  go_enter Tryz.func65, Tryz.ntmps65
  go_upto_region 1 with (fail)
  try rw [hw1]
  try simp only [hbz]
  clear hw1 hbz HF
  go_wp2_with fail
  refine CF.out.mono ?_
  rintro e w2 ⟨rfl, hb2⟩
  have HB2 := Kp.mk (below_step HA.out hb2)
  have hbx := HBX.out.below hb2
  have y0 : w2.cell? ⟨bz, 0, none⟩ = some (.int .i64 k) := hbx.cell 0 rfl
  have y1 : w2.cell? ⟨bz, 1, none⟩ = some (.int .i64 a) := hbx.cell 1 rfl
  have y2 : w2.cell? ⟨bz, 2, none⟩ = some (.int .i64 b) := hbx.cell 2 rfl
  have y3 : w2.cell? ⟨bz, 3, none⟩ = some (.int .i64 c) := hbx.cell 3 rfl
  have y4 : w2.cell? ⟨bz, 4, none⟩ = some (.int .i64 d) := hbx.cell 4 rfl
  have y5 : w2.cell? ⟨bz, 5, none⟩ = some (.int .i64 y) := hbx.cell 5 rfl
  have y6 : w2.cell? ⟨bz, 6, none⟩ = some (.slice sa n cap) := hbx.cell 6 rfl
  have CX := Kp.mk (HX.out w2 HB2.out)
  clear z0 z1 z2 z3 z4 z5 z6 hbx hb2 CF HBX HA HX
  go_wp2_with fail
  refine CX.out.mono ?_
  rintro e w3 ⟨rfl, hb3⟩
  have HB3 := Kp.mk (below_step HB2.out hb3)
  have hlz : (t.length : Int) ≤ 400 := by omega
  have hlz3 : ¬ 400 < t.length := by omega
  have hlz4 : decide (400 < t.length) = false := decide_eq_false (by omega)
  have hlz2 : ¬ ((⟨t.toArray⟩ : ByteArray).size : Int) > 400 := by omega
  clear y0 y1 y2 y3 y4 y5 y6 CX hb3
  go_wp2
  go_ret
  exact ⟨rfl, HB3.out⟩

end Go.Proofs.YtedchegejalolaaGreatDoor

/- Parse: the walk. -/
namespace Go.Proofs.YtedchegejalolaaGreatDoor
set_option linter.unusedVariables false
open Go.RowKit Qk

set_option maxRecDepth 100000 in
set_option maxHeartbeats 16000000 in
theorem parse_any (t : List UInt8) (n : Nat) (ht : t.length = n) (hn : n ≤ 400) (x : Ex) (hp : ∀ w0, PartC w0 64 (wordsF t) x stopO) (hs : x.small) (hd : x.dep ≤ 8) (hl : x.txt.length ≤ 400) (w : World) (hT : Tab w) :
    Calls Tryz.prog 42 #[str t] w fun e w' => ∃ v : ExV, e = .returned (.tuple #[.agg #[.int .i64 v.k, .int .i64 v.a, .int .i64 v.b, .int .i64 v.c, .int .i64 v.d, .int .i64 v.x, .slice v.sa v.n v.cap], .int .i64 0]) ∧ Kp (IsEx w' x v) ∧ Kp (Below w.heap.size w w') := by
  have hsz : (⟨t.toArray⟩ : ByteArray).size = n := by show t.toArray.size = n; simpa using ht
  have hz : (n : Int) ≤ 400 := by omega
  have HP := Kp.mk hp
  have ha := below_alloc (Nat.le_refl w.heap.size) (.cells #[.int .i64 0, .int .i64 0, .int .i64 0, .int .i64 0, .int .i64 0, .int .i64 0, .slice none 0 0] 83)
  have HBX := Kp.mk (Box.new w #[.int .i64 0, .int .i64 0, .int .i64 0, .int .i64 0, .int .i64 0, .int .i64 0, .slice none 0 0] 83)
  obtain ⟨t2, ht2⟩ : ∃ t2, w.heap.size = t2 := ⟨_, rfl⟩
  obtain ⟨w1, hw1⟩ : ∃ w1, w.alloc (.cells #[.int .i64 0, .int .i64 0, .int .i64 0, .int .i64 0, .int .i64 0, .int .i64 0, .slice none 0 0] 83) = w1 := ⟨_, rfl⟩
  have HZ1 := Kp.mk (show w1.heap.size = t2 + 1 by rw [← hw1, alloc_size, ht2])
  rw [hw1] at ha HBX
  rw [ht2] at HBX
  have HA := Kp.mk ha
  have HT1 := Kp.mk (hT.below ha)
  have HT2 := Kp.mk ht2
  have CW := Kp.mk (words_any t n ht (by omega) w1)
  have HS := Kp.mk hs
  have HD := Kp.mk hd
  have HL := Kp.mk hl
  clear ht hp hs hd hl hT ha
  go_enter Tryz.func42, Tryz.ntmps42
  go_upto_region 3 with (fail)
  clear hw1 ht2
  go_wp2_with fail
  refine CW.out.mono ?_
  rintro e w2 ⟨oa, m, oc, rfl, HWL, HO, HB2⟩
  have hal := below_alloc (Nat.le_refl w2.heap.size) (.cells #[.slice oa m oc, .bool false] 109)
  have hbn := Box.new w2 #[.slice oa m oc, .bool false] 109
  have HPS := Kp.mk (show PS w2 (w2.alloc (.cells #[.slice oa m oc, .bool false] 109)) w2.heap.size oa oc (wordsF t ++ []) from by
    obtain ⟨h1, _⟩ := HWL.out
    subst h1
    rw [List.append_nil]
    exact ⟨hbn, (own_slc HO.out).below hal, fun k e => (own_lt HO.out k e).2, HT1.out.below HB2.out, hal, Nat.le_refl _⟩)
  obtain ⟨pb, hpb⟩ : ∃ pb, w2.heap.size = pb := ⟨_, rfl⟩
  obtain ⟨w3, hw3⟩ : ∃ w3, w2.alloc (.cells #[.slice oa m oc, .bool false] 109) = w3 := ⟨_, rfl⟩
  have hz3 : w3.heap.size = pb + 1 := by rw [← hw3, alloc_size, hpb]
  have hz2 := HB2.out.size
  rw [hw3] at HPS
  rw [hpb] at HPS
  have HB3 := Kp.mk (show Below w1.heap.size w1 w3 from by rw [← hw3]; exact HB2.out.trans (hal.mono hz2))
  have HBX3 := Kp.mk (HBX.out.below HB3.out)
  have HZP := Kp.mk (show t2 < pb ∧ w3.heap.size = pb + 1 from ⟨by have := HZ1.out; omega, hz3⟩)
  have CO := Kp.mk (HP.out w2 w3 pb oc oa [] (fun t ht => by cases ht) HPS.out)
  clear CW HWL HO HB2 hal hbn HT1 HPS hz2 hz3 HBX
  go_upto_region 4 with (fail)
  try rw [hw3]
  try simp only [hpb]
  clear hw3 hpb
  go_wp2_with fail
  refine CO.out.mono ?_
  rintro e w4 ⟨v, la4, lc4, rfl, HV4, HS4, HG4⟩
  have hT2 := HT2.out
  have hZ1 := HZ1.out
  obtain ⟨hZP, hZ3⟩ := HZP.out
  have hz4 := HG4.out.size
  have hal := below_alloc (Nat.le_refl w4.heap.size) (.cells #[.int .i64 v.k, .int .i64 v.a, .int .i64 v.b, .int .i64 v.c, .int .i64 v.d, .int .i64 v.x, .slice v.sa v.n v.cap] 83)
  have HX5 := Kp.mk (Box.new w4 #[.int .i64 v.k, .int .i64 v.a, .int .i64 v.b, .int .i64 v.c, .int .i64 v.d, .int .i64 v.x, .slice v.sa v.n v.cap] 83)
  have HV5 := Kp.mk (HV4.out.below hal)
  have HS5 := Kp.mk (HS4.out.later hal)
  have HBX5 := Kp.mk ((box_grow HBX3.out HG4.out (fun e => by simp only [Option.some.injEq] at e; omega)).below hal)
  have HB5 := Kp.mk (show Below w1.heap.size w1 (w4.alloc (.cells #[.int .i64 v.k, .int .i64 v.a, .int .i64 v.b, .int .i64 v.c, .int .i64 v.d, .int .i64 v.x, .slice v.sa v.n v.cap] 83)) from (HB3.out.trans (below_of_grown HG4.out (by omega) (fun q e => by cases e; omega))).trans (hal.mono (by omega)))
  obtain ⟨t5, ht5⟩ : ∃ t5, w4.heap.size = t5 := ⟨_, rfl⟩
  obtain ⟨w5, hw5⟩ : ∃ w5, w4.alloc (.cells #[.int .i64 v.k, .int .i64 v.a, .int .i64 v.b, .int .i64 v.c, .int .i64 v.d, .int .i64 v.x, .slice v.sa v.n v.cap] 83) = w5 := ⟨_, rfl⟩
  rw [hw5] at HV5 HS5 HBX5 HB5
  have HX5' := Kp.mk (show Box w5 t5 #[.int .i64 v.k, .int .i64 v.a, .int .i64 v.b, .int .i64 v.c, .int .i64 v.d, .int .i64 v.x, .slice v.sa v.n v.cap] 83 from by rw [← hw5, ← ht5]; exact HX5.out)
  have HT5 := Kp.mk (show t2 < t5 from by omega)
  clear CO HV4 HS4 HG4 HBX3 HB3 hal HX5 HP
  go_upto_region 5 with (fail)
  try rw [hw5]
  try simp only [ht5]
  clear hw5 ht5 hz4
  have k1 : w5.cell? ⟨pb, 1, none⟩ = some (.bool false) := HS5.out.box.cell 1 rfl
  have k0 : w5.cell? ⟨pb, 0, none⟩ = some (.slice la4 0 lc4) := HS5.out.box.cell 0 rfl
  have c0 : w5.cell? ⟨t5, 0, none⟩ = some (.int .i64 v.k) := HX5'.out.cell 0 rfl
  have c1 : w5.cell? ⟨t5, 1, none⟩ = some (.int .i64 v.a) := HX5'.out.cell 1 rfl
  have c2 : w5.cell? ⟨t5, 2, none⟩ = some (.int .i64 v.b) := HX5'.out.cell 2 rfl
  have c3 : w5.cell? ⟨t5, 3, none⟩ = some (.int .i64 v.c) := HX5'.out.cell 3 rfl
  have c4 : w5.cell? ⟨t5, 4, none⟩ = some (.int .i64 v.d) := HX5'.out.cell 4 rfl
  have c5 : w5.cell? ⟨t5, 5, none⟩ = some (.int .i64 v.x) := HX5'.out.cell 5 rfl
  have c6 : w5.cell? ⟨t5, 6, none⟩ = some (.slice v.sa v.n v.cap) := HX5'.out.cell 6 rfl
  have CK := Kp.mk (qcheck_any x v w5 HV5.out.is HS.out HD.out HL.out HS5.out.tabs)
  go_upto_region 7 with (fail)
  go_wp2_with fail
  refine CK.out.mono ?_
  rintro e w6 ⟨rfl, hb6⟩
  have HV6 := Kp.mk (HV5.out.below hb6)
  have hx0 := HBX5.out.below hb6
  have hx5 := HX5'.out.below hb6
  have HB6 := Kp.mk (HB5.out.trans (hb6.mono HB5.out.size))
  clear k1 k0 c0 c1 c2 c3 c4 c5 c6 CK hb6 HV5 HS5 HBX5 HB5 HX5'
  have c0 : w6.cell? ⟨t5, 0, none⟩ = some (.int .i64 v.k) := hx5.cell 0 rfl
  have c1 : w6.cell? ⟨t5, 1, none⟩ = some (.int .i64 v.a) := hx5.cell 1 rfl
  have c2 : w6.cell? ⟨t5, 2, none⟩ = some (.int .i64 v.b) := hx5.cell 2 rfl
  have c3 : w6.cell? ⟨t5, 3, none⟩ = some (.int .i64 v.c) := hx5.cell 3 rfl
  have c4 : w6.cell? ⟨t5, 4, none⟩ = some (.int .i64 v.d) := hx5.cell 4 rfl
  have c5 : w6.cell? ⟨t5, 5, none⟩ = some (.int .i64 v.x) := hx5.cell 5 rfl
  have c6 : w6.cell? ⟨t5, 6, none⟩ = some (.slice v.sa v.n v.cap) := hx5.cell 6 rfl
  have b0 : w6.cell? ⟨t2, 0, none⟩ = some (.int .i64 0) := hx0.cell 0 rfl
  have b1 : w6.cell? ⟨t2, 1, none⟩ = some (.int .i64 0) := hx0.cell 1 rfl
  have b2 : w6.cell? ⟨t2, 2, none⟩ = some (.int .i64 0) := hx0.cell 2 rfl
  have b3 : w6.cell? ⟨t2, 3, none⟩ = some (.int .i64 0) := hx0.cell 3 rfl
  have b4 : w6.cell? ⟨t2, 4, none⟩ = some (.int .i64 0) := hx0.cell 4 rfl
  have b5 : w6.cell? ⟨t2, 5, none⟩ = some (.int .i64 0) := hx0.cell 5 rfl
  have b6 : w6.cell? ⟨t2, 6, none⟩ = some (.slice none 0 0) := hx0.cell 6 rfl
  have q0 := hx0.free 0
  have q1 := hx0.free 1
  have q2 := hx0.free 2
  have q3 := hx0.free 3
  have q4 := hx0.free 4
  have q5 := hx0.free 5
  have q6 := hx0.free 6
  have HX9 := Kp.mk (st7_box hx0 (.int .i64 v.k) (.int .i64 v.a) (.int .i64 v.b) (.int .i64 v.c) (.int .i64 v.d) (.int .i64 v.x) (.slice v.sa v.n v.cap))
  have hg9 := st7_grown w6 t2 (.int .i64 v.k) (.int .i64 v.a) (.int .i64 v.b) (.int .i64 v.c) (.int .i64 v.d) (.int .i64 v.x) (.slice v.sa v.n v.cap)
  have HV9 := Kp.mk (show IsExB (fun k => w3.heap.size ≤ k) _ x v from HV6.out.keep (Q := fun k => w3.heap.size ≤ k) (fun k hk hl => hg9.block k hl (fun e => by cases e; omega)) hg9.size (fun k hk _ => hk))
  have HB9 := Kp.mk (show Below w.heap.size w _ from (below_step HA.out HB6.out).trans (below_of_grown hg9 (by have := HB6.out.size; omega) (fun q e => by cases e; omega)))
  clear hx0 hx5 hg9 HV6 HB6
  go_wp2
  clear b0 b1 b2 b3 b4 b5 b6 q0 q1 q2 q3 q4 q5 q6 c0 c1 c2 c3 c4 c5 c6
  generalize (((((((w6.setCell ⟨t2, 0, none⟩ (.int .i64 v.k)).setCell ⟨t2, 1, none⟩ (.int .i64 v.a)).setCell ⟨t2, 2, none⟩ (.int .i64 v.b)).setCell ⟨t2, 3, none⟩ (.int .i64 v.c)).setCell ⟨t2, 4, none⟩ (.int .i64 v.d)).setCell ⟨t2, 5, none⟩ (.int .i64 v.x)).setCell ⟨t2, 6, none⟩ (.slice v.sa v.n v.cap)) = w9 at *
  have z0 : w9.cell? ⟨t2, 0, none⟩ = some (.int .i64 v.k) := HX9.out.cell 0 rfl
  have z1 : w9.cell? ⟨t2, 1, none⟩ = some (.int .i64 v.a) := HX9.out.cell 1 rfl
  have z2 : w9.cell? ⟨t2, 2, none⟩ = some (.int .i64 v.b) := HX9.out.cell 2 rfl
  have z3 : w9.cell? ⟨t2, 3, none⟩ = some (.int .i64 v.c) := HX9.out.cell 3 rfl
  have z4 : w9.cell? ⟨t2, 4, none⟩ = some (.int .i64 v.d) := HX9.out.cell 4 rfl
  have z5 : w9.cell? ⟨t2, 5, none⟩ = some (.int .i64 v.x) := HX9.out.cell 5 rfl
  have z6 : w9.cell? ⟨t2, 6, none⟩ = some (.slice v.sa v.n v.cap) := HX9.out.cell 6 rfl
  refine bodyPost_ret (v := .tuple #[.agg #[.int .i64 v.k, .int .i64 v.a, .int .i64 v.b, .int .i64 v.c, .int .i64 v.d, .int .i64 v.x, .slice v.sa v.n v.cap], .int .i64 0]) (by simp [results, Tryz.results42, go_sem, z0, z1, z2, z3, z4, z5, z6]) rfl ?_
  exact ⟨v, rfl, ⟨HV9.out.is⟩, HB9⟩

end Go.Proofs.YtedchegejalolaaGreatDoor

