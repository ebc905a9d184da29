/- The parser: the words of an expression are parsed. -/
import Derived.Test.YtakabjkhcdkkjaaDoorQryG
namespace Go.Proofs.YtakabjkhcdkkjaaDoor
set_option linter.unusedVariables false
open Go.RowKit Qk

def stopA : Wd → Prop := fun t => t = [38]
def stopO : Wd → Prop := fun t => t = [38] ∨ t = [124]
theorem and1 (w0 : World) (T0 : List Wd) (x0 : Ex) (h0 : PartC w0 29 T0 x0 noStop) : PartC w0 22 (T0) x0 stopA := by
  intro w pb lc la rest hr hps
  refine (and_any w0 noStop (T0, x0) [] (fun p hp => ?_) (fun h => h) (by simp) w pb lc la rest (fun t ht => ⟨fun h => h, fun e => hr t ht e⟩) (by simpa [tailW] using hps)).mono ?_
  · rw [List.mem_singleton.1 hp]; exact h0
  · rintro e w' ⟨V, vs, oa, oc, la', lc', rfl, HV, HL, HS, HG⟩
    refine ⟨V, la', lc', rfl, ⟨?_⟩, HS, HG⟩
    rw [HV.out]
    exact HL.out.at 0 (by simp)
theorem and2 (w0 : World) (T0 : List Wd) (x0 : Ex) (T1 : List Wd) (x1 : Ex) (h0 : PartC w0 29 T0 x0 noStop) (h1 : PartC w0 29 T1 x1 noStop) : PartC w0 22 (T0 ++ [[38]] ++ T1) (.two false x0 x1) stopA := by
  intro w pb lc la rest hr hps
  refine (and_any w0 noStop (T0, x0) [(T1, x1)] (fun p hp => ?_) (fun h => h) (by simp) w pb lc la rest (fun t ht => ⟨fun h => h, fun e => hr t ht e⟩) (by simpa [tailW] using hps)).mono ?_
  · simp only [List.mem_cons, List.not_mem_nil, or_false] at hp
    rcases hp with rfl | rfl
    · exact h0
    · exact h1
  · rintro e w' ⟨V, vs, oa, oc, la', lc', rfl, HV, HL, HS, HG⟩
    refine ⟨V, la', lc', rfl, ⟨?_⟩, HS, HG⟩
    rw [HV.out]
    exact HL.out.isTwo false
theorem and3 (w0 : World) (T0 : List Wd) (x0 : Ex) (T1 : List Wd) (x1 : Ex) (T2 : List Wd) (x2 : Ex) (h0 : PartC w0 29 T0 x0 noStop) (h1 : PartC w0 29 T1 x1 noStop) (h2 : PartC w0 29 T2 x2 noStop) : PartC w0 22 (T0 ++ [[38]] ++ (T1 ++ [[38]] ++ T2)) (.three false x0 x1 x2) stopA := by
  intro w pb lc la rest hr hps
  refine (and_any w0 noStop (T0, x0) [(T1, x1), (T2, x2)] (fun p hp => ?_) (fun h => h) (by simp) w pb lc la rest (fun t ht => ⟨fun h => h, fun e => hr t ht e⟩) (by simpa [tailW] using hps)).mono ?_
  · simp only [List.mem_cons, List.not_mem_nil, or_false] at hp
    rcases hp with rfl | rfl | rfl
    · exact h0
    · exact h1
    · exact h2
  · rintro e w' ⟨V, vs, oa, oc, la', lc', rfl, HV, HL, HS, HG⟩
    refine ⟨V, la', lc', rfl, ⟨?_⟩, HS, HG⟩
    rw [HV.out]
    exact HL.out.isThree false
theorem or1 (w0 : World) (T0 : List Wd) (x0 : Ex) (h0 : PartC w0 22 T0 x0 stopA) : PartC w0 14 (T0) x0 stopO := by
  intro w pb lc la rest hr hps
  refine (or_any w0 stopA (T0, x0) [] (fun p hp => ?_) (by unfold stopA; decide) (by simp) w pb lc la rest (fun t ht => ⟨fun h => hr t ht (.inl h), fun e => hr t ht (.inr e)⟩) (by simpa [tailW] using hps)).mono ?_
  · rw [List.mem_singleton.1 hp]; exact h0
  · rintro e w' ⟨V, vs, oa, oc, la', lc', rfl, HV, HL, HS, HG⟩
    refine ⟨V, la', lc', rfl, ⟨?_⟩, HS, HG⟩
    rw [HV.out]
    exact HL.out.at 0 (by simp)
theorem or2 (w0 : World) (T0 : List Wd) (x0 : Ex) (T1 : List Wd) (x1 : Ex) (h0 : PartC w0 22 T0 x0 stopA) (h1 : PartC w0 22 T1 x1 stopA) : PartC w0 14 (T0 ++ [[124]] ++ T1) (.two true x0 x1) stopO := by
  intro w pb lc la rest hr hps
  refine (or_any w0 stopA (T0, x0) [(T1, x1)] (fun p hp => ?_) (by unfold stopA; decide) (by simp) w pb lc la rest (fun t ht => ⟨fun h => hr t ht (.inl h), fun e => hr t ht (.inr e)⟩) (by simpa [tailW] using hps)).mono ?_
  · simp only [List.mem_cons, List.not_mem_nil, or_false] at hp
    rcases hp with rfl | rfl
    · exact h0
    · exact h1
  · rintro e w' ⟨V, vs, oa, oc, la', lc', rfl, HV, HL, HS, HG⟩
    refine ⟨V, la', lc', rfl, ⟨?_⟩, HS, HG⟩
    rw [HV.out]
    exact HL.out.isTwo true
theorem or3 (w0 : World) (T0 : List Wd) (x0 : Ex) (T1 : List Wd) (x1 : Ex) (T2 : List Wd) (x2 : Ex) (h0 : PartC w0 22 T0 x0 stopA) (h1 : PartC w0 22 T1 x1 stopA) (h2 : PartC w0 22 T2 x2 stopA) : PartC w0 14 (T0 ++ [[124]] ++ (T1 ++ [[124]] ++ T2)) (.three true x0 x1 x2) stopO := by
  intro w pb lc la rest hr hps
  refine (or_any w0 stopA (T0, x0) [(T1, x1), (T2, x2)] (fun p hp => ?_) (by unfold stopA; decide) (by simp) w pb lc la rest (fun t ht => ⟨fun h => hr t ht (.inl h), fun e => hr t ht (.inr e)⟩) (by simpa [tailW] using hps)).mono ?_
  · simp only [List.mem_cons, List.not_mem_nil, or_false] at hp
    rcases hp with rfl | rfl | rfl
    · exact h0
    · exact h1
    · exact h2
  · rintro e w' ⟨V, vs, oa, oc, la', lc', rfl, HV, HL, HS, HG⟩
    refine ⟨V, la', lc', rfl, ⟨?_⟩, HS, HG⟩
    rw [HV.out]
    exact HL.out.isThree true
theorem rank_or (k : Int) : Ex.rank k = 1 ∨ Ex.rank k = 2 ∨ Ex.rank k = 3 := by
  unfold Ex.rank
  split
  · exact .inl rfl
  · split
    · exact .inr (.inl rfl)
    · exact .inr (.inr rfl)
/-- What is known of the words of an expression. -/
structure Parsed (w0 : World) (x : Ex) : Prop where
  one : Ex.rank x.kind = 3 → PartC w0 29 (toks x) x noStop
  and : 2 ≤ Ex.rank x.kind → PartC w0 22 (toks x) x stopA
  or : PartC w0 14 (toks x) x stopO
theorem Parsed.of_one {w0 : World} {x : Ex} (h : PartC w0 29 (toks x) x noStop) : Parsed w0 x :=
  ⟨fun _ => h, fun _ => and1 w0 _ _ h, or1 w0 _ _ (and1 w0 _ _ h)⟩
theorem Parsed.brackets {w0 : World} {x : Ex} (h : Parsed w0 x) : PartC w0 29 ([[40]] ++ toks x ++ [[41]]) x noStop := one_paren w0 stopO (by unfold stopO; decide) _ _ h.or
theorem Parsed.wrap {w0 : World} {x : Ex} (h : Parsed w0 x) (k : Int) (hk : 2 ≤ Ex.rank k) : PartC w0 29 (wrapK k x (toks x)) x noStop := by
  unfold wrapK
  split
  · exact h.brackets
  · refine h.one ?_
    have := rank_or x.kind
    omega
theorem Parsed.wrapO {w0 : World} {x : Ex} (h : Parsed w0 x) (k : Int) : PartC w0 22 (wrapK k x (toks x)) x stopA := by
  unfold wrapK
  split
  · exact and1 w0 _ _ h.brackets
  · refine h.and ?_
    have := rank_or x.kind
    have := rank_or k
    omega
theorem parsed (w0 : World) : ∀ x : Ex, x.small → Parsed w0 x
  | .inn a b c d, hs => by
    simp only [Ex.small] at hs
    exact Parsed.of_one (one_in w0 a b c d (by omega) (by omega) (by omega) (by omega) (by omega) (by omega) (by omega) (by omega) noStop)
  | .hv x, hs => by
    simp only [Ex.small] at hs
    exact Parsed.of_one (one_w w0 x (by omega) (by omega) noStop)
  | .not p, hs => by
    simp only [Ex.small] at hs
    exact Parsed.of_one (one_not w0 _ _ ((parsed w0 p hs).wrap 5 (by decide)))
  | .two o p q, hs => by
    simp only [Ex.small] at hs
    have h1 := parsed w0 p hs.1
    have h2 := parsed w0 q hs.2
    cases o with
    | false =>
      have h := and2 w0 _ _ _ _ (h1.wrap 3 (by decide)) (h2.wrap 3 (by decide))
      exact ⟨fun e => absurd e (show ¬ Ex.rank 3 = 3 by decide), fun _ => h, or1 w0 _ _ h⟩
    | true =>
      have h := or2 w0 _ _ _ _ (h1.wrapO 4) (h2.wrapO 4)
      exact ⟨fun e => absurd e (show ¬ Ex.rank 4 = 3 by decide), fun e => absurd e (show ¬ 2 ≤ Ex.rank 4 by decide), h⟩
  | .three o p q r, hs => by
    simp only [Ex.small] at hs
    have h1 := parsed w0 p hs.1
    have h2 := parsed w0 q hs.2.1
    have h3 := parsed w0 r hs.2.2
    cases o with
    | false =>
      have h := and3 w0 _ _ _ _ _ _ (h1.wrap 3 (by decide)) (h2.wrap 3 (by decide)) (h3.wrap 3 (by decide))
      exact ⟨fun e => absurd e (show ¬ Ex.rank 3 = 3 by decide), fun _ => h, or1 w0 _ _ h⟩
    | true =>
      have h := or3 w0 _ _ _ _ _ _ (h1.wrapO 4) (h2.wrapO 4) (h3.wrapO 4)
      exact ⟨fun e => absurd e (show ¬ Ex.rank 4 = 3 by decide), fun e => absurd e (show ¬ 2 ≤ Ex.rank 4 by decide), h⟩
/-- In brackets too. -/
theorem parsed_wide (w0 : World) (x : Ex) (hs : x.small) : PartC w0 14 ([[40]] ++ toks x ++ [[41]]) x stopO := or1 w0 _ _ (and1 w0 _ _ (parsed w0 x hs).brackets)

end Go.Proofs.YtakabjkhcdkkjaaDoor
