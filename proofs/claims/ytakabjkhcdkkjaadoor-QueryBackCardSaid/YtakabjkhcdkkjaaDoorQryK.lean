/- Words of texts: the plain law. -/
import Derived.Test.YtakabjkhcdkkjaaDoorQryP
namespace Go.Proofs.YtakabjkhcdkkjaaDoor.Qk
set_option linter.unusedVariables false

abbrev Wd := List UInt8
def isSign (c : UInt8) : Bool := c == 40 || c == 41 || c == 38 || c == 124 || c == 33
def flush (s : List Wd × Wd) : List Wd := if s.2 = [] then s.1 else s.1 ++ [s.2]
def st (s : List Wd × Wd) (c : UInt8) : List Wd × Wd :=
  if isSign c = true then (flush s ++ [[c]], []) else if c = 32 then (flush s, []) else (s.1, s.2 ++ [c])
def fold (t : List UInt8) (s : List Wd × Wd) : List Wd × Wd := t.foldl st s
/-- The words of a text. -/
def wordsF (t : List UInt8) : List Wd := flush (fold t ([], []))
theorem fold_nil (s : List Wd × Wd) : fold [] s = s := rfl
theorem fold_cons (c : UInt8) (t : List UInt8) (s : List Wd × Wd) : fold (c :: t) s = fold t (st s c) := rfl
theorem fold_append (t u : List UInt8) (s : List Wd × Wd) : fold (t ++ u) s = fold u (fold t s) := List.foldl_append ..
theorem st_sign {c : UInt8} (h : isSign c = true) (s : List Wd × Wd) : st s c = (flush s ++ [[c]], []) := by unfold st; rw [if_pos h]
theorem st_space (s : List Wd × Wd) : st s 32 = (flush s, []) := by unfold st; rw [if_neg (by decide), if_pos rfl]
theorem flush_none (out : List Wd) : flush (out, []) = out := by unfold flush; rw [if_pos rfl]
/-- A text that tells words, whatever was told ahead. -/
def Good (t : List UInt8) (T : List Wd) : Prop := ∀ out, flush (fold t (out, [])) = out ++ T
theorem Good.nil : Good [] [] := fun out => by rw [fold_nil, flush_none, List.append_nil]
theorem Good.sp {t : List UInt8} {T : List Wd} (h : Good t T) (out : List Wd) : fold (t ++ [32]) (out, []) = (out ++ T, []) := by
  rw [fold_append, fold_cons, fold_nil, st_space, h out]
theorem Good.sign {t : List UInt8} {T : List Wd} (h : Good t T) {c : UInt8} (hc : isSign c = true) (out : List Wd) : fold (t ++ [c]) (out, []) = (out ++ T ++ [[c]], []) := by
  rw [fold_append, fold_cons, fold_nil, st_sign hc, h out]
/-- Behind a blank. -/
theorem Good.cat {t u : List UInt8} {T U : List Wd} (h : Good t T) (h' : Good u U) : Good (t ++ [32] ++ u) (T ++ U) := fun out => by
  rw [fold_append, h.sp out, h', List.append_assoc]
/-- Behind a sign. -/
theorem Good.mark {t u : List UInt8} {T U : List Wd} (h : Good t T) {c : UInt8} (hc : isSign c = true) (h' : Good u U) : Good (t ++ [c] ++ u) (T ++ [[c]] ++ U) := fun out => by
  rw [fold_append, h.sign hc out, h']
  simp
theorem good_sign {c : UInt8} (hc : isSign c = true) : Good [c] [[c]] := fun out => by
  have := (Good.nil).sign hc out
  rw [List.nil_append] at this
  rw [this, flush_none, List.append_nil]
def plain (c : UInt8) : Prop := isSign c = false ∧ c ≠ 32
theorem fold_word : ∀ (t : List UInt8) (out : List Wd) (now : Wd), (∀ c ∈ t, plain c) → fold t (out, now) = (out, now ++ t)
  | [], out, now, _ => by rw [fold_nil, List.append_nil]
  | c :: t, out, now, h => by
    obtain ⟨h1, h2⟩ := h c (by simp)
    rw [fold_cons]
    have e : st (out, now) c = (out, now ++ [c]) := by
      unfold st
      rw [if_neg (by rw [h1]; decide), if_neg h2]
    rw [e, fold_word t out (now ++ [c]) (fun x hx => h x (by simp [hx])), List.append_assoc]
    rfl
theorem good_word {t : List UInt8} (h0 : t ≠ []) (h : ∀ c ∈ t, plain c) : Good t [t] := fun out => by
  rw [fold_word t out [] h, List.nil_append]
  unfold flush
  rw [if_neg h0]

theorem digit_plain {u : Nat} (h : u < 10) : plain (UInt8.ofNat (48 + u)) := by
  have : ∀ i : Fin 10, isSign (UInt8.ofNat (48 + i.val)) = false ∧ UInt8.ofNat (48 + i.val) ≠ 32 := by decide
  exact this ⟨u, h⟩
theorem dec_plain {u : Nat} (h : u < 100) : (∀ c ∈ Lib.decDigits u, plain c) ∧ Lib.decDigits u ≠ [] := by
  by_cases h1 : u < 10
  · rw [Lib.decDigits_one h1]
    refine ⟨fun c hc => ?_, by simp⟩
    rw [List.mem_singleton.1 hc]
    exact digit_plain h1
  · rw [Lib.decDigits_two h1 h]
    refine ⟨fun c hc => ?_, by simp⟩
    simp only [List.mem_cons, List.not_mem_nil, or_false] at hc
    rcases hc with rfl | rfl
    · exact digit_plain (by omega)
    · exact digit_plain (by omega)
theorem itoa_plain {x : Int} (h1 : -100 < x) (h2 : x < 100) : (∀ c ∈ Lib.itoa x, plain c) ∧ Lib.itoa x ≠ [] := by
  rcases Int.lt_or_le x 0 with h | h
  · obtain ⟨u, rfl⟩ : ∃ u : Nat, x = -(u : Int) := ⟨x.natAbs, by omega⟩
    rw [Lib.itoa_neg u (by omega)]
    obtain ⟨h3, _⟩ := dec_plain (u := u) (by omega)
    refine ⟨fun c hc => ?_, by simp⟩
    rcases List.mem_cons.1 hc with rfl | hc
    · exact ⟨by decide, by decide⟩
    · exact h3 c hc
  · obtain ⟨u, rfl⟩ : ∃ u : Nat, x = (u : Int) := ⟨x.toNat, by omega⟩
    rw [Lib.itoa_nonneg]
    exact dec_plain (by omega)
theorem good_itoa {x : Int} (h1 : -100 < x) (h2 : x < 100) : Good (Lib.itoa x) [Lib.itoa x] := good_word (itoa_plain h1 h2).2 (itoa_plain h1 h2).1

/-- The words of an expression. -/
def wrapK (k : Int) (p : Ex) (T : List Wd) : List Wd := if Ex.rank p.kind ≤ Ex.rank k ∧ Ex.rank p.kind < 3 then [[40]] ++ T ++ [[41]] else T
def signK (o : Bool) : UInt8 := if o = true then 124 else 38
def toks : Ex → List Wd
  | .inn a b c d => [[105, 110], Lib.itoa a, Lib.itoa b, Lib.itoa c, Lib.itoa d]
  | .hv x => [[119], Lib.itoa x]
  | .not p => [[33]] ++ wrapK 5 p (toks p)
  | .two o p q => wrapK (Ex.ok o) p (toks p) ++ [[signK o]] ++ wrapK (Ex.ok o) q (toks q)
  | .three o p q r => wrapK (Ex.ok o) p (toks p) ++ [[signK o]] ++ (wrapK (Ex.ok o) q (toks q) ++ [[signK o]] ++ wrapK (Ex.ok o) r (toks r))
theorem signK_sign (o : Bool) : isSign (signK o) = true := by cases o <;> decide
theorem good_wrap (k : Int) (p : Ex) (h : Good p.txt (toks p)) : Good (Ex.wrapT k p p.txt) (wrapK k p (toks p)) := by
  unfold Ex.wrapT wrapK
  split
  · have h1 := (Good.nil).mark (c := 40) (by decide) (h.mark (c := 41) (by decide) Good.nil)
    simpa using h1
  · exact h
theorem Good.sep {t u : List UInt8} {T U : List Wd} (o : Bool) (h : Good t T) (h' : Good u U) : Good (t ++ Ex.sepT o ++ u) (T ++ [[signK o]] ++ U) := by
  have h1 := (h.cat Good.nil).mark (signK_sign o) (Good.nil.cat h')
  have e : Ex.sepT o = [32] ++ [signK o] ++ [32] := by cases o <;> rfl
  rw [e]
  simpa using h1
theorem good_txt : ∀ x : Ex, x.small → Good x.txt (toks x)
  | .inn a b c d, hs => by
    simp only [Ex.small] at hs
    have h1 := good_itoa (x := a) (by omega) (by omega)
    have h2 := good_itoa (x := b) (by omega) (by omega)
    have h3 := good_itoa (x := c) (by omega) (by omega)
    have h4 := good_itoa (x := d) (by omega) (by omega)
    have h0 : Good [105, 110] [[105, 110]] := good_word (by decide) (fun c hc => by
      simp only [List.mem_cons, List.not_mem_nil, or_false] at hc
      rcases hc with rfl | rfl <;> exact ⟨by decide, by decide⟩)
    have := (((h0.cat h1).cat h2).cat h3).cat h4
    simpa [Ex.txt, Ex.num, toks] using this
  | .hv x, hs => by
    simp only [Ex.small] at hs
    have h1 := good_itoa (x := x) (by omega) (by omega)
    have h0 : Good [119] [[119]] := good_word (by decide) (fun c hc => by
      rw [List.mem_singleton.1 hc]
      exact ⟨by decide, by decide⟩)
    have := h0.cat h1
    simpa [Ex.txt, toks] using this
  | .not p, hs => by
    simp only [Ex.small] at hs
    have h := good_wrap 5 p (good_txt p hs)
    have := (Good.nil).mark (c := 33) (by decide) h
    simpa [Ex.txt, toks] using this
  | .two o p q, hs => by
    simp only [Ex.small] at hs
    have h1 := good_wrap (Ex.ok o) p (good_txt p hs.1)
    have h2 := good_wrap (Ex.ok o) q (good_txt q hs.2)
    exact h1.sep o h2
  | .three o p q r, hs => by
    simp only [Ex.small] at hs
    have h1 := good_wrap (Ex.ok o) p (good_txt p hs.1)
    have h2 := good_wrap (Ex.ok o) q (good_txt q hs.2.1)
    have h3 := good_wrap (Ex.ok o) r (good_txt r hs.2.2)
    have := h1.sep o (h2.sep o h3)
    simpa [Ex.txt, toks] using this
theorem words_txt {x : Ex} (hs : x.small) : wordsF x.txt = toks x := by
  have := good_txt x hs []
  rwa [List.nil_append] at this

/-- Texts with more blanks behind blanks. -/
inductive Wide : List UInt8 → List UInt8 → Prop
  | nil : Wide [] []
  | keep (c : UInt8) {t u : List UInt8} (h : Wide t u) : Wide (t ++ [c]) (u ++ [c])
  | more {t u : List UInt8} (h : Wide t u) : Wide (t ++ [32]) (u ++ [32] ++ [32, 32])
theorem st_flushed (out : List Wd) : st (out, []) 32 = (out, []) := by rw [st_space, flush_none]
theorem Wide.fold {t u : List UInt8} (h : Wide t u) (out : List Wd) : Qk.fold u (out, []) = Qk.fold t (out, []) := by
  induction h with
  | nil => rfl
  | keep c h ih => rw [fold_append, fold_append, ih]
  | more h ih =>
    rw [fold_append, fold_append, fold_append, ih]
    simp only [fold_cons, fold_nil]
    generalize Qk.fold _ _ = s
    rw [st_space s, st_flushed, st_flushed]
theorem Wide.good {t u : List UInt8} {T : List Wd} (h : Wide t u) (hg : Good t T) : Good u T := fun out => by rw [h.fold, hg out]
/-- The wide text's words. -/
theorem words_wide {x : Ex} (hs : x.small) {u : List UInt8} (h : Wide x.txt u) : wordsF ([32, 32, 40, 32] ++ u ++ [32, 41]) = [[40]] ++ toks x ++ [[41]] := by
  have h1 := h.good (good_txt x hs)
  have h2 := ((Good.nil.cat (Good.nil.cat Good.nil)).mark (c := 40) (by decide) (Good.nil.cat h1)).cat (good_sign (c := 41) (by decide))
  have := h2 []
  simp only [List.nil_append, List.append_nil] at this
  unfold wordsF
  rw [← this]
  simp

end Go.Proofs.YtakabjkhcdkkjaaDoor.Qk
