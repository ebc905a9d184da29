/- Package query: what is meant: the plain facts. -/
import Derived.Test.YteeeikninigeoaaDoorQryP
import Derived.Test.YteeeikninigeoaaDoorGrdK
import Derived.Test.YteeeikninigeoaaDoorBool
namespace Go.Proofs.YteeeikninigeoaaDoor
set_option linter.unusedVariables false
open Go.RowKit

def opB (o a b : Bool) : Bool := if o = true then a || b else a && b
/-- Which points an expression means. -/
def Ex.sem (L : List Pt) : Ex → Nat → Bool
  | .inn a b c d, i => inL L a b c d i
  | .hv x, i => decide ((L.getD i pt0).w ≥ x)
  | .not p, i => !p.sem L i
  | .two o p q, i => opB o (p.sem L i) (q.sem L i)
  | .three o p q r, i => opB o (opB o (p.sem L i) (q.sem L i)) (r.sem L i)
/-- Of so many parts, taken together. -/
def accS (o : Bool) (S : Nat → Nat → Bool) : Nat → Nat → Bool
  | 0, i => S 0 i
  | j + 1, i => opB o (accS o S j i) (S (j + 1) i)
theorem Ex.sem_eq (L : List Pt) (x : Ex) : ∃ S : Nat → Nat → Bool, (∀ j (h : j < x.parts.length), S j = x.parts[j].sem L) ∧ (x.kind = 1 → x.sem L = inL L x.rx0 x.ry0 x.rx1 x.ry1) ∧ (x.kind = 2 → x.sem L = fun i => decide ((L.getD i pt0).w ≥ x.wt)) ∧ (x.kind = 5 → x.sem L = fun i => !S 0 i) ∧ (x.kind = 3 → x.sem L = accS false S (x.parts.length - 1)) ∧ (x.kind = 4 → x.sem L = accS true S (x.parts.length - 1)) := by
  cases x with
  | inn a b c d => exact ⟨fun _ _ => false, fun j h => absurd h (by simp [Ex.parts]), fun _ => rfl, fun h => absurd h (by simp [Ex.kind]), fun h => absurd h (by simp [Ex.kind]), fun h => absurd h (by simp [Ex.kind]), fun h => absurd h (by simp [Ex.kind])⟩
  | hv y => exact ⟨fun _ _ => false, fun j h => absurd h (by simp [Ex.parts]), fun h => absurd h (by simp [Ex.kind]), fun _ => rfl, fun h => absurd h (by simp [Ex.kind]), fun h => absurd h (by simp [Ex.kind]), fun h => absurd h (by simp [Ex.kind])⟩
  | not p =>
    refine ⟨fun _ => p.sem L, fun j h => ?_, fun h => absurd h (by simp [Ex.kind]), fun h => absurd h (by simp [Ex.kind]), fun _ => rfl, fun h => absurd h (by simp [Ex.kind]), fun h => absurd h (by simp [Ex.kind])⟩
    have hj : j = 0 := by have h' := h; simp [Ex.parts] at h'; exact h'
    subst hj; rfl
  | two o p q =>
    refine ⟨fun j => match j with | 0 => p.sem L | _ => q.sem L, fun j h => ?_, fun h => ?_, fun h => ?_, fun h => ?_, fun h => ?_, fun h => ?_⟩
    · rcases (show j = 0 ∨ j = 1 by simp [Ex.parts] at h; omega) with rfl | rfl <;> rfl
    · cases o <;> simp [Ex.kind, Ex.ok] at h
    · cases o <;> simp [Ex.kind, Ex.ok] at h
    · cases o <;> simp [Ex.kind, Ex.ok] at h
    · cases o
      · rfl
      · simp [Ex.kind, Ex.ok] at h
    · cases o
      · simp [Ex.kind, Ex.ok] at h
      · rfl
  | three o p q r =>
    refine ⟨fun j => match j with | 0 => p.sem L | 1 => q.sem L | _ => r.sem L, fun j h => ?_, fun h => ?_, fun h => ?_, fun h => ?_, fun h => ?_, fun h => ?_⟩
    · rcases (show j = 0 ∨ j = 1 ∨ j = 2 by simp [Ex.parts] at h; omega) with rfl | rfl | rfl <;> rfl
    · cases o <;> simp [Ex.kind, Ex.ok] at h
    · cases o <;> simp [Ex.kind, Ex.ok] at h
    · cases o <;> simp [Ex.kind, Ex.ok] at h
    · cases o
      · rfl
      · simp [Ex.kind, Ex.ok] at h
    · cases o
      · simp [Ex.kind, Ex.ok] at h
      · rfl

/-- A row of bools that tells a function. -/
structure Tells (f : Nat → Bool) (n : Nat) (T : List Bool) : Prop where
  len : T.length = n
  is_ : ∀ p, p < n → T.getD p false = f p
theorem tells_start (n : Nat) : Tells (fun _ => false) n (List.replicate n false) := ⟨by simp, fun p hp => by simp [List.getD, hp]⟩
theorem Tells.congr {f g : Nat → Bool} {n : Nat} {T : List Bool} (h : Tells f n T) (hg : ∀ p, p < n → f p = g p) : Tells g n T := ⟨h.len, fun p hp => by rw [h.is_ p hp, hg p hp]⟩
theorem Tells.set {f : Nat → Bool} {n i : Nat} {T : List Bool} (h : Tells f n T) (b : Bool) (hi : i < n) : Tells (fun p => if p = i then b else f p) n (T.set i b) := by
  refine ⟨by rw [List.length_set]; exact h.len, fun p hp => ?_⟩
  have h1 := h.is_ p hp
  simp only [List.getD, List.getElem?_set] at h1 ⊢
  by_cases e : i = p
  · subst e; simp [h.len, hp]
  · rw [if_neg e, if_neg (fun e' => e e'.symm)]; exact h1
/-- The first i are told by f, the others by g. -/
def upto (i : Nat) (f g : Nat → Bool) (p : Nat) : Bool := if p < i then f p else g p
theorem upto_step {f g : Nat → Bool} {n i : Nat} {T : List Bool} (h : Tells (upto i f g) n T) (hi : i < n) : Tells (upto (i + 1) f g) n (T.set i (f i)) :=
  (h.set (f i) hi).congr fun p hp => by
    unfold upto
    by_cases e : p = i
    · subst e; simp
    · rw [if_neg e]
      by_cases e2 : p < i
      · rw [if_pos e2, if_pos (by omega)]
      · rw [if_neg e2, if_neg (by omega)]
theorem upto_zero {f g : Nat → Bool} {n : Nat} {T : List Bool} (h : Tells g n T) : Tells (upto 0 f g) n T := h.congr fun p hp => by unfold upto; rw [if_neg (by omega)]
theorem upto_all {f g : Nat → Bool} {n : Nat} {T : List Bool} (h : Tells (upto n f g) n T) : Tells f n T := h.congr fun p hp => by unfold upto; rw [if_pos hp]
theorem upto_at (f g : Nat → Bool) (i : Nat) : upto i f g i = g i := by unfold upto; rw [if_neg (by omega)]
theorem tells_cell {f : Nat → Bool} {w : World} {B g c n p : Nat} {T : List Bool} (h : Tells f n T) (ho : w.ownsRow B 4 1 (.slice (some ⟨g, 0, none⟩) n c) n (bls T)) (hp : p < n) : w.cell? ⟨g, p, none⟩ = some (.bool (f p)) := by
  have h1 := ho.cellAt p (by rw [Nat.mul_one]; exact hp)
  rw [h1]
  have h2 := h.is_ p hp
  rw [getD_at _ _ (by rw [h.len]; exact hp)] at h2
  unfold bls
  rw [List.getElem?_map, List.getElem?_eq_getElem (by rw [h.len]; exact hp), h2]; rfl
theorem tells_mark {rep : List Nat} {i n : Nat} {T : List Bool} (h : Tells (fun p => decide (p ∈ rep.take i)) n T) (hi : i < rep.length) (hp : rep.getD i 0 < n) : Tells (fun p => decide (p ∈ rep.take (i + 1))) n (T.set (rep.getD i 0) true) :=
  (h.set true hp).congr fun p hpn => by
    rw [List.take_succ_eq_append_getElem hi, ← getD_at rep 0 hi]
    by_cases e : p = rep.getD i 0
    · rw [if_pos e]; subst e; simp
    · rw [if_neg e]
      generalize rep.getD i 0 = r at e
      simp [e]
theorem tells_rep {L : List Pt} {a b c d : Int} {rep : List Nat} {n : Nat} {T : List Bool} (hr : IsRep L a b c d rep) (hn : L.length = n) (h : Tells (fun p => decide (p ∈ rep)) n T) : Tells (inL L a b c d) n T :=
  h.congr fun p hp => by
    by_cases e : p ∈ rep
    · rw [decide_eq_true e, ((hr.mem p).1 e).2]
    · rw [decide_eq_false e]
      cases hi : inL L a b c d p with
      | false => rfl
      | true => exact absurd ((hr.mem p).2 ⟨by omega, hi⟩) e

end Go.Proofs.YteeeikninigeoaaDoor
