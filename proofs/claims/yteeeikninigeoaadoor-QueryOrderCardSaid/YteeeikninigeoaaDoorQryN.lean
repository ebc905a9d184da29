/- Expressions that a law makes: their memory, and the law's own 'not'. -/
import Derived.Test.YteeeikninigeoaaDoorQryX
namespace Go.Proofs.YteeeikninigeoaaDoor
set_option linter.unusedVariables false
open Go.RowKit

/-- The cells of an expression, written out. -/
abbrev exA (k a b c d y : Int) (sa : Option Addr) (n cap : Nat) : Array Value := #[.int .i64 k, .int .i64 a, .int .i64 b, .int .i64 c, .int .i64 d, .int .i64 y, .slice sa n cap]
theorem lit_sl (w : World) (vs : List ExV) (m : Nat) (hm : vs.length = m) (hm2 : m ≤ 100) (cs : Array Value) (hc : cs.toList = flat exL vs) : SlF exL 7 (w.alloc (.cells cs 27)) (some ⟨w.heap.size, 0, none⟩) m m vs := by
  have h : cs = (flat exL vs).toArray := by rw [← hc]
  subst h
  have := own_slc (World.ownsRow_lit (base := 0) (e := 27) (size := 7) w (flat exL vs).toArray m (Nat.zero_le _) (by unfold maxLen; omega) (by rw [List.size_toArray, flat_length exL_len, hm]))
  exact this
theorem lit_two (w : World) (o : Bool) (p q : Ex) (vp vq : ExV) (hp : IsEx w p vp) (hq : IsEx w q vq) (cs : Array Value) (hc : cs.toList = exL vp ++ exL vq) :
    IsEx (w.alloc (.cells cs 27)) (.two o p q) ⟨Ex.ok o, 0, 0, 0, 0, 0, some ⟨w.heap.size, 0, none⟩, 2, 2⟩ :=
  ⟨_, _, vp, vq, rfl, lit_sl w [vp, vq] 2 rfl (by omega) cs (by rw [hc]; simp [flat]), hp.below (below_alloc (Nat.le_refl _) _), hq.below (below_alloc (Nat.le_refl _) _)⟩
theorem lit_three (w : World) (o : Bool) (p q r : Ex) (vp vq vr : ExV) (hp : IsEx w p vp) (hq : IsEx w q vq) (hr : IsEx w r vr) (cs : Array Value) (hc : cs.toList = exL vp ++ exL vq ++ exL vr) :
    IsEx (w.alloc (.cells cs 27)) (.three o p q r) ⟨Ex.ok o, 0, 0, 0, 0, 0, some ⟨w.heap.size, 0, none⟩, 3, 3⟩ :=
  ⟨_, _, vp, vq, vr, rfl, lit_sl w [vp, vq, vr] 3 rfl (by omega) cs (by rw [hc]; simp [flat]), hp.below (below_alloc (Nat.le_refl _) _), hq.below (below_alloc (Nat.le_refl _) _), hr.below (below_alloc (Nat.le_refl _) _)⟩
/-- The lengths of the texts. -/
theorem Ex.len_not (p : Ex) : (Ex.not p).txt.length ≤ p.txt.length + 3 := by
  have := Ex.wrap_len 5 p p.txt
  simp only [Ex.txt, List.length_append, List.length_cons, List.length_nil]; omega
theorem Ex.len_sep (o : Bool) : (Ex.sepT o).length = 3 := by cases o <;> rfl
theorem Ex.len_two (o : Bool) (p q : Ex) : (Ex.two o p q).txt.length ≤ p.txt.length + q.txt.length + 7 := by
  have h1 := Ex.wrap_len (Ex.ok o) p p.txt
  have h2 := Ex.wrap_len (Ex.ok o) q q.txt
  have h3 := Ex.len_sep o
  simp only [Ex.txt, List.length_append]; omega
theorem Ex.len_three (o : Bool) (p q r : Ex) : (Ex.three o p q r).txt.length ≤ p.txt.length + q.txt.length + r.txt.length + 12 := by
  have h1 := Ex.wrap_len (Ex.ok o) p p.txt
  have h2 := Ex.wrap_len (Ex.ok o) q q.txt
  have h4 := Ex.wrap_len (Ex.ok o) r r.txt
  have h3 := Ex.len_sep o
  simp only [Ex.txt, List.length_append]; omega

end Go.Proofs.YteeeikninigeoaaDoor
