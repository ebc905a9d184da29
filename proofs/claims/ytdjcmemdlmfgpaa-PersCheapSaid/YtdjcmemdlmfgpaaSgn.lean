/- The law's own Signed. -/
import Derived.Test.YtdjcmemdlmfgpaaNum
namespace Go.Proofs.Ytdjcmemdlmfgpaa
set_option linter.unusedVariables false
open Go.RowKit

def sgn (l : List Int) (n : Nat) (bound : Int) : List Int := (nums l n (2 * bound + 1)).map fun x => x - bound
theorem sgn_length (l : List Int) (n : Nat) (bound : Int) : (sgn l n bound).length = min n l.length := by simp [sgn, nums]
theorem sgn_bd (l : List Int) (n : Nat) (bound : Int) (h : 0 ≤ bound) : ∀ x ∈ sgn l n bound, -bound ≤ x ∧ x ≤ bound := by
  intro x hx
  obtain ⟨y, hy, rfl⟩ := List.mem_map.1 hx
  have := nums_bd l n (2 * bound + 1) (by omega) y hy
  omega
/-- The first k less b. -/
def lessB (l : List Int) (b : Int) (k : Nat) : List Int := (l.take k).map (fun x => x - b) ++ l.drop k
theorem lessB_length (l : List Int) (b : Int) (k : Nat) : (lessB l b k).length = l.length := by simp [lessB]; omega
theorem lessB_zero (l : List Int) (b : Int) : lessB l b 0 = l := by simp [lessB]
theorem lessB_end (l : List Int) (b : Int) (k : Nat) (h : k = l.length) : lessB l b k = l.map (fun x => x - b) := by subst h; simp [lessB]
theorem lessB_at (l : List Int) (b : Int) (k : Nat) (h : k < l.length) : (lessB l b k)[k]'(by rw [lessB_length]; exact h) = l[k] := by
  simp only [lessB]
  rw [List.getElem_append_right (by simp; omega)]
  simp [Nat.min_eq_left (Nat.le_of_lt h)]
theorem lessB_step (l : List Int) (b : Int) (k : Nat) (h : k < l.length) : lessB l b (k + 1) = (lessB l b k).set k (l[k] - b) := by
  unfold lessB
  rw [List.set_append_right _ _ (by simp; omega), List.take_succ_eq_append_getElem h, List.map_append]
  simp only [List.length_map, List.length_take, Nat.min_eq_left (Nat.le_of_lt h), Nat.sub_self]
  rw [List.drop_eq_getElem_cons h, List.set_cons_zero]
  simp
attribute [irreducible] lessB

set_option maxHeartbeats 1000000 in
theorem signed_any (a : Option Addr) (cap n : Nat) (bound : Int) (l : List Int) (w : World) (h : SlI w a cap l) (hl : l.length ≤ 9223372036854775807) (hn : n ≤ 1000) (h0 : 0 ≤ bound) (h1 : bound ≤ 1000000) (hw : ∀ x ∈ l, (Lit.int .i64 x).wf = true) :
    Calls Try.prog 4 #[.slice a l.length cap, .int .i64 n, .int .i64 bound] w (RetI w (sgn l n bound)) := by
  have H := Kp.mk h
  have HW := Kp.mk hw
  clear h hw
  go_enter Try.func4, Try.ntmps4
  go_wp2_with fail
  refine (numbers_any a cap n (2 * bound + 1) l w H.out hl hn (by omega) (by omega) HW.out).mono ?_
  rintro e w1 ⟨sa, sc, rfl, hown, hbel⟩
  have hlen : (nums l n (2 * bound + 1)).length ≤ 1000 := by rw [nums_length]; omega
  have hbd := Kp.mk (nums_bd l n (2 * bound + 1) (by omega))
  have hsg : Kp (sgn l n bound = (nums l n (2 * bound + 1)).map fun x => x - bound) := ⟨rfl⟩
  generalize nums l n (2 * bound + 1) = L at *
  obtain ⟨m, hm⟩ : ∃ m, m = L.length := ⟨_, rfl⟩
  have hown' : w1.ownsRow w.heap.size 3 1 (.slice sa m sc) m (ints (lessB L bound 0)) := by rw [hm, lessB_zero]; exact hown
  rw [← hm] at hlen ⊢
  have HM := Kp.mk hm
  have HB := Kp.mk hbel
  have HO := Kp.mk hown'
  have hlt := Kp.mk (own_lt hown')
  have hsz : Kp (w.heap.size ≤ w1.heap.size) := ⟨hbel.size⟩
  clear hm hown hown' hbel
  go_wp2
  go_loopw [8] (fun i wr => ∃ k : Nat, k ≤ m ∧ i = .int .i64 k ∧ wr.ownsRow w.heap.size 3 1 (.slice sa m sc) m (ints (lessB L bound k)) ∧ w1.grownBy wr (blk sa)) (fun i _ => m - (intOf i).toNat)
  case atStart => exact ⟨0, Nat.zero_le _, rfl, HO.out, grown_refl _ _⟩
  case round =>
    obtain ⟨k, hk, rfl, hown, hgr⟩ := hrel
    have HG := Kp.mk hgr
    clear hgr
    by_cases hlt2 : k < m
    · obtain ⟨g, rfl, _, _⟩ := own_some hown (by omega)
      have c1 := hown.cellAt k (by omega)
      have f1 := hown.frozenAt k
      have hkL : k < L.length := by rw [← HM.out]; exact hlt2
      have e1 : (ints (lessB L bound k))[k]? = some (.int .i64 L[k]) := by
        rw [List.getElem?_eq_getElem (by rw [ints_length, lessB_length]; exact hkL), ints_get, lessB_at L bound k hkL]
      rw [e1] at c1
      have hx := hbd.out _ (List.getElem_mem hkL)
      have hst := Kp.mk (lessB_step L bound k hkL)
      have h2 := (hown.stored k (.int .i64 (L[k] - bound))).1
      rw [ints_set, ← hst.out] at h2
      have H2 := Kp.mk h2
      clear h2 hown e1 hst
      generalize L[k]'hkL = x at *
      go_wp2
      go_roundw
      case rel => exact ⟨k + 1, by omega, by go_num, H2.out, grown_trans HG.out (grown_set _ _ _ _)⟩
      case measure => simp [intOf]; omega
    · obtain rfl : k = m := by omega
      have HO2 := Kp.mk hown
      clear hown
      go_wp2
      go_ret
      have hsl : (sgn l n bound).length = k := by rw [hsg.out, List.length_map]; exact HM.out.symm
      refine ⟨sa, sc, by rw [hsl]; rfl, ?_, ?_⟩
      · have h3 := HO2.out
        rw [lessB_end L bound k HM.out] at h3
        unfold OwnI
        rw [hsl, hsg.out]
        exact h3
      · exact HB.out.trans (below_of_grown HG.out hsz.out (fun k e => (hlt.out k e).1))

end Go.Proofs.Ytdjcmemdlmfgpaa
