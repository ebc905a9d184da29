import Derived.Test.YteeeikninigeoaaGreatDoorMg25
import Derived.Test.YteeeikninigeoaaGreatDoorMg9
import Derived.Test.YteeeikninigeoaaGreatDoorMg26
import Derived.Test.YteeeikninigeoaaGreatDoorMg0
/- Plain facts on piles: a rise that is read off them, from the last pile back. -/
namespace Go.Proofs.YteeeikninigeoaaGreatDoor
set_option linter.unusedVariables false

/-- The last place of a pile that is ahead of x. -/
def cutAt (p : List Nat) (x : Nat) : Nat := p.findIdx fun y => decide (x < y)
def outR (ps : List (List Nat)) : Nat → List Nat
  | 0 => []
  | k + 1 => outR ps k ++ [if k = 0 then (ps.getD (ps.length - 1) []).getD 0 0 else (ps.getD (ps.length - 1 - k) []).getD (cutAt (ps.getD (ps.length - 1 - k) []) (tip (outR ps k)) - 1) 0]
theorem outR_length (ps : List (List Nat)) (k : Nat) : (outR ps k).length = k := by
  induction k with
  | zero => rfl
  | succ k ih => simp [outR, ih]
/-- Where it is cut. -/
theorem back_cut {l : List Int} {p : List Nat} {x : Nat} (h : Back l p x) (hp : p.Pairwise (· < ·)) :
    0 < cutAt p x ∧ cutAt p x ≤ p.length ∧ (∀ i, i < cutAt p x → ¬ x < p.getD i 0) ∧ (cutAt p x < p.length → x < p.getD (cutAt p x) 0) ∧ p.getD (cutAt p x - 1) 0 < x ∧ at0 l (p.getD (cutAt p x - 1) 0) < at0 l x ∧ p.getD (cutAt p x - 1) 0 ∈ p := by
  obtain ⟨j, hj, h1, h2, h3⟩ := h
  have hpp := List.pairwise_iff_getElem.1 hp
  have e : cutAt p x = j + 1 := by
    refine findIdx_uniq _ _ _ (by omega) (fun i hi hij => ?_) (fun h => ?_)
    · have : p[i] ≤ p[j] := by
        by_cases e : i = j
        · subst e; exact Nat.le_refl _
        · exact Nat.le_of_lt (hpp i j hi hj (by omega))
      simp; omega
    · simpa using h3 (j + 1) h (by omega)
  rw [e, Nat.add_sub_cancel, getD_at _ _ hj]
  refine ⟨by omega, by omega, fun i hi => ?_, fun h => ?_, h1, h2, List.getElem_mem hj⟩
  · rw [getD_at _ _ (by omega)]
    have : p[i] ≤ p[j] := by
      by_cases e : i = j
      · subst e; exact Nat.le_refl _
      · exact Nat.le_of_lt (hpp i j (by omega) hj (by omega))
    omega
  · rw [getD_at _ _ h]; exact h3 (j + 1) h (by omega)
structure OutI (l : List Int) (n : Nat) (ps : List (List Nat)) (k : Nat) : Prop where
  mem : 0 < k → tip (outR ps k) ∈ ps.getD (ps.length - k) []
  lt : ∀ x ∈ outR ps k, x < n
  low : ∀ x ∈ outR ps k, tip (outR ps k) ≤ x ∧ at0 l (tip (outR ps k)) ≤ at0 l x
  down : (outR ps k).Pairwise fun x y => y < x ∧ at0 l y < at0 l x
theorem OutI.all {l : List Int} {n : Nat} {ps : List (List Nat)} (h : PInv l n ps) (k : Nat) (hk : k ≤ ps.length) : OutI l n ps k := by
  induction k with
  | zero => exact ⟨fun h => by omega, by simp [outR], by simp [outR], by simp [outR]⟩
  | succ k ih =>
    have ih := ih (by omega)
    by_cases h0 : k = 0
    · subst h0
      have hp := List.getElem_mem (show ps.length - 1 < ps.length by omega)
      have hne := h.ne _ hp
      have hpos := List.length_pos_iff.2 hne
      have e : outR ps (0 + 1) = [ps[ps.length - 1][0]] := by
        simp only [outR, if_pos, List.nil_append]
        rw [getD_at _ _ (show ps.length - 1 < ps.length by omega), getD_at _ _ hpos]
      have et : tip (outR ps (0 + 1)) = ps[ps.length - 1][0] := by rw [e]; rfl
      refine ⟨fun _ => ?_, ?_, ?_, ?_⟩
      · rw [et, getD_at _ _ (show ps.length - (0 + 1) < ps.length by omega)]
        exact List.getElem_mem hpos
      · rw [e]
        intro x hx
        rw [List.mem_singleton.1 hx]
        exact h.lt _ hp _ (List.getElem_mem hpos)
      · rw [et, e]
        intro x hx
        rw [List.mem_singleton.1 hx]
        exact ⟨Nat.le_refl _, Int.le_refl _⟩
      · rw [e]; simp
    · have hq : ps.length - 1 - k < ps.length := by omega
      have hm := ih.mem (by omega)
      have hq1 : ps.length - k = ps.length - 1 - k + 1 := by omega
      rw [hq1, getD_at _ _ (by omega)] at hm
      have hb := h.back (ps.length - 1 - k) (by omega) _ hm
      have hpm := List.getElem_mem hq
      obtain ⟨_, _, _, _, h1, h2, h3⟩ := back_cut hb (h.inc _ hpm)
      have e : outR ps (k + 1) = outR ps k ++ [ps[ps.length - 1 - k].getD (cutAt ps[ps.length - 1 - k] (tip (outR ps k)) - 1) 0] := by
        rw [outR, if_neg h0, getD_at _ _ hq]
      generalize ps[ps.length - 1 - k].getD (cutAt ps[ps.length - 1 - k] (tip (outR ps k)) - 1) 0 = y at *
      have et : tip (outR ps (k + 1)) = y := by rw [e, tip_snoc]
      refine ⟨fun _ => ?_, ?_, ?_, ?_⟩
      · rw [et, show ps.length - (k + 1) = ps.length - 1 - k by omega, getD_at _ _ hq]; exact h3
      · rw [e]
        intro x hx
        rcases List.mem_append.1 hx with hx | hx
        · exact ih.lt x hx
        · rw [List.mem_singleton.1 hx]; exact h.lt _ hpm _ h3
      · rw [et, e]
        intro x hx
        rcases List.mem_append.1 hx with hx | hx
        · have := ih.low x hx; omega
        · rw [List.mem_singleton.1 hx]; exact ⟨Nat.le_refl _, Int.le_refl _⟩
      · rw [e]
        refine List.pairwise_append.2 ⟨ih.down, by simp, fun a ha b hb => ?_⟩
        rw [List.mem_singleton.1 hb]
        have := ih.low a ha
        omega
/-- What Rise tells. -/
def riseOf (l : List Int) : List Nat := (outR (pilesK l l.length) (pilesK l l.length).length).reverse
theorem riseOf_length (l : List Int) : (riseOf l).length = (pilesK l l.length).length := by rw [riseOf, List.length_reverse, outR_length]
theorem riseOf_rises (l : List Int) : Rises l (riseOf l) := by
  have h := OutI.all (piles_inv l l.length) (pilesK l l.length).length (Nat.le_refl _)
  refine ⟨fun x hx => h.lt x (List.mem_reverse.1 hx), ?_, ?_⟩
  · exact List.pairwise_reverse.2 (h.down.imp fun h => h.1)
  · exact List.pairwise_reverse.2 (h.down.imp fun h => h.2)
theorem piles_pos (l : List Int) (h : 0 < l.length) : 0 < (pilesK l l.length).length := by
  obtain ⟨p, hp, _⟩ := (piles_inv l l.length).all 0 h
  exact List.length_pos_of_mem hp

end Go.Proofs.YteeeikninigeoaaGreatDoor

/- slices.Backward on a slice of slices of int. -/
namespace Go.Proofs.YteeeikninigeoaaGreatDoor
set_option linter.unusedVariables false
open Go.RowKit
attribute [local go_sem] Oper.semAt_some

/-- What is below n0 is kept, and one box. -/
structure KpB (n0 bs : Nat) (W W' : World) : Prop where
  bel : Below n0 W W'
  box : ∀ v, W.cell? ⟨bs, 0, none⟩ = some v → W'.cell? ⟨bs, 0, none⟩ = some v
theorem KpB.refl (n0 bs : Nat) (W : World) : KpB n0 bs W W := ⟨Below.refl _ _, fun _ h => h⟩
theorem KpB.trans {n0 bs : Nat} {A B C : World} (h : KpB n0 bs A B) (k : KpB n0 bs B C) : KpB n0 bs A C := ⟨h.bel.trans k.bel, fun v e => k.box v (h.box v e)⟩
theorem KpB.put {n0 bs : Nat} {w : World} (hn : n0 ≤ w.heap.size) (W : World) (l : Nat) (o o' : Obj) (hl : w.heap.size ≤ l) (h : W.heap[l]? = some o) (ho : o.isCells = false) : KpB n0 bs W (W.putObj l o') :=
  ⟨(Below.refl n0 W).grown (grownBy_putObj' W l o') (by have := (Array.getElem?_eq_some_iff.1 h).1; omega) (fun k e => by cases e; omega), fun v e => (grownBy_putObj' W l o').cell e (fun he => by
    simp only [Option.some.injEq] at he
    simp only [World.cell?] at e
    rw [he, h] at e
    cases o <;> first | (cases ho; done) | (simp at e; done))⟩

end Go.Proofs.YteeeikninigeoaaGreatDoor

/- slices.Reverse on a slice of int of the caller's own. -/
namespace Go.Proofs.YteeeikninigeoaaGreatDoor
set_option linter.unusedVariables false
open Go.RowKit

/-- The first k and the last k exchanged. -/
def revK (l : List Int) (k : Nat) : List Int := (List.range l.length).map fun i => if i < k ∨ l.length - k ≤ i then l.getD (l.length - 1 - i) 0 else l.getD i 0
theorem revK_length (l : List Int) (k : Nat) : (revK l k).length = l.length := by simp [revK]
theorem revK_zero (l : List Int) : revK l 0 = l := by
  apply List.ext_getElem
  · simp [revK]
  · intro i h1 h2
    simp only [revK, List.getElem_map, List.getElem_range]
    rw [if_neg (by omega), getD_at _ _ h2]
theorem revK_half (l : List Int) (k : Nat) (h : l.length ≤ 2 * k + 1) : revK l k = l.reverse := by
  apply List.ext_getElem
  · simp [revK]
  · intro i h1 h2
    have hi : i < l.length := by simpa [revK] using h1
    simp only [revK, List.getElem_map, List.getElem_range, List.getElem_reverse]
    by_cases hc : i < k ∨ l.length - k ≤ i
    · rw [if_pos hc, getD_at _ _ (by omega)]
    · rw [if_neg hc, getD_at _ _ hi]
      congr 1; omega
theorem revK_at (l : List Int) (k i : Nat) (h : k ≤ i) (h2 : i + k < l.length) : (revK l k).getD i 0 = l.getD i 0 := by
  rw [getD_at _ _ (by rw [revK_length]; omega)]
  simp only [revK, List.getElem_map, List.getElem_range]
  rw [if_neg (by omega)]
theorem revK_swap (l : List Int) (k : Nat) (h : 2 * k + 1 < l.length) :
    (((revK l k).set k ((revK l k).getD (l.length - 1 - k) 0)).set (l.length - 1 - k) ((revK l k).getD k 0)) = revK l (k + 1) := by
  rw [revK_at l k k (Nat.le_refl _) (by omega), revK_at l k (l.length - 1 - k) (by omega) (by omega)]
  apply List.ext_getElem
  · simp [revK]
  · intro i h1 h2
    have hi : i < l.length := by rw [revK_length] at h2; exact h2
    rw [List.getElem_set, List.getElem_set]
    by_cases e1 : l.length - 1 - k = i
    · rw [if_pos e1]
      simp only [revK, List.getElem_map, List.getElem_range]
      rw [if_pos (by omega)]
      congr 1; omega
    · rw [if_neg e1]
      by_cases e2 : k = i
      · rw [if_pos e2]
        simp only [revK, List.getElem_map, List.getElem_range]
        rw [if_pos (by omega), e2]
      · rw [if_neg e2]
        simp only [revK, List.getElem_map, List.getElem_range]
        by_cases hc : i < k ∨ l.length - k ≤ i
        · rw [if_pos hc, if_pos (by omega)]
        · rw [if_neg hc, if_neg (by omega)]

theorem rev_cell {w : World} {B e g n cap k : Nat} {o : List Int} (h : w.ownsRow B e 1 (.slice (some ⟨g, 0, none⟩) n cap) n (ints o)) (hl : o.length = n) (hk : k < n) :
    w.cell? ⟨g, k, none⟩ = some (.int .i64 (o.getD k 0)) := by
  rw [h.cellAt k (by omega), List.getElem?_eq_getElem (by rw [ints_length]; omega), ints_get, getD_at _ _ (by omega)]
theorem rev_own {w : World} {B g n cap k q : Nat} {o : List Int} {x y : Int} (h : w.ownsRow B 3 1 (.slice (some ⟨g, 0, none⟩) n cap) n (ints o)) :
    ((w.setCell ⟨g, k, none⟩ (.int .i64 x)).setCell ⟨g, q, none⟩ (.int .i64 y)).drew.ownsRow B 3 1 (.slice (some ⟨g, 0, none⟩) n cap) n (ints ((o.set k x).set q y)) := by
  have h1 := (h.stored k (.int .i64 x)).1
  rw [ints_set] at h1
  have h2 := (h1.stored q (.int .i64 y)).1
  rw [ints_set] at h2
  exact h2
theorem rev_grown (w : World) (g k q : Nat) (x y : Value) : w.grownBy ((w.setCell ⟨g, k, none⟩ x).setCell ⟨g, q, none⟩ y).drew (some g) :=
  grown_drew (grown_trans (grown_set w g k x) (grown_set _ g q y))

set_option maxRecDepth 100000 in
set_option maxHeartbeats 1000000 in
theorem reverse_any (B : Nat) (a : Option Addr) (n cap : Nat) (l : List Int) (w : World) (h : w.ownsRow B 3 1 (.slice a n cap) n (ints l)) (hn : n ≤ 1000000) :
    Calls Tryz.prog 45 #[.slice a n cap] w (fun e w' => e = .returned (.tuple #[]) ∧ w'.ownsRow B 3 1 (.slice a n cap) n (ints l.reverse) ∧ w.grownBy w' (blk a)) := by
  have hl : l.length = n := by have := h.1; rw [ints_length, Nat.mul_one] at this; exact this
  have H := Kp.mk h
  have HL := Kp.mk hl
  clear h hl
  go_enter Tryz.func45, Tryz.ntmps45
  go_wp2
  go_loopw [2, 3] (fun i j wr => ∃ k : Nat, 2 * k ≤ n ∧ i = .int .i64 k ∧ j = .int .i64 ((n : Int) - 1 - k) ∧ wr.ownsRow B 3 1 (.slice a n cap) n (ints (revK l k)) ∧ w.grownBy wr (blk a)) (fun i _ _ => n - (intOf i).toNat)
  case atStart => exact ⟨0, Nat.zero_le _, rfl, by simp, by rw [revK_zero]; exact H.out, grown_refl _ _⟩
  case round =>
    obtain ⟨k, hk, rfl, rfl, hown, hgr⟩ := hrel
    by_cases hlt : 2 * k + 1 < n
    · have HS := Kp.mk (revK_swap l k (by rw [HL.out]; exact hlt))
      have hrl := revK_length l k
      rw [HL.out] at hrl
      obtain ⟨g, rfl, hg, hg2⟩ := own_some hown (by omega)
      obtain ⟨q, hq⟩ : ∃ q : Nat, n - 1 - k = q := ⟨_, rfl⟩
      have hqz : (n : Int) - 1 - k = q := by omega
      rw [hqz]
      have c1 := rev_cell (k := k) hown hrl (by omega)
      have c2 := rev_cell (k := q) hown hrl (by omega)
      have f1 := hown.frozenAt k
      have f2 := hown.frozenAt q
      have hO := Kp.mk hown
      have HQ := Kp.mk hqz
      rw [HL.out, hq] at HS
      have hqn : q < n := by omega
      have hkq : k < q := by omega
      clear hown hq hqz hrl
      generalize revK l k = o at *
      generalize o.getD k 0 = x at *
      generalize o.getD q 0 = y at *
      obtain ⟨v2, hv2⟩ := cell?_setCell_some (w := wr) (p := ⟨g, k, none⟩) (x := .int .i64 y) (q := ⟨g, q, none⟩) (v := .int .i64 y) c2
      go_wp2
      go_region
      go_wp2
      go_roundw
      case rel => exact ⟨k + 1, by omega, by go_num, by rw [show ((n : Int) - 1 - ((k + 1 : Nat) : Int)) = q - 1 by have := HQ.out; omega], by rw [← HS.out]; exact rev_own hO.out, grown_trans hgr (rev_grown wr g k q _ _)⟩
      case measure => simp [intOf]; omega
    · have hfin := Kp.mk (revK_half l k (by rw [HL.out]; omega))
      have hge : ¬ ((k : Int) < (n : Int) - 1 - k) := by omega
      go_wp2
      go_end0
      exact ⟨rfl, by rw [← hfin.out]; exact hown, hgr⟩

end Go.Proofs.YteeeikninigeoaaGreatDoor

