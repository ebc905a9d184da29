/- Package perm at orders that may be: Inverse, Then, and the law's own 'then'. -/
import Derived.Test.YtmoicghgdcbflaaPermB
namespace Go.Proofs.Ytmoicghgdcbflaa
set_option linter.unusedVariables false
open Go.RowKit

def invK (p : List Int) : Nat → List Int
  | 0 => List.replicate p.length 0
  | k + 1 => (invK p k).set (p.getD k 0).toNat (k : Int)
theorem invK_length (p : List Int) (k : Nat) : (invK p k).length = p.length := by
  induction k with
  | zero => simp [invK]
  | succ k ih => simp [invK, ih]
def thenL (p q : List Int) : List Int := p.map fun x => q.getD x.toNat 0
theorem thenL_length (p q : List Int) : (thenL p q).length = p.length := by simp [thenL]

set_option maxHeartbeats 400000 in
theorem inverse_any (a : Option Addr) (cap : Nat) (l : List Int) (w : World) (h : SlI w a cap l) (hl : l.length ≤ 300) (hp : Order l) :
    Calls Try.prog 24 #[.slice a l.length cap] w (fun e w' => ∃ sa cap, e = .returned (.tuple #[.slice sa l.length cap, .int .i64 0]) ∧ w'.ownsRow w.heap.size 3 1 (.slice sa l.length cap) l.length (ints (invK l l.length)) ∧ Below w.heap.size w w') := by
  have H := Lib.hid h
  have HP := Lib.hid hp
  clear h hp
  obtain ⟨B, hB⟩ : ∃ B, B = w.heap.size := ⟨_, rfl⟩
  rw [← hB]
  have HB := Lib.hid hB
  clear hB
  go_enter Try.func24, Try.ntmps24
  go_wp2_with fail
  refine (check_any a cap l _ H.out hl HP.out).mono ?_
  rintro e w1 ⟨rfl, hb1⟩
  rw [← HB.out] at hb1
  have hs1 := Lib.hid hb1.size
  go_wp2_with (at_make; refine wpList_mk1 tInts rfl rfl _ _ rfl B l.length rfl rfl ?c1 (by decide) ?c2 ?c3)
  case c1 => omega
  case c2 => rw [HB.out]; exact hs1.out
  case c3 =>
    intro sa cap1 w2 hown hbel
    have hbel := hb1.trans hbel
    clear hb1
    go_wp2
    go_loopw [18] (fun i wr => ∃ (k : Nat), k ≤ l.length ∧ i = .int .i64 k ∧ wr.ownsRow B 3 1 (.slice sa l.length cap1) l.length (ints (invK l k)) ∧ Below B w wr) (fun i _ => l.length - (intOf i).toNat)
    case atStart => exact ⟨0, Nat.zero_le _, rfl, by rw [invK, ints, List.map_replicate]; exact hown, hbel⟩
    case round =>
      clear hown hbel
      obtain ⟨k, hk, rfl, hown, hbel⟩ := hrel
      have hO := Lib.hid hown
      by_cases hlt : k < l.length
      · obtain ⟨g, rfl, hg, hg2⟩ := own_some hown (by omega)
        clear hown
        obtain ⟨b, off, rfl, cl⟩ := (H.out.below (HB.out ▸ hbel)).at k hlt
        have hx := HP.out.2 l[k] (List.getElem_mem hlt)
        obtain ⟨j, hj⟩ : ∃ j : Nat, l[k] = (j : Int) := ⟨_, (Int.toNat_of_nonneg hx.1).symm⟩
        have hjl : j < l.length := by omega
        have c1 : wr.cell? ⟨g, j, none⟩ = some (.int .i64 ((invK l k).getD j 0)) := ints_cell hO.out (invK_length _ _) hjl
        have f1 : wr.frozen? ⟨g, j, none⟩ = false := hO.out.frozenAt j
        have hst : Hid ((wr.setCell ⟨g, j, none⟩ (.int .i64 k)).ownsRow B 3 1 (.slice (some ⟨g, 0, none⟩) l.length cap1) l.length (ints (invK l (k + 1)))) := by
          have := (hO.out.stored j (.int .i64 k)).1
          rw [ints_set] at this
          rw [invK, show (l.getD k 0).toNat = j by rw [List.getD_eq_getElem?_getD, List.getElem?_eq_getElem hlt, Option.getD_some, hj]; simp]
          exact this
        rw [hj] at cl
        have HJ := Lib.hid hj
        clear hj hx
        go_wp2
        go_roundw
        case rel => exact ⟨k + 1, by omega, by go_num, hst.out, hbel.setCell (p := ⟨g, j, none⟩) hg _⟩
        case measure => simp [intOf]; omega
      · obtain rfl : l.length = k := by omega
        go_wp2
        go_ret2
        exact ⟨sa, cap1, rfl, hO.out, hbel⟩

set_option maxHeartbeats 400000 in
theorem pthen_any (a b : Option Addr) (cap capb : Nat) (l m : List Int) (w : World) (h : SlI w a cap l) (h' : SlI w b capb m) (hl : l.length ≤ 300) (hlm : m.length = l.length) (hp : Order l) (hq : Order m) :
    Calls Try.prog 47 #[.slice a l.length cap, .slice b m.length capb] w (fun e w' => ∃ sa cap, e = .returned (.tuple #[.slice sa l.length cap, .int .i64 0]) ∧ w'.ownsRow w.heap.size 3 1 (.slice sa l.length cap) l.length (ints (thenL l m)) ∧ Below w.heap.size w w') := by
  have H := Lib.hid h
  have H' := Lib.hid h'
  have HP := Lib.hid hp
  have HQ := Lib.hid hq
  clear h h' hp hq
  obtain ⟨B, hB⟩ : ∃ B, B = w.heap.size := ⟨_, rfl⟩
  rw [← hB]
  have HB := Lib.hid hB
  clear hB
  have HL := Lib.hid hlm
  have hne : (((l.length : Int)) != m.length) = false := by simp [hlm]
  clear hlm
  go_enter Try.func47, Try.ntmps47
  go_wp2_with fail
  refine (check_any a cap l _ H.out hl HP.out).mono ?_
  rintro e w1 ⟨rfl, hb1⟩
  rw [← HB.out] at hb1
  have hs1 := Lib.hid hb1.size
  go_wp2_with fail
  refine (check_any b capb m _ (H'.out.below (HB.out ▸ hb1)) (by rw [HL.out]; exact hl) HQ.out).mono ?_
  rintro e w2 ⟨rfl, hb2⟩
  have hb2 := hb1.trans (hb2.mono (show B ≤ w1.heap.size by rw [HB.out]; exact hs1.out))
  clear hb1 hs1
  have hs2 := Lib.hid hb2.size
  go_wp2_with (at_make; refine wpList_mk1 tInts rfl rfl _ _ rfl B l.length rfl rfl ?c1 (by decide) ?c2 ?c3)
  case c1 => omega
  case c2 => rw [HB.out]; exact hs2.out
  case c3 =>
    intro sa cap1 w3 hown hbel
    have hbel := hb2.trans hbel
    clear hb2
    go_wp2
    go_loopw [31] (fun i wr => ∃ (k : Nat), k ≤ l.length ∧ i = .int .i64 k ∧ wr.ownsRow B 3 1 (.slice sa l.length cap1) l.length (ints (thenL (l.take k) m ++ List.replicate (l.length - k) 0)) ∧ Below B w wr) (fun i _ => l.length - (intOf i).toNat)
    case atStart => exact ⟨0, Nat.zero_le _, rfl, by simpa [thenL, ints] using hown, hbel⟩
    case round =>
      clear hown hbel
      obtain ⟨k, hk, rfl, hown, hbel⟩ := hrel
      have hO := Lib.hid hown
      by_cases hlt : k < l.length
      · obtain ⟨g, rfl, hg, hg2⟩ := own_some hown (by omega)
        clear hown
        obtain ⟨b1, off, rfl, cl⟩ := (H.out.below (HB.out ▸ hbel)).at k hlt
        have hx := HP.out.2 l[k] (List.getElem_mem hlt)
        obtain ⟨j, hj⟩ : ∃ j : Nat, l[k] = (j : Int) := ⟨_, (Int.toNat_of_nonneg hx.1).symm⟩
        have hjl : j < m.length := by rw [HL.out]; omega
        obtain ⟨b2, off2, rfl, cm⟩ := (H'.out.below (HB.out ▸ hbel)).at j hjl
        have hlen : (thenL (l.take k) m ++ List.replicate (l.length - k) 0).length = l.length := by simp [thenL]; omega
        have c1 : wr.cell? ⟨g, k, none⟩ = some (.int .i64 ((thenL (l.take k) m ++ List.replicate (l.length - k) 0).getD k 0)) := ints_cell hO.out hlen hlt
        have f1 : wr.frozen? ⟨g, k, none⟩ = false := hO.out.frozenAt k
        have hst : Hid ((wr.setCell ⟨g, k, none⟩ (.int .i64 m[j])).ownsRow B 3 1 (.slice (some ⟨g, 0, none⟩) l.length cap1) l.length (ints (thenL (l.take (k + 1)) m ++ List.replicate (l.length - (k + 1)) 0))) := by
          have := (hO.out.stored k (.int .i64 m[j])).1
          rw [ints_set] at this
          have e : (thenL (l.take k) m ++ List.replicate (l.length - k) 0).set k m[j] = thenL (l.take (k + 1)) m ++ List.replicate (l.length - (k + 1)) 0 := by
            have hk1 : (thenL (l.take k) m).length = k := by rw [thenL_length]; simp; omega
            rw [List.set_append_right (h := by omega), hk1, Nat.sub_self, show l.length - k = (l.length - (k + 1)) + 1 by omega, List.replicate_succ, List.set_cons_zero,
              List.take_succ_eq_append_getElem hlt]
            simp [thenL, hj, hjl]
          rw [e] at this
          exact this
        rw [hj] at cl
        have HJ := Lib.hid hj
        have HLn := Lib.hid hlen
        generalize (thenL (l.take k) m ++ List.replicate (l.length - k) 0).getD k 0 = y at *
        clear hj hx hlen
        go_wp2
        go_roundw
        case rel => exact ⟨k + 1, by omega, by go_num, hst.out, hbel.setCell (p := ⟨g, k, none⟩) hg _⟩
        case measure => simp [intOf]; omega
      · obtain rfl : l.length = k := by omega
        go_wp2
        go_ret2
        exact ⟨sa, cap1, rfl, by simpa using hO.out, hbel⟩

end Go.Proofs.Ytmoicghgdcbflaa
