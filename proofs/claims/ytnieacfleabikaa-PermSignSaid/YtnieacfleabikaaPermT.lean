/- Package perm: one order behind the other. -/
import Derived.Test.YtnieacfleabikaaPermD
namespace Go.Proofs.Ytnieacfleabikaa
set_option linter.unusedVariables false
open Go.RowKit

set_option maxHeartbeats 400000 in
theorem pthen_any (a b : Option Addr) (cap capb : Nat) (l m : List Int) (w : World) (h : SlI w a cap l) (h' : SlI w b capb m) (hl : l.length ≤ 300) (hlm : m.length = l.length) (hp : Order l) (hq : Order m) :
    Calls Try.prog 39 #[.slice a l.length cap, .slice b m.length capb] w (fun e w' => ∃ sa cap, e = .returned (.tuple #[.slice sa l.length cap, .int .i64 0]) ∧ w'.ownsRow w.heap.size 3 1 (.slice sa l.length cap) l.length (ints (thenL l m)) ∧ Below w.heap.size w w') := by
  have H := Lib.hid h
  have H' := Lib.hid h'
  have HP := Lib.hid hp
  have HQ := Lib.hid hq
  clear h h' hp hq
  obtain ⟨B, hB⟩ : ∃ B, B = w.heap.size := ⟨_, rfl⟩
  rw [← hB]
  have HB := Lib.hid hB
  clear hB
  have HL := Lib.hid hlm
  have hne : (((l.length : Int)) != m.length) = false := by simp [hlm]
  clear hlm
  go_enter Try.func39, Try.ntmps39
  go_wp2_with fail
  refine (check_any a cap l _ H.out hl HP.out).mono ?_
  rintro e w1 ⟨rfl, hb1⟩
  rw [← HB.out] at hb1
  have hs1 := Lib.hid hb1.size
  go_wp2_with fail
  refine (check_any b capb m _ (H'.out.below (HB.out ▸ hb1)) (by rw [HL.out]; exact hl) HQ.out).mono ?_
  rintro e w2 ⟨rfl, hb2⟩
  have hb2 := hb1.trans (hb2.mono (show B ≤ w1.heap.size by rw [HB.out]; exact hs1.out))
  clear hb1 hs1
  have hs2 := Lib.hid hb2.size
  go_wp2_with (at_make; refine wpList_mk1 tInts rfl rfl _ _ rfl B l.length rfl rfl ?c1 (by decide) ?c2 ?c3)
  case c1 => omega
  case c2 => rw [HB.out]; exact hs2.out
  case c3 =>
    intro sa cap1 w3 hown hbel
    have hbel := hb2.trans hbel
    clear hb2
    go_wp2
    go_loopw [31] (fun i wr => ∃ (k : Nat), k ≤ l.length ∧ i = .int .i64 k ∧ wr.ownsRow B 3 1 (.slice sa l.length cap1) l.length (ints (thenL (l.take k) m ++ List.replicate (l.length - k) 0)) ∧ Below B w wr) (fun i _ => l.length - (intOf i).toNat)
    case atStart => exact ⟨0, Nat.zero_le _, rfl, by simpa [thenL, ints] using hown, hbel⟩
    case round =>
      clear hown hbel
      obtain ⟨k, hk, rfl, hown, hbel⟩ := hrel
      have hO := Lib.hid hown
      by_cases hlt : k < l.length
      · obtain ⟨g, rfl, hg, hg2⟩ := own_some hown (by omega)
        clear hown
        obtain ⟨b1, off, rfl, cl⟩ := (H.out.below (HB.out ▸ hbel)).at k hlt
        have hx := HP.out.2 l[k] (List.getElem_mem hlt)
        obtain ⟨j, hj⟩ : ∃ j : Nat, l[k] = (j : Int) := ⟨_, (Int.toNat_of_nonneg hx.1).symm⟩
        have hjl : j < m.length := by rw [HL.out]; omega
        obtain ⟨b2, off2, rfl, cm⟩ := (H'.out.below (HB.out ▸ hbel)).at j hjl
        have hlen : (thenL (l.take k) m ++ List.replicate (l.length - k) 0).length = l.length := by simp [thenL]; omega
        have c1 : wr.cell? ⟨g, k, none⟩ = some (.int .i64 ((thenL (l.take k) m ++ List.replicate (l.length - k) 0).getD k 0)) := ints_cell hO.out hlen hlt
        have f1 : wr.frozen? ⟨g, k, none⟩ = false := hO.out.frozenAt k
        have hst : Hid ((wr.setCell ⟨g, k, none⟩ (.int .i64 m[j])).ownsRow B 3 1 (.slice (some ⟨g, 0, none⟩) l.length cap1) l.length (ints (thenL (l.take (k + 1)) m ++ List.replicate (l.length - (k + 1)) 0))) := by
          have := (hO.out.stored k (.int .i64 m[j])).1
          rw [ints_set] at this
          have e : (thenL (l.take k) m ++ List.replicate (l.length - k) 0).set k m[j] = thenL (l.take (k + 1)) m ++ List.replicate (l.length - (k + 1)) 0 := by
            have hk1 : (thenL (l.take k) m).length = k := by rw [thenL_length]; simp; omega
            rw [List.set_append_right (h := by omega), hk1, Nat.sub_self, show l.length - k = (l.length - (k + 1)) + 1 by omega, List.replicate_succ, List.set_cons_zero,
              List.take_succ_eq_append_getElem hlt]
            simp [thenL, hj, hjl]
          rw [e] at this
          exact this
        rw [hj] at cl
        have HJ := Lib.hid hj
        have HLn := Lib.hid hlen
        generalize (thenL (l.take k) m ++ List.replicate (l.length - k) 0).getD k 0 = y at *
        clear hj hx hlen
        go_wp2
        go_roundw
        case rel => exact ⟨k + 1, by omega, by go_num, hst.out, hbel.setCell (p := ⟨g, k, none⟩) hg _⟩
        case measure => simp [intOf]; omega
      · obtain rfl : l.length = k := by omega
        go_wp2
        go_ret2
        exact ⟨sa, cap1, rfl, by simpa using hO.out, hbel⟩

end Go.Proofs.Ytnieacfleabikaa
