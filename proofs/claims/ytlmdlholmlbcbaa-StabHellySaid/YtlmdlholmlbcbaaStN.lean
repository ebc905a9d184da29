/- Spans apart: Apart and Nails. -/
import Derived.Test.YtlmdlholmlbcbaaStA
namespace Go.Proofs.Ytlmdlholmlbcbaa
set_option linter.unusedVariables false
open Go.RowKit

/-- Where spans end. -/
def hisL (L : List Spn) (out : List Nat) : List Int := out.map fun i => (L.getD i sp0).hi
theorem hisL_nil (L : List Spn) : hisL L [] = [] := rfl
theorem hisL_snoc (L : List Spn) (out : List Nat) (i : Nat) : hisL L (out ++ [i]) = hisL L out ++ [(L.getD i sp0).hi] := by simp [hisL]
theorem hisL_length (L : List Spn) (out : List Nat) : (hisL L out).length = out.length := by simp [hisL]
theorem hisL_getD (L : List Spn) (out : List Nat) (k : Nat) (h : k < out.length) : (hisL L out).getD k 0 = (L.getD (out.getD k 0) sp0).hi := by
  rw [getD_at _ _ (by rw [hisL_length]; exact h), getD_at out 0 h]
  unfold hisL
  rw [List.getElem_map]
attribute [irreducible] hisL
attribute [local irreducible] GInv
set_option maxRecDepth 100000 in
set_option maxHeartbeats 2000000 in
theorem Apart_any (a : Option Addr) (cap n : Nat) (L : List Spn) (w : World) (h : SlF spL 2 w a n cap L) (hn : n ≤ 100) (h0 : 0 < n) (hO : ∀ p ∈ L, p.Ok) :
    Calls Try.prog 16 #[.slice a n cap] w fun e w' => ∃ ra rc m out M, e = .returned (.tuple #[.slice ra m rc, .int .i64 0]) ∧ Kp (w'.ownsRow w.heap.size 3 1 (.slice ra m rc) m (ints (out.map Int.ofNat))) ∧ Kp (M.Perm (List.range n) ∧ GInv L M n out) ∧ Below w.heap.size w w' := by
  have HS := Kp.mk h
  have HO := Kp.mk hO
  have CC := Kp.mk (scheck_any a cap n L w h hn hO)
  clear h hO
  go_enter Try.func16, Try.ntmps16
  go_wp2_with fail
  refine CC.out.mono ?_
  rintro e w1 ⟨rfl, hb1⟩
  go_wp2_with fail
  refine (apart_any a cap n L w1 (SlF.below HS.out hb1.out) hn h0 HO.out).mono ?_
  rintro e w2 ⟨ra, rc, m, out, M, rfl, HR, HM, hb2⟩
  have HB2 := Kp.mk (below_step hb1.out hb2)
  have HR2 := Kp.mk (own_base HR.out hb1.out.size)
  clear hb2 HR
  go_wp2
  go_ret2
  exact ⟨ra, rc, m, out, M, rfl, HR2, HM, HB2.out⟩

set_option maxRecDepth 100000 in
set_option maxHeartbeats 2000000 in
theorem Nails_any (a : Option Addr) (cap n : Nat) (L : List Spn) (w : World) (h : SlF spL 2 w a n cap L) (hn : n ≤ 100) (h0 : 0 < n) (hO : ∀ p ∈ L, p.Ok) :
    Calls Try.prog 17 #[.slice a n cap] w fun e w' => ∃ ra rc m out M, e = .returned (.tuple #[.slice ra m rc, .int .i64 0]) ∧ Kp (out.length = m) ∧ Kp (w'.ownsRow w.heap.size 3 1 (.slice ra m rc) m (ints (hisL L out))) ∧ Kp (M.Perm (List.range n) ∧ GInv L M n out) ∧ Below w.heap.size w w' := by
  have HS := Kp.mk h
  have HO := Kp.mk hO
  have CC := Kp.mk (scheck_any a cap n L w h hn hO)
  clear h hO
  go_enter Try.func17, Try.ntmps17
  go_wp2_with fail
  refine CC.out.mono ?_
  rintro e w1 ⟨rfl, hb1⟩
  go_wp2_with fail
  refine (apart_any a cap n L w1 (SlF.below HS.out hb1.out) hn h0 HO.out).mono ?_
  rintro e w2 ⟨sa, sc, m, out, M, rfl, HR1, HM, hb2⟩
  have HB2 := Kp.mk (below_step hb1.out hb2)
  have HS2 := Kp.mk (SlF.below HS.out HB2.out)
  have HG := HM.out.2
  unfold GInv at HG
  have hML : M.length = n := by have := HM.out.1.length_eq; rw [List.length_range] at this; exact this
  have HOn := Kp.mk (show ∀ x ∈ out, x < n from fun x hx => List.mem_range.1 (HM.out.1.mem_iff.1 (List.mem_of_mem_take (HG.1 x hx))))
  have hm0 : 0 < m := by
    have h1 := HG.2.2.1 h0
    have h2 := HR1.out.1
    rw [ints_length, List.length_map, Nat.mul_one] at h2
    omega
  have HOL := Kp.mk (show out.length = m from by
    have h2 := HR1.out.1
    rw [ints_length, List.length_map, Nat.mul_one] at h2
    exact h2)
  have hmn : m ≤ n := by
    have h1 : out.Nodup := by
      refine HG.2.1.imp_of_mem ?_
      intro x y hx hy hxy e
      subst e
      have hxn := HOn.out x hx
      have hL := HS.out.len spL_len (by omega)
      have := HO.out (L.getD x sp0) (by rw [getD_at _ _ (by omega : x < L.length)]; exact List.getElem_mem _)
      unfold Spn.Ok at this
      omega
    have h3 := List.Nodup.length_le_of_subset h1 (l₂ := List.range n) (fun x hx => List.mem_range.2 (HOn.out x hx))
    rw [List.length_range, HOL.out] at h3
    exact h3
  obtain ⟨g1, rfl, _⟩ := own_some HR1.out hm0
  have HBw := Kp.mk hb1.out.size
  clear hb2 HG CC HS hb1 hML
  obtain ⟨wo, rfl⟩ : ∃ wo : World, wo = w2 := ⟨_, rfl⟩
  have HSZ := Kp.mk HB2.out.size
  go_wp2
  go_loopw [5, 16] (fun x i wr => ∃ (k : Nat) (ra : Option Addr) (rc : Nat), k ≤ m ∧ i = .int .i64 k ∧ x = .slice ra k rc ∧ Kp (wr.ownsRow wo.heap.size 3 1 (.slice ra k rc) k (ints (hisL L (out.take k)))) ∧ Kp (Below wo.heap.size wo wr)) (fun _ i _ => m - (intOf i).toNat)
  case atStart => exact ⟨0, none, 0, Nat.zero_le _, rfl, rfl, ⟨by rw [List.take_zero, hisL_nil]; exact World.ownsRow_nil _ _ _ _⟩, ⟨Below.refl _ _⟩⟩
  case round =>
    obtain ⟨k, ra, rc, hk, rfl, rfl, HR, HB⟩ := hrel
    by_cases hlt : k < m
    · have c0 := nat_at (own_below HR1.out HB.out) HOL.out k hlt
      have hko : k < out.length := by rw [HOL.out]; exact hlt
      have hin := HOn.out (out.getD k 0) (by rw [getD_at _ _ hko]; exact List.getElem_mem _)
      have htk : out.take (k + 1) = out.take k ++ [out.getD k 0] := by rw [List.take_succ_eq_append_getElem hko, getD_at _ _ hko]
      obtain ⟨i, hi⟩ : ∃ i, out.getD k 0 = i := ⟨_, rfl⟩
      rw [hi] at c0 hin htk
      have HTK := Kp.mk htk
      obtain ⟨b, off, rfl, x0, x1⟩ := sp_at (SlF.below HS2.out HB.out) i hin
      obtain ⟨y, hy⟩ : ∃ y, (L.getD i sp0).hi = y := ⟨_, rfl⟩
      rw [hy] at x1
      have HY := Kp.mk hy
      clear hi htk hko hy
      go_wp2_with (at_builtin; refine wpList_push tInts rfl _ _ rfl wo.heap.size ra k rc _ rfl HR.out 1 1 _ rfl rfl ?d1 (by decide) ?d2 (by decide) HB.out.size ?d4)
      case d1 => simp [Value.oneCell']
      case d2 => omega
      case d4 =>
        intro ya yc w6 ho4 hb4
        have HR6 := Kp.mk (show w6.ownsRow wo.heap.size 3 1 (.slice ya (k + 1) yc) (k + 1) (ints (hisL L (out.take (k + 1)))) from by
          rw [HTK.out, hisL_snoc, HY.out, ints_append]; exact ho4)
        have HB6 := Kp.mk (HB.out.trans hb4)
        clear ho4 hb4
        go_wp2
        go_roundw
        case rel => exact ⟨k + 1, ya, yc, by omega, by go_num, rfl, HR6, HB6⟩
        case measure => simp [intOf]; omega
    · obtain rfl : k = m := by omega
      have HBE := Kp.mk (below_step HB2.out HB.out)
      have HRE := Kp.mk (own_base HR.out HSZ.out)
      rw [List.take_of_length_le (by rw [HOL.out]; exact Nat.le_refl _)] at HRE
      go_wp2
      go_ret2
      exact ⟨_, _, _, out, M, rfl, HOL, HRE, HM, HBE.out⟩

end Go.Proofs.Ytlmdlholmlbcbaa
