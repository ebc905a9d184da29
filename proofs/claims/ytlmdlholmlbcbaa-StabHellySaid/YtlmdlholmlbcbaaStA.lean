/- Spans apart: the walk of apart. -/
import Derived.Test.YtlmdlholmlbcbaaSmV
import Derived.Test.YtlmdlholmlbcbaaStG
namespace Go.Proofs.Ytlmdlholmlbcbaa
set_option linter.unusedVariables false
open Go.RowKit

attribute [local irreducible] GInv
set_option maxRecDepth 100000 in
set_option maxHeartbeats 4000000 in
theorem apart_any (a : Option Addr) (cap n : Nat) (L : List Spn) (w : World) (h : SlF spL 2 w a n cap L) (hn : n ≤ 100) (h0 : 0 < n) (hO : ∀ p ∈ L, p.Ok) :
    Calls Try.prog 43 #[.slice a n cap] w fun e w' => ∃ ra rc m out M, e = .returned (.slice ra m rc) ∧ Kp (w'.ownsRow w.heap.size 3 1 (.slice ra m rc) m (ints (out.map Int.ofNat))) ∧ Kp (M.Perm (List.range n) ∧ GInv L M n out) ∧ Below w.heap.size w w' := by
  have egF : ∀ args w, (callFunc 45 args).run Try.prog w = .ok (.enter 45 args) w := enters_of Try.func45 (by kernel_rfl) rfl
  have HS := Kp.mk h
  have hl := h.len spL_len (by omega)
  have HOk := Kp.mk (show ∀ i, i < n → (L.getD i sp0).lo ≤ (L.getD i sp0).hi ∧ -1048576 ≤ (L.getD i sp0).lo ∧ (L.getD i sp0).hi ≤ 1048576 from fun i hi => by
    have := hO (L.getD i sp0) (by rw [getD_at _ _ (by omega : i < L.length)]; exact List.getElem_mem _)
    unfold Spn.Ok at this
    omega)
  have CP := Kp.mk (places_any 45 Spn.hi high_any egF a cap n L w h (by omega) h0)
  clear h hO hl
  go_enter Try.func43, Try.ntmps43
  go_wp2_with fail
  refine CP.out.mono ?_
  rintro e w1 ⟨sa, sc, M, rfl, HM, HR1, hb1⟩
  obtain ⟨g1, rfl, _⟩ := own_some HR1.out h0
  have HB1 := Kp.mk hb1
  have HS1 := Kp.mk (SlF.below HS.out hb1)
  have hML : M.length = n := by have := HM.out.1.length_eq; rw [List.length_range] at this; exact this
  have HMn := Kp.mk (show ∀ k, k < n → M.getD k 0 < n from fun k hk => by
    rw [getD_at _ _ (by omega : k < M.length)]
    exact List.mem_range.1 (HM.out.1.mem_iff.1 (List.getElem_mem _)))
  have HML := Kp.mk hML
  clear hb1 CP HS hML
  obtain ⟨wo, rfl⟩ : ∃ wo : World, wo = w1 := ⟨_, rfl⟩
  go_wp2
  go_loopw [3, 9] (fun x i wr => ∃ (k m : Nat) (out : List Nat) (ra : Option Addr) (rc : Nat), k ≤ n ∧ m ≤ k ∧ i = .int .i64 k ∧ x = .slice ra m rc ∧ Kp (GInv L M k out) ∧ Kp (out.length = m) ∧ Kp (wr.ownsRow wo.heap.size 3 1 (.slice ra m rc) m (ints (out.map Int.ofNat))) ∧ Kp (Below wo.heap.size wo wr)) (fun _ i _ => n - (intOf i).toNat)
  case atStart => exact ⟨0, 0, [], none, 0, Nat.zero_le _, Nat.le_refl _, rfl, rfl, ⟨ginv_zero L M⟩, ⟨rfl⟩, ⟨World.ownsRow_nil _ _ _ _⟩, ⟨Below.refl _ _⟩⟩
  case round =>
    obtain ⟨k, m, out, ra, rc, hk, hmk, rfl, rfl, HG, HOL, HR, HB⟩ := hrel
    by_cases hlt : k < n
    · have c0 := nat_at (own_below HR1.out HB.out) HML.out k hlt
      have hin := HMn.out k hlt
      obtain ⟨i, hi⟩ : ∃ i, M.getD k 0 = i := ⟨_, rfl⟩
      rw [hi] at c0 hin
      obtain ⟨b, off, rfl, x0, x1⟩ := sp_at (SlF.below HS1.out HB.out) i hin
      have hoi := HOk.out i hin
      have HI := Kp.mk hi
      have hG := HG.out
      unfold GInv at hG
      have hkM : k < M.length := by rw [HML.out]; exact hlt
      have HU := Kp.mk (fun t (ht : t ∈ M.take k) => show (L.getD t sp0).hi ≤ (L.getD i sp0).hi from by
        obtain ⟨q, hq, e⟩ := List.getElem_of_mem ht
        rw [List.length_take] at hq
        rw [List.getElem_take] at e
        have := up_at HM.out.2 q k (by omega) hkM
        rw [getD_at M 0 (by omega : q < M.length), e, hi] at this
        exact this)
      clear hi
      by_cases hm0 : m = 0
      · subst hm0
        have hout : out = [] := List.length_eq_zero_iff.1 HOL.out
        have HG2 := Kp.mk (ginv_new hkM HI.out hoi.1 (fun x hx => by rw [hout] at hx; exact absurd hx List.not_mem_nil) HG.out)
        clear hG hout hoi hkM HU
        have k0 := later_cell c0
        go_wp2
        refine region_later (by kernel_rfl) (by kernel_rfl) ?_
        iterate 21 (go_big_quiet_step (fail))
        refine wpQuiet_nil ?_
        rintro w' ⟨xl, rfl⟩
        have HR5 := Kp.mk (own_below HR.out xl.le)
        have HB5 := Kp.mk (HB.out.trans (xl.le.mono HB.out.size))
        clear HR HB
        go_wp2_with (at_builtin; refine wpList_push tInts rfl _ _ rfl wo.heap.size ra 0 rc _ rfl HR5.out 1 1 _ rfl rfl ?d1 (by decide) ?d2 (by decide) HB5.out.size ?d4)
        case d1 => simp [Value.oneCell']
        case d2 => omega
        case d4 =>
          intro ya yc w6 ho4 hb4
          have HR6 := Kp.mk (show w6.ownsRow wo.heap.size 3 1 (.slice ya (0 + 1) yc) (0 + 1) (ints ((out ++ [i]).map Int.ofNat)) from by
            rw [List.map_append, ints_append]; exact ho4)
          have HB6 := Kp.mk (HB5.out.trans hb4)
          have HOL6 := Kp.mk (show (out ++ [i]).length = 0 + 1 by rw [List.length_append, HOL.out]; rfl)
          clear ho4 hb4
          go_wp2
          go_roundw
          case rel => exact ⟨k + 1, 0 + 1, out ++ [i], ya, yc, by omega, by omega, by go_num, rfl, HG2, HOL6, HR6, HB6⟩
          case measure => simp [intOf]; omega
      · obtain ⟨j, rfl⟩ : ∃ j, m = j + 1 := ⟨m - 1, by omega⟩
        obtain ⟨g, rfl, hg, _⟩ := own_some HR.out (by omega)
        have c2 := nat_at HR.out HOL.out j (by omega)
        have htm : out.getD j 0 ∈ out := by rw [getD_at _ _ (by have := HOL.out; omega)]; exact List.getElem_mem _
        have hOut : ∀ x ∈ out, x < n := fun x hx => List.mem_range.1 (HM.out.1.mem_iff.1 (List.mem_of_mem_take (hG.1 x hx)))
        have hlast := ginv_last (fun x hx => (HOk.out x (hOut x hx)).1) HG.out HOL.out
        obtain ⟨t, ht⟩ : ∃ t, out.getD j 0 = t := ⟨_, rfl⟩
        rw [ht] at c2 htm hlast
        have htn := hOut t htm
        obtain ⟨_, _, e1, y0, y1⟩ := sp_at (SlF.below HS1.out HB.out) t htn
        simp only [Option.some.injEq, Addr.mk.injEq, and_true] at e1
        obtain ⟨rfl, rfl⟩ := e1
        have hut := HU.out t (hG.1 t htm)
        have HNEW := Kp.mk (fun (q : (L.getD t sp0).hi < (L.getD i sp0).lo) => ginv_new hkM HI.out hoi.1 (fun x hx => by have := hlast x hx; omega) HG.out)
        have HOLD := Kp.mk (fun (q : ¬ (L.getD t sp0).hi < (L.getD i sp0).lo) => ginv_old hkM HI.out htm (by omega) hut HG.out)
        clear hG hOut hlast htm ht hut hoi hkM HU hm0
        generalize L.getD i sp0 = si at *
        generalize L.getD t sp0 = tt at *
        have e2 : IntKind.i64.wrap (((j + 1 : Nat) : Int) - 1) = (j : Nat) := by rw [IntWalk.i64_in _ (by omega)]; omega
        have e3 : IntKind.i64.wrap ((j : Int) + 1 - 1) = (j : Nat) := by rw [IntWalk.i64_in _ (by omega)]; omega
        have z1 : ((((j + 1 : Nat) : Int)) == 0) = false := by rw [beq_eq_false_iff_ne]; omega
        have z2 : (((j : Int) + 1) == 0) = false := by rw [beq_eq_false_iff_ne]; omega
        have z3 : decide ((j : Int) + 1 = 0) = false := decide_eq_false (by omega)
        have z4 : decide ((((j + 1 : Nat) : Int)) = 0) = false := decide_eq_false (by omega)
        have k0 := later_cell c0
        have k1 := later_cell x0
        have k2 := later_cell c2
        have k3 := later_cell y1
        by_cases hnew : tt.hi < si.lo
        · have t1 : decide (si.lo > tt.hi) = true := decide_eq_true hnew
          have HG2 := Kp.mk (HNEW.out hnew)
          clear hnew HNEW HOLD
          go_wp2
          refine region_later (by kernel_rfl) (by kernel_rfl) ?_
          iterate 21 (go_big_quiet_step (fail))
          refine wpQuiet_nil ?_
          rintro w' ⟨xl, rfl⟩
          have HR5 := Kp.mk (own_below HR.out xl.le)
          have HB5 := Kp.mk (HB.out.trans (xl.le.mono HB.out.size))
          clear HR HB
          go_wp2_with (at_builtin; refine wpList_push tInts rfl _ _ rfl wo.heap.size _ (j + 1) rc _ rfl HR5.out 1 1 _ rfl rfl ?d1 (by decide) ?d2 (by decide) HB5.out.size ?d4)
          case d1 => simp [Value.oneCell']
          case d2 => omega
          case d4 =>
            intro ya yc w6 ho4 hb4
            have HR6 := Kp.mk (show w6.ownsRow wo.heap.size 3 1 (.slice ya (j + 1 + 1) yc) (j + 1 + 1) (ints ((out ++ [i]).map Int.ofNat)) from by
              rw [List.map_append, ints_append]; exact ho4)
            have HB6 := Kp.mk (HB5.out.trans hb4)
            have HOL6 := Kp.mk (show (out ++ [i]).length = j + 1 + 1 by rw [List.length_append, HOL.out]; rfl)
            clear ho4 hb4
            go_wp2
            go_roundw
            case rel => exact ⟨k + 1, j + 1 + 1, out ++ [i], ya, yc, by omega, by omega, by go_num, rfl, HG2, HOL6, HR6, HB6⟩
            case measure => simp [intOf]; omega
        · have t1 : decide (si.lo > tt.hi) = false := decide_eq_false hnew
          have HG2 := Kp.mk (HOLD.out hnew)
          clear hnew HNEW HOLD
          go_wp2
          refine region_later (by kernel_rfl) (by kernel_rfl) ?_
          iterate 21 (go_big_quiet_step (fail))
          refine wpQuiet_nil ?_
          rintro w' ⟨xl, rfl⟩
          have HR5 := Kp.mk (own_below HR.out xl.le)
          have HB5 := Kp.mk (HB.out.trans (xl.le.mono HB.out.size))
          clear HR HB
          go_wp2
          go_roundw
          case rel => exact ⟨k + 1, j + 1, out, _, rc, by omega, by omega, by go_num, rfl, HG2, HOL, HR5, HB5⟩
          case measure => simp [intOf]; omega
    · obtain rfl : k = n := by omega
      have HBE := Kp.mk (below_step HB1.out HB.out)
      have HRE := Kp.mk (own_base HR.out HB1.out.size)
      go_wp2
      go_ret
      exact ⟨_, _, _, out, M, rfl, HRE, ⟨HM.out.1, HG.out⟩, HBE.out⟩

end Go.Proofs.Ytlmdlholmlbcbaa
