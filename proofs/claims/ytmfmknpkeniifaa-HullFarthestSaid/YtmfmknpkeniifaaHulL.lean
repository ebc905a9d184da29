/- Hulls: what the laws see of one; the walks of Hull and of the laws' own 'fenced'. -/
import Derived.Test.YtmfmknpkeniifaaHulK
import Derived.Test.YtmfmknpkeniifaaClone
namespace Go.Proofs.Ytmfmknpkeniifaa
set_option linter.unusedVariables false
open Go.RowKit

/-- D: the corners of the points L, in turn. -/
structure IsHull (L D : List Pt) : Prop where
  len : 0 < D.length
  sub : ∀ i, i < D.length → D.getD i pt0 ∈ L
  thin : D.length < 3 → ∀ p ∈ L, turnP (D.getD 0 pt0) (D.getD (D.length - 1) pt0) p = 0
  hold : 3 ≤ D.length → ∀ i, i < D.length → ∀ p ∈ L, 0 ≤ turnP (D.getD i pt0) (D.getD ((i + 1) % D.length) pt0) p
  left : 3 ≤ D.length → ∀ i, i < D.length → 0 < turnP (D.getD i pt0) (D.getD ((i + 1) % D.length) pt0) (D.getD ((i + 2) % D.length) pt0)
  far : ∀ a b : Int, ∀ p ∈ L, ∃ i, i < D.length ∧ a * p.x + b * p.y ≤ a * (D.getD i pt0).x + b * (D.getD i pt0).y
theorem getD_pts (L : List Pt) (C : List Nat) (i : Nat) (h : i < C.length) : (C.map (ptAt L)).getD i pt0 = ptAt L (C.getD i 0) := by
  rw [getD_at _ _ (by rw [List.length_map]; exact h), List.getElem_map, getD_at _ _ h]
theorem turn_place {a b p q : Pt} (hx : p.x = q.x) (hy : p.y = q.y) : turnP a b p = turnP a b q := by unfold turnP; rw [hx, hy]
theorem turn_zero (a p : Pt) : turnP a a p = 0 := by unfold turnP; grind
theorem turn_swap (a b p : Pt) : turnP b a p = - turnP a b p := by unfold turnP; grind
theorem ptAt_mem {L : List Pt} {i : Nat} (h : i < L.length) : ptAt L i ∈ L := by
  unfold ptAt; rw [getD_at _ _ h]; exact List.getElem_mem _
theorem hull_of {L : List Pt} {K C : List Nat} (h : IsCorners L K C) : IsHull L (C.map (ptAt L)) := by
  have hpl : ∀ p ∈ L, ∃ x ∈ K, (ptAt L x).x = p.x ∧ (ptAt L x).y = p.y := fun p hp => by
    obtain ⟨i, hi, rfl⟩ := List.getElem_of_mem hp
    have := h.all i hi
    unfold ptAt at this ⊢
    rw [getD_at L pt0 hi] at this
    exact this
  by_cases h1 : K.length = 1
  · obtain rfl := h.one h1
    obtain ⟨k, rfl⟩ : ∃ k, C = [k] := List.length_eq_one_iff.1 h1
    refine ⟨by simp, fun i hi => ?_, fun _ p hp => ?_, fun h3 => by simp at h3, fun h3 => by simp at h3, fun a b p hp => ?_⟩
    · rw [getD_pts _ _ _ (by simpa using hi)]
      obtain rfl : i = 0 := by simpa using hi
      exact ptAt_mem (h.lt k (by simp))
    · exact turn_zero _ _
    · obtain ⟨x, hx, e1, e2⟩ := hpl p hp
      obtain rfl : x = k := by simpa using hx
      exact ⟨0, by simp, by rw [← e1, ← e2]; exact Int.le_refl _⟩
  · have h2 : 2 ≤ K.length := by have := h.pos; omega
    have hF := fence_is (g := ptAt L) K h2 h.up
    rw [← h.two h2] at hF
    have hl : (C.map (ptAt L)).length = C.length := List.length_map ..
    have hc : ∀ i, i < C.length → (C.map (ptAt L)).getD i pt0 = ptAt L (C.getD i 0) := fun i hi => getD_pts L C i hi
    have hm : ∀ i, i % C.length < C.length := fun i => Nat.mod_lt _ (by have := hF.len; omega)
    have hlen := hF.len
    refine ⟨by omega, fun i hi => ?_, fun h3 p hp => ?_, fun h3 i hi p hp => ?_, fun h3 i hi => ?_, fun a b p hp => ?_⟩
    · rw [hl] at hi
      rw [hc i hi]
      exact ptAt_mem (h.lt _ (hF.sub i hi))
    · rw [hl] at h3 ⊢
      have h2' : C.length = 2 := by omega
      rw [hc 0 (by omega), hc (C.length - 1) (by omega)]
      obtain ⟨x, hx, e1, e2⟩ := hpl p hp
      rw [← turn_place e1 e2]
      have k1 := hF.hold 0 (by omega) x hx
      have k2 := hF.hold 1 (by omega) x hx
      rw [h2'] at k1 k2 ⊢
      rw [show (0 + 1) % 2 = 1 from rfl] at k1
      rw [show (1 + 1) % 2 = 0 from rfl, turn_swap] at k2
      show turnP (ptAt L (C.getD 0 0)) (ptAt L (C.getD 1 0)) (ptAt L x) = 0
      omega
    · rw [hl] at hi h3 ⊢
      rw [hc i hi, hc _ (hm _)]
      obtain ⟨x, hx, e1, e2⟩ := hpl p hp
      rw [← turn_place e1 e2]
      exact hF.hold i hi x hx
    · rw [hl] at hi h3 ⊢
      rw [hc i hi, hc _ (hm _), hc _ (hm _)]
      exact hF.left h3 i hi
    · obtain ⟨x, hx, e1, e2⟩ := hpl p hp
      obtain ⟨i, hi, hle⟩ := hF.far a b x hx
      refine ⟨i, by rw [hl]; exact hi, ?_⟩
      rw [hc i hi, ← e1, ← e2]; exact hle
theorem corners_len {L : List Pt} {K C : List Nat} (h : IsCorners L K C) : C.length = (C.map (ptAt L)).length := (List.length_map ..).symm
theorem corners_lt {L : List Pt} {K C : List Nat} (h : IsCorners L K C) : ∀ i, i < C.length → C.getD i 0 < L.length := fun i hi => by
  by_cases h1 : K.length = 1
  · obtain rfl := h.one h1
    rw [getD_at _ _ hi]; exact h.lt _ (List.getElem_mem _)
  · have hF := fence_is (g := ptAt L) K (by have := h.pos; omega) h.up
    rw [← h.two (by have := h.pos; omega)] at hF
    exact h.lt _ (hF.sub i hi)

theorem hfault_any (a : Option Addr) (cap m : Nat) (L : List Pt) (w : World) (h : SlF ptL 3 w a (m + 1) cap L) (hn : m + 1 ≤ 150) (hN : ∀ p ∈ L, p.Near) :
    Calls Try.prog 70 #[.slice a (m + 1) cap] w fun e w' => e = .returned (.int .i64 0) ∧ Kp (Below w.heap.size w w') := by
  have C := Kp.mk (gcheck_any a cap (m + 1) L w h hn hN)
  clear h hN
  go_enter Try.func70, Try.ntmps70
  go_wp2_with fail
  refine C.out.mono ?_
  rintro e w' ⟨rfl, HB⟩
  go_wp2
  go_ret
  exact ⟨rfl, HB⟩

set_option maxHeartbeats 2000000 in
theorem hull_any (a : Option Addr) (cap m : Nat) (L : List Pt) (w : World) (h : SlF ptL 3 w a (m + 1) cap L) (hm : m + 1 ≤ 150) (hN : ∀ p ∈ L, p.Near) :
    Calls Try.prog 69 #[.slice a (m + 1) cap] w fun e w' => ∃ ra r rc K C, e = .returned (.tuple #[.slice ra r rc, .int .i64 0]) ∧ Kp (IsCorners L K C) ∧ Kp (C.length = r) ∧ r ≤ 2000 ∧ Kp (SlI w' ra rc (C.map Int.ofNat)) ∧ Kp (Below w.heap.size w w') := by
  have C1 := Kp.mk (hfault_any a cap m L w h hm hN)
  have H := Kp.mk h
  have HN := Kp.mk hN
  clear h hN
  go_enter Try.func69, Try.ntmps69
  go_wp2_with fail
  refine C1.out.mono ?_
  rintro e w1 ⟨rfl, HB1⟩
  have C2 := Kp.mk (corners_any a cap m L w1 (SlF.below H.out HB1.out) (by omega) HN.out)
  clear C1
  go_wp2_with fail
  refine C2.out.mono ?_
  rintro e w2 ⟨ra, r, rc, K, C, rfl, HC, HR, hr, HS, HB2⟩
  have C3 := Kp.mk (clone_any ra rc r (C.map Int.ofNat) w2 HS.out (by rw [List.length_map]; exact HR.out) (by omega))
  clear C2
  go_wp2_with fail
  refine C3.out.mono ?_
  rintro e w3 ⟨sa, sc, rfl, hO, hb⟩
  have HB3 := Kp.mk (below_step (below_step HB1.out HB2.out) hb)
  have HS3 := Kp.mk (show SlI w3 sa sc (C.map Int.ofNat) from hO.sl)
  clear C3 hO hb
  go_wp2
  go_ret2
  exact ⟨sa, r, sc, K, C, rfl, HC, HR, hr, HS3, HB3⟩

set_option maxRecDepth 100000 in
set_option maxHeartbeats 4000000 in
theorem fenced_any (a : Option Addr) (cap m : Nat) (L : List Pt) (w : World) (h : SlF ptL 3 w a (m + 1) cap L) (hm : m + 1 ≤ 150) (hN : ∀ p ∈ L, p.Near) :
    Calls Try.prog 39 #[.slice a (m + 1) cap] w fun e w' => ∃ ra r rc D, e = .returned (.slice ra r rc) ∧ Kp (IsHull L D) ∧ Kp (D.length = r) ∧ r ≤ 2000 ∧ Kp (SlF ptL 3 w' ra r rc D) ∧ Kp (Below w.heap.size w w') := by
  have HLL := Kp.mk (h.len ptL_len (by omega))
  have H := Kp.mk h
  have HN := Kp.mk hN
  clear h hN
  go_enter Try.func39, Try.ntmps39
  go_wp2_with (at_builtin; refine wpList_cat tPts rfl _ _ rfl w.heap.size none 0 0 [] rfl (World.ownsRow_nil _ _ _ _) _ _ _ _ rfl H.out (flat_one ptL_one L) ?c1 (by decide) (Nat.le_refl _) ?c2)
  case c1 => omega
  case c2 =>
    intro qa qc w1 hown1 hbel1
    have HQ := Kp.mk (show SlF ptL 3 w1 qa (m + 1) qc L from own_slc (by simpa using hown1))
    have HB1 := Kp.mk hbel1
    have C1 := Kp.mk (hull_any qa qc m L w1 HQ.out hm HN.out)
    clear hown1 hbel1
    go_wp2_with fail
    refine C1.out.mono ?_
    rintro e w2 ⟨ra, r, rc, K, C, rfl, HC, HR, hr, HS, HB2⟩
    have HD := Kp.mk (hull_of HC.out)
    have HB := Kp.mk (below_step HB1.out HB2.out)
    have HP := Kp.mk (SlF.below H.out HB.out)
    have HLT := Kp.mk (corners_lt HC.out)
    have hr0 : 0 < r := by have := HD.out.len; rw [List.length_map, HR.out] at this; exact this
    have hrm := hr
    have e0 : ((r : Int) == 0) = false := by rw [beq_eq_false_iff_ne]; omega
    clear C1 HQ HB1 HB2
    obtain ⟨wo, rfl⟩ : ∃ wo : World, wo = w2 := ⟨_, rfl⟩
    obtain ⟨B, hB⟩ : ∃ B, B = wo.heap.size := ⟨_, rfl⟩
    have HBE := Kp.mk hB
    clear hB
    go_wp2
    go_loopw [5, 6] (fun v i wr => ∃ (k : Nat) (fa : Option Addr) (fc : Nat), k ≤ r ∧ i = .int .i64 k ∧ v = .slice fa k fc ∧ Kp (wr.ownsRow B 26 3 (.slice fa k fc) k (flat ptL ((C.take k).map (ptAt L)))) ∧ Kp (Below B wo wr)) (fun _ i _ => r - (intOf i).toNat)
    case atStart => exact ⟨0, none, 0, Nat.zero_le _, rfl, rfl, ⟨by simpa [flat] using World.ownsRow_nil _ _ _ _⟩, ⟨Below.refl _ _⟩⟩
    case round =>
      obtain ⟨k, fa, fc, hk, rfl, rfl, HO, HBL⟩ := hrel
      have hbw : Below wo.heap.size wo wr := by rw [← HBE.out]; exact HBL.out
      by_cases hlt : k < r
      · have hck := HLT.out k (by rw [HR.out]; exact hlt)
        rw [HLL.out] at hck
        obtain ⟨rb, ro, rfl, ck⟩ := nat_cell (SlI.below HS.out hbw) HR.out k hlt
        obtain ⟨pb, po, rfl, x0, x1, x2⟩ := pt_cells (SlF.below HP.out hbw) (C.getD k 0) hck
        have HT := Kp.mk (show (C.take (k + 1)).map (ptAt L) = (C.take k).map (ptAt L) ++ [L.getD (C.getD k 0) pt0] from by
          rw [List.take_succ_eq_append_getElem (by rw [HR.out]; exact hlt), List.map_append, ← getD_at C 0 (by rw [HR.out]; exact hlt)]; rfl)
        generalize L.getD (C.getD k 0) pt0 = p at *
        generalize C.getD k 0 = c at *
        have hcz : (c : Int) < (m : Int) + 1 := by omega
        have hcz2 : ¬ (m : Int) + 1 ≤ c := by omega
        have hsr : B ≤ wr.heap.size := by rw [HBE.out]; exact hbw.size
        clear hbw
        go_wp2_with (at_builtin; refine wpList_push tPts rfl _ _ rfl B fa k fc _ rfl HO.out 1 1 _ rfl rfl ?d1 (by decide) ?d2 (by decide) hsr ?d4)
        case d1 => simp [Value.oneCell']
        case d2 => omega
        case d4 =>
          intro ya yc w4 ho4 hb4
          have HO4 := Kp.mk (show w4.ownsRow B 26 3 (.slice ya (k + 1) yc) (k + 1) (flat ptL ((C.take (k + 1)).map (ptAt L))) from by
            rw [HT.out, flat_append, List.map_take]
            have e : flat ptL [p] = [.int .i64 p.x, .int .i64 p.y, .int .i64 p.w] := by simp [flat, ptL]
            rw [e]; exact ho4)
          have HB4 := Kp.mk (HBL.out.trans hb4)
          clear ho4 hb4
          go_wp2
          go_roundw
          case rel => exact ⟨k + 1, ya, yc, by omega, by go_num, rfl, HO4, HB4⟩
          case measure => simp [intOf]; omega
      · obtain rfl : k = r := by omega
        have HBF := Kp.mk (below_step HB.out hbw)
        have HOF := Kp.mk (show SlF ptL 3 wr fa k fc (C.map (ptAt L)) from by
          have := own_slc HO.out
          rw [List.take_of_length_le (by rw [HR.out]; exact Nat.le_refl _)] at this
          exact this)
        clear hbw
        go_wp2
        go_ret
        exact ⟨fa, k, fc, _, rfl, HD, ⟨by rw [List.length_map]; exact HR.out⟩, hrm, HOF, HBF⟩

end Go.Proofs.Ytmfmknpkeniifaa
