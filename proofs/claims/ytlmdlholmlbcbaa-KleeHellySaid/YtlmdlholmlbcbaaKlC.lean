/- klee.Cross: the walk. -/
import Derived.Test.YtlmdlholmlbcbaaKlR
import Derived.Test.YtlmdlholmlbcbaaKlU
import Derived.Test.YtlmdlholmlbcbaaTwo
namespace Go.Proofs.Ytlmdlholmlbcbaa
set_option linter.unusedVariables false
open Go.RowKit
open Pick (Rc meetR okR)

abbrev rc0 : Rc := ⟨0, 0, 0, 0⟩
/-- How many pairs there are whose first is below k. -/
def crossT (n : Nat) : Nat → Nat
  | 0 => 0
  | k + 1 => crossT n k + (n - 1 - k)
theorem crossT_le (n : Nat) : ∀ k, crossT n k ≤ k * n
  | 0 => by simp [crossT]
  | k + 1 => by
    have := crossT_le n k
    rw [crossT, Nat.succ_mul]; omega
theorem crossT_all (n : Nat) : ∀ k, k ≤ n → 2 * crossT n k + k * k + k = 2 * (k * n)
  | 0, _ => by simp [crossT]
  | k + 1, h => by
    have := crossT_all n k (by omega)
    simp only [crossT, Nat.add_mul, Nat.mul_add, Nat.one_mul, Nat.mul_one] at *
    omega
def meets (L : List Rc) (i j : Nat) : Prop := okR (meetR (L.getD i rc0) (L.getD j rc0))
structure CrossI (L : List Rc) (n k j r d : Nat) : Prop where
  sum : r + d = crossT n k + (j - (k + 1))
  all : d = 0 ↔ (∀ p q, p < k → p < q → q < n → meets L p q) ∧ ∀ q, k < q → q < j → meets L k q
theorem cross_start (L : List Rc) (n : Nat) : CrossI L n 0 1 0 0 := ⟨by simp [crossT], ⟨fun _ => ⟨fun p q h => by omega, fun q h1 h2 => by omega⟩, fun _ => rfl⟩⟩
theorem cross_yes {L : List Rc} {n k j r d : Nat} (h : CrossI L n k j r d) (hj : k < j) (hm : meets L k j) : CrossI L n k (j + 1) (r + 1) d :=
  ⟨by have := h.sum; omega, h.all.trans ⟨fun h2 => ⟨h2.1, fun q h3 h4 => by
    by_cases e : q = j
    · rw [e]; exact hm
    · exact h2.2 q h3 (by omega)⟩, fun h2 => ⟨h2.1, fun q h3 h4 => h2.2 q h3 (by omega)⟩⟩⟩
theorem cross_no {L : List Rc} {n k j r d : Nat} (h : CrossI L n k j r d) (hj : k < j) (hm : ¬ meets L k j) : CrossI L n k (j + 1) r (d + 1) :=
  ⟨by have := h.sum; omega, ⟨fun h2 => by omega, fun h2 => absurd (h2.2 j hj (by omega)) hm⟩⟩
theorem cross_next {L : List Rc} {n k r d : Nat} (h : CrossI L n k n r d) (hk : k < n) : CrossI L n (k + 1) (k + 2) r d :=
  ⟨by have := h.sum; rw [crossT]; omega, h.all.trans ⟨fun h2 => ⟨fun p q h3 h4 h5 => by
    by_cases e : p = k
    · rw [e] at h4 ⊢; exact h2.2 q h4 h5
    · exact h2.1 p q (by omega) h4 h5, fun q h3 h4 => by omega⟩, fun h2 => ⟨fun p q h3 h4 h5 => h2.1 p q (by omega) h4 h5, fun q h3 h4 => h2.1 k q (by omega) h3 h4⟩⟩⟩

theorem info_pair : (Try.prog.info? 54).map (fun i => (i.zero, i.size, i.bytes)) = some (some (.agg #[.int .i64 0, .int .i64 0]), 2, 16) := by kernel_rfl
theorem tPairs : ElemTy Try.prog 70 54 2 16 (.agg #[.int .i64 0, .int .i64 0]) :=
  ⟨Try.underlying70, by obtain ⟨i0, hi, h0, h1, h2⟩ := info_parts info_pair; exact ⟨i0, hi, h0, h1, h2⟩, rfl, by decide⟩

attribute [local irreducible] crossT meets
set_option maxRecDepth 100000 in
set_option maxHeartbeats 4000000 in
theorem cross_any (a : Option Addr) (cap n : Nat) (L : List Rc) (w : World) (h : SlF rcL 4 w a n cap L) (hn : n ≤ 40) (ok : ∀ r ∈ L, RcOk r) :
    Calls Try.prog 35 #[.slice a n cap] w fun e w' => ∃ oa oc r d, e = .returned (.tuple #[.slice oa r oc, .int .i64 0]) ∧ Kp (CrossI L n n (n + 1) r d) ∧ Below w.heap.size w w' := by
  have HML := Kp.mk (h.len rcL_len (by omega))
  have HOK := Kp.mk ok
  have C1 := Kp.mk (kcheck_any a cap n L w h hn ok)
  have H := Kp.mk h
  clear h ok
  go_enter Try.func35, Try.ntmps35
  go_wp2_with fail
  refine C1.out.mono ?_
  rintro e w1 ⟨rfl, HB1⟩
  have H1 := Kp.mk (SlF.below H.out HB1.out)
  clear C1 H
  go_wp2
  go_loopw [5, 17] (fun v i wr => ∃ (k r d : Nat) (oa : Option Addr) (oc : Nat) (xs : List Value), k ≤ n ∧ i = .int .i64 k ∧ v = .slice oa r oc ∧ r ≤ 1700 ∧ Kp (CrossI L n k (k + 1) r d) ∧ Kp (wr.ownsRow w1.heap.size 54 2 (.slice oa r oc) r xs) ∧ Kp (Below w1.heap.size w1 wr)) (fun _ i _ => n - (intOf i).toNat)
  case atStart => exact ⟨0, 0, 0, none, 0, [], Nat.zero_le _, rfl, rfl, by omega, ⟨cross_start L n⟩, ⟨World.ownsRow_nil _ _ _ _⟩, ⟨Below.refl _ _⟩⟩
  case round =>
    obtain ⟨k, r, d, oa, oc, xs, hk, rfl, rfl, hr, HC, HO, HBL⟩ := hrel
    by_cases hlt : k < n
    · obtain ⟨b, off, rfl, hbw, co⟩ := H1.out.at rcL_len (by omega) k (by rw [HML.out]; exact hlt)
      have HPK := Kp.mk (show L.getD k rc0 = L[k]'(by rw [HML.out]; exact hlt) from getD_at _ _ _)
      rw [← HPK.out] at co
      obtain ⟨p, hp⟩ : ∃ p, L.getD k rc0 = p := ⟨_, rfl⟩
      have HPV := Kp.mk hp
      rw [hp] at co
      have o0 : wr.cell? ⟨b, off + k * 4, none⟩ = some (.int .i64 p.x0) := (HBL.out.cell (p := ⟨b, off + k * 4, none⟩) hbw).trans (co 0 (by omega))
      have o1 : wr.cell? ⟨b, off + k * 4 + 1, none⟩ = some (.int .i64 p.y0) := (HBL.out.cell (p := ⟨b, off + k * 4 + 1, none⟩) hbw).trans (co 1 (by omega))
      have o2 : wr.cell? ⟨b, off + k * 4 + 2, none⟩ = some (.int .i64 p.x1) := (HBL.out.cell (p := ⟨b, off + k * 4 + 2, none⟩) hbw).trans (co 2 (by omega))
      have o3 : wr.cell? ⟨b, off + k * 4 + 3, none⟩ = some (.int .i64 p.y1) := (HBL.out.cell (p := ⟨b, off + k * 4 + 3, none⟩) hbw).trans (co 3 (by omega))
      have hal := below_alloc (Nat.le_refl wr.heap.size) (.cells #[.int .i64 p.x0, .int .i64 p.y0, .int .i64 p.x1, .int .i64 p.y1] 65)
      have HX7 := Kp.mk (Box.new wr #[.int .i64 p.x0, .int .i64 p.y0, .int .i64 p.x1, .int .i64 p.y1] 65)
      have HO7 := Kp.mk (own_below HO.out hal)
      have HB7 := Kp.mk (HBL.out.trans (hal.mono HBL.out.size))
      obtain ⟨b7, hb7⟩ : ∃ b7, wr.heap.size = b7 := ⟨_, rfl⟩
      obtain ⟨w7, hw7⟩ : ∃ w7, wr.alloc (.cells #[.int .i64 p.x0, .int .i64 p.y0, .int .i64 p.x1, .int .i64 p.y1] 65) = w7 := ⟨_, rfl⟩
      rw [hb7, hw7] at HX7
      rw [hw7] at HO7 HB7
      have HTL := Kp.mk (crossT_le n k)
      have hkn : k * n ≤ 1600 := by
        have := Nat.mul_le_mul (show k ≤ 40 by omega) hn
        omega
      have hkz : (k : Int) < n := by omega
      have e1 : IntKind.i64.wrap ((k : Int) + 1) = (k : Int) + 1 := IntWalk.i64_in _ (by omega)
      clear co hal hp HO HBL
      go_wp2
      clear hb7 hw7 o0 o1 o2 o3
      go_loopw [5, 8] (fun v5 v8 wr => ∃ (j r' d' : Nat) (oa' : Option Addr) (oc' : Nat) (xs' : List Value), k < j ∧ j ≤ n ∧ v8 = .int .i64 j ∧ v5 = .slice oa' r' oc' ∧ Kp (CrossI L n k j r' d') ∧ Kp (wr.ownsRow w1.heap.size 54 2 (.slice oa' r' oc') r' xs') ∧ Kp (Box wr b7 #[.int .i64 p.x0, .int .i64 p.y0, .int .i64 p.x1, .int .i64 p.y1] 65) ∧ Kp (Below w1.heap.size w1 wr)) (fun _ v8 _ => n - (intOf v8).toNat)
      case atStart => exact ⟨k + 1, r, d, oa, oc, xs, by omega, by omega, by go_num, rfl, HC, HO7, HX7, HB7⟩
      case round =>
        clear HC HO7 HX7 HB7
        obtain ⟨j, r', d', oa', oc', xs', hkj, hjn, rfl, rfl, HC, HO, HX, HBL⟩ := hrel
        have hr' : r' ≤ 1700 := by
          have h1 := HC.out.sum
          have h2 := HTL.out
          omega
        by_cases hj : j < n
        · obtain ⟨_, _, e2, _, co⟩ := H1.out.at rcL_len (by omega) j (by rw [HML.out]; exact hj)
          simp only [Option.some.injEq, Addr.mk.injEq, and_true] at e2
          obtain ⟨rfl, rfl⟩ := e2
          rw [← getD_at L rc0 (by rw [HML.out]; exact hj)] at co
          have HMT := Kp.mk (show meets L k j ↔ okR (meetR p (L.getD j rc0)) by unfold meets; rw [HPV.out])
          obtain ⟨s, hs⟩ : ∃ s, L.getD j rc0 = s := ⟨_, rfl⟩
          rw [hs] at co HMT
          have o0 : wr.cell? ⟨b, off + j * 4, none⟩ = some (.int .i64 s.x0) := (HBL.out.cell (p := ⟨b, off + j * 4, none⟩) hbw).trans (co 0 (by omega))
          have o1 : wr.cell? ⟨b, off + j * 4 + 1, none⟩ = some (.int .i64 s.y0) := (HBL.out.cell (p := ⟨b, off + j * 4 + 1, none⟩) hbw).trans (co 1 (by omega))
          have o2 : wr.cell? ⟨b, off + j * 4 + 2, none⟩ = some (.int .i64 s.x1) := (HBL.out.cell (p := ⟨b, off + j * 4 + 2, none⟩) hbw).trans (co 2 (by omega))
          have o3 : wr.cell? ⟨b, off + j * 4 + 3, none⟩ = some (.int .i64 s.y1) := (HBL.out.cell (p := ⟨b, off + j * 4 + 3, none⟩) hbw).trans (co 3 (by omega))
          have hal := below_alloc (Nat.le_refl wr.heap.size) (.cells #[.int .i64 s.x0, .int .i64 s.y0, .int .i64 s.x1, .int .i64 s.y1] 65)
          have hx9 := Box.new wr #[.int .i64 s.x0, .int .i64 s.y0, .int .i64 s.x1, .int .i64 s.y1] 65
          have HX9 := Kp.mk (HX.out.below hal)
          have HO9 := Kp.mk (own_below HO.out hal)
          have HB9 := Kp.mk (HBL.out.trans (hal.mono HBL.out.size))
          obtain ⟨b9, hb9⟩ : ∃ b9, wr.heap.size = b9 := ⟨_, rfl⟩
          obtain ⟨w9, hw9⟩ : ∃ w9, wr.alloc (.cells #[.int .i64 s.x0, .int .i64 s.y0, .int .i64 s.x1, .int .i64 s.y1] 65) = w9 := ⟨_, rfl⟩
          rw [hb9, hw9] at hx9
          rw [hw9] at HX9 HO9 HB9
          have p0 : w9.cell? ⟨b7, 0, none⟩ = some (.int .i64 p.x0) := HX9.out.cell 0 rfl
          have p1 : w9.cell? ⟨b7, 1, none⟩ = some (.int .i64 p.y0) := HX9.out.cell 1 rfl
          have p2 : w9.cell? ⟨b7, 2, none⟩ = some (.int .i64 p.x1) := HX9.out.cell 2 rfl
          have p3 : w9.cell? ⟨b7, 3, none⟩ = some (.int .i64 p.y1) := HX9.out.cell 3 rfl
          have s0 : w9.cell? ⟨b9, 0, none⟩ = some (.int .i64 s.x0) := hx9.cell 0 rfl
          have s1 : w9.cell? ⟨b9, 1, none⟩ = some (.int .i64 s.y0) := hx9.cell 1 rfl
          have s2 : w9.cell? ⟨b9, 2, none⟩ = some (.int .i64 s.x1) := hx9.cell 2 rfl
          have s3 : w9.cell? ⟨b9, 3, none⟩ = some (.int .i64 s.y1) := hx9.cell 3 rfl
          obtain ⟨m0, h0⟩ : ∃ z, (if p.x0 < s.x0 then s.x0 else p.x0) = z := ⟨_, rfl⟩
          obtain ⟨m1, h1⟩ : ∃ z, (if p.y0 < s.y0 then s.y0 else p.y0) = z := ⟨_, rfl⟩
          obtain ⟨m2, h2⟩ : ∃ z, (if s.x1 < p.x1 then s.x1 else p.x1) = z := ⟨_, rfl⟩
          obtain ⟨m3, h3⟩ : ∃ z, (if s.y1 < p.y1 then s.y1 else p.y1) = z := ⟨_, rfl⟩
          have HOK2 := Kp.mk (show meets L k j ↔ (m0 ≤ m2 ∧ m1 ≤ m3) from by
            rw [HMT.out]
            unfold okR meetR
            dsimp only
            rw [← h0, ← h1, ← h2, ← h3]
            have e0 : max p.x0 s.x0 = if p.x0 < s.x0 then s.x0 else p.x0 := by split <;> omega
            have e1 : max p.y0 s.y0 = if p.y0 < s.y0 then s.y0 else p.y0 := by split <;> omega
            have e2 : min p.x1 s.x1 = if s.x1 < p.x1 then s.x1 else p.x1 := by split <;> omega
            have e3 : min p.y1 s.y1 = if s.y1 < p.y1 then s.y1 else p.y1 := by split <;> omega
            rw [e0, e1, e2, e3])
          have hjz : (j : Int) < n := by omega
          have e3 : IntKind.i64.wrap ((j : Int) + 1) = (j : Int) + 1 := IntWalk.i64_in _ (by omega)
          have hjo : ((j + 1 : Nat) : Int) = (j : Int) + 1 := by omega
          have HJO := Kp.mk hjo
          have hB9 : w1.heap.size ≤ w9.heap.size := HB9.out.size
          clear co hal hx9 hs HO HX HBL HMT hjo
          by_cases hx : m0 ≤ m2
          · have t0 : decide (m0 ≤ m2) = true := decide_eq_true hx
            by_cases hy : m1 ≤ m3
            · have t1 : decide (m1 ≤ m3) = true := decide_eq_true hy
              have HC2 := Kp.mk (cross_yes HC.out hkj (HOK2.out.2 ⟨hx, hy⟩))
              go_wp2_with (at_builtin; refine wpList_pushS tPairs rfl _ _ rfl w1.heap.size oa' r' oc' _ rfl HO9.out 1 _ rfl rfl ?d1 ?d2 (by decide) hB9 ?d3)
              case d1 => simp [Value.oneCell']
              case d2 => omega
              case d3 =>
                intro oa2 oc2 w2 hown hg hno
                have HO2 := Kp.mk hown
                have HX2 := Kp.mk (box_grow HX9.out hg (row_box HO9.out HX9.out (by decide)))
                have HB2 := Kp.mk (HB9.out.trans (below_of_grown hg hB9 (fun q hq => (own_lt HO9.out q hq).1)))
                clear hown hg hno HO9 HX9 HB9 HC hb9 hw9 h0 h1 h2 h3
                go_wp2
                go_roundw
                case rel => exact ⟨j + 1, r' + 1, d', oa2, oc2, _, by omega, by omega, by go_num, rfl, HC2, HO2, HX2, HB2⟩
                case measure => simp [intOf]; omega
            · have t1 : decide (m1 ≤ m3) = false := decide_eq_false hy
              have HC2 := Kp.mk (cross_no HC.out hkj (fun h => hy (HOK2.out.1 h).2))
              go_wp2
              clear hb9 hw9 h0 h1 h2 h3
              go_roundw
              case rel => exact ⟨j + 1, r', d' + 1, oa', oc', _, by omega, by omega, by go_num, rfl, HC2, HO9, HX9, HB9⟩
              case measure => simp [intOf]; omega
          · have t0 : decide (m0 ≤ m2) = false := decide_eq_false hx
            have HC2 := Kp.mk (cross_no HC.out hkj (fun h => hx (HOK2.out.1 h).1))
            go_wp2
            clear hb9 hw9 h0 h1 h2 h3
            go_roundw
            case rel => exact ⟨j + 1, r', d' + 1, oa', oc', _, by omega, by omega, by go_num, rfl, HC2, HO9, HX9, HB9⟩
            case measure => simp [intOf]; omega
        · obtain rfl : j = n := by omega
          have HC2 := Kp.mk (cross_next HC.out hlt)
          go_wp2
          go_roundw
          case rel => exact ⟨k + 1, r', d', oa', oc', xs', by omega, by go_num, rfl, by have h1 := HC.out.sum; have h2 := HTL.out; omega, HC2, HO, HBL⟩
          case measure => simp [intOf]; omega
    · obtain rfl : k = n := by omega
      have HBW := Kp.mk (below_step HB1.out HBL.out)
      clear HO HBL
      go_wp2
      exact bodyPost_ret (v := .tuple #[.slice oa r oc, .int .i64 0]) (by simp [results, Try.results35, go_sem]) rfl ⟨oa, oc, r, d, rfl, HC, HBW.out⟩

end Go.Proofs.Ytlmdlholmlbcbaa
