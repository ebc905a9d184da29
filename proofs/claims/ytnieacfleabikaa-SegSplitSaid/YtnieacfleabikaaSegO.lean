/- The laws' own Ops: operations out of raw works. -/
import Derived.Test.YtnieacfleabikaaSegY
import Derived.Test.YtnieacfleabikaaSgn
import Derived.StillTailTactics
namespace Go.Proofs.Ytnieacfleabikaa
set_option linter.unusedVariables false
open Go.RowKit

/-- A work: kind, a, b, by. -/
structure Wk where
  kind : Int
  a : Int
  b : Int
  amt : Int
def wkL (x : Wk) : List Value := [.int .i64 x.kind, .int .i64 x.a, .int .i64 x.b, .int .i64 x.amt]
theorem wkL_len (x : Wk) : (wkL x).length = 4 := rfl
structure Wk.Wf (x : Wk) : Prop where
  k : (Lit.int .i64 x.kind).wf = true
  a : (Lit.int .i64 x.a).wf = true
  b : (Lit.int .i64 x.b).wf = true
  y : (Lit.int .i64 x.amt).wf = true
/-- The operation of a work, on p places. -/
def opOf (p : Nat) (x : Wk) : SOp := ⟨1 + (pick x.kind 4).toNat, (pick x.a p).toNat, (pick x.a p).toNat + (pick x.b ((p : Int) - pick x.a p)).toNat, pick x.amt 2001 - 1000⟩
theorem opOf_ok (p : Nat) (x : Wk) (hp : 0 < p) : (opOf p x).Ok p := by
  have h1 := pick_bd x.kind 4 (by omega)
  have h2 := pick_bd x.a p (by omega)
  have h3 := pick_bd x.b ((p : Int) - pick x.a p) (by omega)
  have h4 := pick_bd x.amt 2001 (by omega)
  refine ⟨?_, ?_, ?_, ?_, ?_, ?_⟩ <;> simp only [opOf] <;> omega
def opsOf (L : List Wk) (n p : Nat) : List SOp := (L.take n).map (opOf p)
theorem opsOf_length (L : List Wk) (n p : Nat) : (opsOf L n p).length = min n L.length := by simp [opsOf]
theorem opsOf_ok (L : List Wk) (n p : Nat) (hp : 0 < p) : ∀ o ∈ opsOf L n p, o.Ok p := by
  intro o ho
  obtain ⟨x, _, rfl⟩ := List.mem_map.1 ho
  exact opOf_ok p x hp
theorem opsOf_succ (L : List Wk) (k p : Nat) (h : k < L.length) : opsOf L (k + 1) p = opsOf L k p ++ [opOf p L[k]] := by
  rw [opsOf, List.take_succ_eq_append_getElem h, List.map_append]; rfl
theorem info_op : (Try.prog.info? 61).map (fun i => (i.zero, i.size, i.bytes)) = some (some (.agg #[.int .i64 0, .int .i64 0, .int .i64 0, .int .i64 0]), 4, 32) := by kernel_rfl
theorem tOps : ElemTy Try.prog 55 61 4 32 (.agg #[.int .i64 0, .int .i64 0, .int .i64 0, .int .i64 0]) :=
  ⟨Try.underlying55, by obtain ⟨i0, hi, h0, h1, h2⟩ := info_parts info_op; exact ⟨i0, hi, h0, h1, h2⟩, rfl, by decide⟩
attribute [irreducible] opsOf

set_option maxRecDepth 100000 in
set_option maxHeartbeats 2000000 in
theorem ops_any (a : Option Addr) (cap m n p : Nat) (L : List Wk) (w : World) (h : SlF wkL 4 w a m cap L) (hm : m ≤ 9223372036854775807) (hn : n ≤ 1000) (hp : 0 < p) (hp2 : p ≤ 1000) (hw : ∀ x ∈ L, x.Wf) :
    Calls Try.prog 29 #[.slice a m cap, .int .i64 n, .int .i64 p] w (fun e w' => ∃ oa oc r, e = .returned (.slice oa r oc) ∧ Kp ((opsOf L n p).length = r) ∧ Kp (w'.ownsRow w.heap.size 61 4 (.slice oa r oc) r (flat opL (opsOf L n p))) ∧ Below w.heap.size w w') := by
  have hml : L.length = m := h.len wkL_len (by omega)
  have H := Kp.mk h
  have HW := Kp.mk hw
  have HML := Kp.mk hml
  obtain ⟨B, hB⟩ : ∃ B, B = w.heap.size := ⟨_, rfl⟩
  have HB := Kp.mk hB
  clear h hw hml hB
  go_enter Try.func29, Try.ntmps29
  go_wp2
  go_loopw [7, 8] (fun v i wr => ∃ (k : Nat) (sa : Option Addr) (sc : Nat), k ≤ m ∧ k ≤ n ∧ i = .int .i64 k ∧ v = .slice sa k sc ∧ Kp (wr.ownsRow B 61 4 (.slice sa k sc) k (flat opL (opsOf L k p))) ∧ Kp (Below B w wr)) (fun _ i _ => m - (intOf i).toNat)
  case atStart => exact ⟨0, none, 0, Nat.zero_le _, Nat.zero_le _, rfl, rfl, ⟨by unfold opsOf; exact World.ownsRow_nil _ _ _ _⟩, ⟨Below.refl _ _⟩⟩
  case round =>
    obtain ⟨k, sa, sc, hkm, hkn, rfl, rfl, HO, HBL⟩ := hrel
    by_cases hgo : k < m ∧ k < n
    · obtain ⟨hlt, hltn⟩ := hgo
      obtain ⟨b, off, rfl, hbw, co⟩ := H.out.at wkL_len (by omega) k (by rw [HML.out]; exact hlt)
      rw [← HB.out] at hbw
      have hwf := HW.out _ (List.getElem_mem (show k < L.length by rw [HML.out]; exact hlt))
      have HSU := Kp.mk (opsOf_succ L k p (by rw [HML.out]; exact hlt))
      obtain ⟨x, hx⟩ : ∃ x, x = L[k]'(by rw [HML.out]; exact hlt) := ⟨_, rfl⟩
      rw [← hx] at co hwf HSU
      obtain ⟨xk, xa, xb, xy⟩ := x
      obtain ⟨i1, i2⟩ := wf_bd hwf.k
      obtain ⟨i3, i4⟩ := wf_bd hwf.a
      obtain ⟨i5, i6⟩ := wf_bd hwf.b
      obtain ⟨i7, i8⟩ := wf_bd hwf.y
      dsimp only at i1 i2 i3 i4 i5 i6 i7 i8
      have o0 : wr.cell? ⟨b, off + k * 4, none⟩ = some (.int .i64 xk) := (HBL.out.cell (p := ⟨b, off + k * 4, none⟩) hbw).trans (co 0 (by omega))
      have o1 : wr.cell? ⟨b, off + k * 4 + 1, none⟩ = some (.int .i64 xa) := (HBL.out.cell (p := ⟨b, off + k * 4 + 1, none⟩) hbw).trans (co 1 (by omega))
      have o2 : wr.cell? ⟨b, off + k * 4 + 2, none⟩ = some (.int .i64 xb) := (HBL.out.cell (p := ⟨b, off + k * 4 + 2, none⟩) hbw).trans (co 2 (by omega))
      have o3 : wr.cell? ⟨b, off + k * 4 + 3, none⟩ = some (.int .i64 xy) := (HBL.out.cell (p := ⟨b, off + k * 4 + 3, none⟩) hbw).trans (co 3 (by omega))
      obtain ⟨q1, h1, l1⟩ := pick_nat xk 4 (by omega)
      obtain ⟨q2, h2, l2⟩ := pick_nat xa p (by omega)
      obtain ⟨q3, h3, l3⟩ := pick_nat xb ((p : Int) - q2) (by omega)
      obtain ⟨q4, h4, l4⟩ := pick_nat xy 2001 (by omega)
      have HOP := Kp.mk (show opOf p ⟨xk, xa, xb, xy⟩ = ⟨1 + q1, q2, q2 + q3, q4 - 1000⟩ from by simp only [opOf, h1, h2, h3, h4, Int.toNat_natCast])
      have C1 := Kp.mk (fun W => h1 ▸ picked_any xk 4 W (by omega) (by omega) i1 i2)
      have C2 := Kp.mk (fun W => h2 ▸ picked_any xa p W (by omega) (by omega) i3 i4)
      have C3 := Kp.mk (fun W => h3 ▸ picked_any xb ((p : Int) - q2) W (by omega) (by omega) i5 i6)
      have C4 := Kp.mk (fun W => h4 ▸ picked_any xy 2001 W (by omega) (by omega) i7 i8)
      have hBw : B ≤ wr.heap.size := by rw [HB.out]; exact HBL.out.size
      have HKS := Kp.mk (fun (w' : World) (hgr : (wr.alloc (.cells #[.int .i64 (1 + q1), .int .i64 q2, .int .i64 (q2 + q3), .int .i64 (q4 - 1000)] 61)).drew.grownBy w' (blk sa)) => show w'.cell? ⟨b, off + k * 4, none⟩ = some (.int .i64 xk) ∧ w'.cell? ⟨b, off + k * 4 + 2, none⟩ = some (.int .i64 xb) ∧ w'.cell? ⟨b, off + k * 4 + 3, none⟩ = some (.int .i64 xy) from by
        have hbel := pushed_below HO.out hBw hgr
        exact ⟨(hbel.cell (p := ⟨b, off + k * 4, none⟩) hbw).trans o0, (hbel.cell (p := ⟨b, off + k * 4 + 2, none⟩) hbw).trans o2, (hbel.cell (p := ⟨b, off + k * 4 + 3, none⟩) hbw).trans o3⟩)
      clear co hwf hx h1 h2 h3 h4
      go_wp2_with fail
      refine (C2.out _).mono ?_
      rintro e w' ⟨rfl, rfl⟩
      go_wp2
      have e1 : IntKind.i64.wrap (1 + (q1 : Int)) = 1 + q1 := IntWalk.i64_in _ (by omega)
      have e2 : IntKind.i64.wrap ((p : Int) - q2) = (p : Int) - q2 := IntWalk.i64_in _ (by omega)
      have e3 : IntKind.i64.wrap ((q2 : Int) + q3) = (q2 : Int) + q3 := IntWalk.i64_in _ (by omega)
      have e4 : IntKind.i64.wrap ((q4 : Int) - 1000) = (q4 : Int) - 1000 := IntWalk.i64_in _ (by omega)
      go_region_held3 (fun w' => w'.cell? ⟨b, off + k * 4, none⟩ = some (.int .i64 xk) ∧ w'.cell? ⟨b, off + k * 4 + 2, none⟩ = some (.int .i64 xb) ∧ w'.cell? ⟨b, off + k * 4 + 3, none⟩ = some (.int .i64 xy))
        (first | exact ⟨o0, o2, o3⟩ | go_keep | exact hS7)
        ((first
          | (go_at_call 17; (first | (with_reducible refine (C1.out _).mono ?_) | (with_reducible refine (C3.out _).mono ?_) | (with_reducible refine (C4.out _).mono ?_)); rintro e w' ⟨rfl, rfl⟩)
          | (refine step_push tOps (by rfl) _ _ (by rfl) B sa k sc _ (by rfl) ((HO.out.alloc _).drew) 1 wr.heap.size _ (heap_alloc_new wr _) (by rfl) (by rfl) (by simp [Value.oneCell']) (by omega) (by omega) (by omega) (by show B ≤ (wr.alloc _).heap.size; rw [alloc_size]; omega) ?_; intro sa' cap' w' hown' hgr hno; have hS7 := HKS.out w' hgr)))
      all_goals
        have HO7 := Kp.mk (show w'.ownsRow B 61 4 (.slice sa' (k + 1) cap') (k + 1) (flat opL (opsOf L (k + 1) p)) from by
          rw [HSU.out, flat_append, HOP.out]
          have e : flat opL [(⟨1 + q1, q2, q2 + q3, q4 - 1000⟩ : SOp)] = [.int .i64 (1 + (q1 : Int)), .int .i64 q2, .int .i64 ((q2 : Int) + q3), .int .i64 ((q4 : Int) - 1000)] := by
            simp [flat, opL]
          rw [e]; exact hown')
        have HB7 := Kp.mk (HBL.out.trans (pushed_below HO.out hBw hgr))
        clear hown' hgr hno hS7
        go_wp2
        go_roundw
        case rel => exact ⟨k + 1, sa', cap', by omega, by omega, by go_num, rfl, HO7, HB7⟩
        case measure => simp [intOf]; omega
    · have hfin : Kp (opsOf L n p = opsOf L k p ∧ (opsOf L k p).length = k) := by
        refine ⟨?_, by rw [opsOf_length, HML.out]; omega⟩
        unfold opsOf
        by_cases h : k < m
        · rw [show k = n by omega]
        · rw [List.take_of_length_le (by rw [HML.out]; omega), List.take_of_length_le (by rw [HML.out]; omega)]
      have hor : (k < m ∧ ¬ k < n) ∨ ¬ k < m := by
        by_cases h1 : k < m
        · exact .inl ⟨h1, fun h2 => hgo ⟨h1, h2⟩⟩
        · exact .inr h1
      clear hgo
      rcases hor with ⟨hlt, hm60⟩ | hlt
      all_goals
        go_wp2
        go_ret
        refine ⟨sa, sc, k, rfl, ⟨by rw [hfin.out.1]; exact hfin.out.2⟩, ⟨?_⟩, ?_⟩
        · rw [hfin.out.1, ← HB.out]; exact HO.out
        · rw [← HB.out]; exact HBL.out

end Go.Proofs.Ytnieacfleabikaa
