/- The laws' own Changes: changes out of raw works. -/
import Derived.Test.YtdjcmemdlmfgpaaPersY
import Derived.Test.YtdjcmemdlmfgpaaWk
import Derived.Test.YtdjcmemdlmfgpaaSgn
import Derived.StillTailTactics
namespace Go.Proofs.Ytdjcmemdlmfgpaa
set_option linter.unusedVariables false
open Go.RowKit

/-- The change of work number i, on p places. -/
def chOf (p i : Nat) (x : Wk) : Chg := ⟨1 + (pick x.kind 2).toNat, (pick x.a ((i : Int) + 1)).toNat, (pick x.b p).toNat, pick x.amt 1000, (pick (x.a.tdiv 60) ((i : Int) + 1)).toNat⟩
theorem chOf_ok (p i : Nat) (x : Wk) (hp : 0 < p) : (chOf p i x).Ok i p := by
  have h1 := pick_bd x.kind 2 (by omega)
  have h2 := pick_bd x.a ((i : Int) + 1) (by omega)
  have h3 := pick_bd x.b p (by omega)
  have h5 := pick_bd (x.a.tdiv 60) ((i : Int) + 1) (by omega)
  refine ⟨?_, ?_, ?_, ?_⟩ <;> simp only [chOf] <;> omega
def chsOf (L : List Wk) (n p : Nat) : List Chg := (List.range (min n L.length)).map fun i => chOf p i (L.getD i wk0)
theorem chsOf_length (L : List Wk) (n p : Nat) : (chsOf L n p).length = min n L.length := by simp [chsOf]
theorem chsOf_ok (L : List Wk) (n p : Nat) (hp : 0 < p) : ∀ j (h : j < (chsOf L n p).length), (chsOf L n p)[j].Ok j p := by
  intro j h
  have : (chsOf L n p)[j] = chOf p j (L.getD j wk0) := by simp [chsOf]
  rw [this]
  exact chOf_ok p j _ hp
theorem chsOf_succ (L : List Wk) (k p : Nat) (h : k < L.length) : chsOf L (k + 1) p = chsOf L k p ++ [chOf p k L[k]] := by
  rw [chsOf, chsOf, show min (k + 1) L.length = min k L.length + 1 by omega, List.range_succ, List.map_append, show min k L.length = k by omega]
  simp [List.getElem?_eq_getElem h]
theorem info_ch : (Try.prog.info? 36).map (fun i => (i.zero, i.size, i.bytes)) = some (some (.agg #[.int .i64 0, .int .i64 0, .int .i64 0, .int .i64 0, .int .i64 0]), 5, 40) := by kernel_rfl
theorem tChs : ElemTy Try.prog 25 36 5 40 (.agg #[.int .i64 0, .int .i64 0, .int .i64 0, .int .i64 0, .int .i64 0]) :=
  ⟨Try.underlying25, by obtain ⟨i0, hi, h0, h1, h2⟩ := info_parts info_ch; exact ⟨i0, hi, h0, h1, h2⟩, rfl, by decide⟩
attribute [irreducible] chsOf

set_option maxRecDepth 100000 in
set_option maxHeartbeats 4000000 in
theorem changes_any (a : Option Addr) (cap m n p : Nat) (L : List Wk) (w : World) (h : SlF wkL 4 w a m cap L) (hm : m ≤ 9223372036854775807) (hn : n ≤ 1000) (hp : 0 < p) (hp2 : p ≤ 1000) (hw : ∀ x ∈ L, x.Wf) :
    Calls Try.prog 5 #[.slice a m cap, .int .i64 n, .int .i64 p] w (fun e w' => ∃ oa oc r, e = .returned (.slice oa r oc) ∧ Kp ((chsOf L n p).length = r) ∧ Kp (w'.ownsRow w.heap.size 36 5 (.slice oa r oc) r (flat chL (chsOf L n p))) ∧ Below w.heap.size w w') := by
  have hml : L.length = m := h.len wkL_len (by omega)
  have H := Kp.mk h
  have HW := Kp.mk hw
  have HML := Kp.mk hml
  obtain ⟨B, hB⟩ : ∃ B, B = w.heap.size := ⟨_, rfl⟩
  have HB := Kp.mk hB
  clear h hw hml hB
  go_enter Try.func5, Try.ntmps5
  go_wp2
  go_loopw [7, 8] (fun v i wr => ∃ (k : Nat) (sa : Option Addr) (sc : Nat), k ≤ m ∧ k ≤ n ∧ i = .int .i64 k ∧ v = .slice sa k sc ∧ Kp (wr.ownsRow B 36 5 (.slice sa k sc) k (flat chL (chsOf L k p))) ∧ Kp (Below B w wr)) (fun _ i _ => m - (intOf i).toNat)
  case atStart => exact ⟨0, none, 0, Nat.zero_le _, Nat.zero_le _, rfl, rfl, ⟨by unfold chsOf; simp [flat, World.ownsRow_nil]⟩, ⟨Below.refl _ _⟩⟩
  case round =>
    obtain ⟨k, sa, sc, hkm, hkn, rfl, rfl, HO, HBL⟩ := hrel
    by_cases hgo : k < m ∧ k < n
    · obtain ⟨hlt, hltn⟩ := hgo
      obtain ⟨b, off, rfl, hbw, co⟩ := H.out.at wkL_len (by omega) k (by rw [HML.out]; exact hlt)
      rw [← HB.out] at hbw
      have hwf := HW.out _ (List.getElem_mem (show k < L.length by rw [HML.out]; exact hlt))
      have HSU := Kp.mk (chsOf_succ L k p (by rw [HML.out]; exact hlt))
      obtain ⟨x, hx⟩ : ∃ x, x = L[k]'(by rw [HML.out]; exact hlt) := ⟨_, rfl⟩
      rw [← hx] at co hwf HSU
      obtain ⟨xk, xa, xb, xy⟩ := x
      obtain ⟨i1, i2⟩ := wf_bd hwf.k
      obtain ⟨i3, i4⟩ := wf_bd hwf.a
      obtain ⟨i5, i6⟩ := wf_bd hwf.b
      obtain ⟨i7, i8⟩ := wf_bd hwf.y
      dsimp only at i1 i2 i3 i4 i5 i6 i7 i8
      obtain ⟨d1, d2⟩ := tdiv_bd xa 60 (by omega) i3 i4
      have o0 : wr.cell? ⟨b, off + k * 4, none⟩ = some (.int .i64 xk) := (HBL.out.cell (p := ⟨b, off + k * 4, none⟩) hbw).trans (co 0 (by omega))
      have o1 : wr.cell? ⟨b, off + k * 4 + 1, none⟩ = some (.int .i64 xa) := (HBL.out.cell (p := ⟨b, off + k * 4 + 1, none⟩) hbw).trans (co 1 (by omega))
      have o2 : wr.cell? ⟨b, off + k * 4 + 2, none⟩ = some (.int .i64 xb) := (HBL.out.cell (p := ⟨b, off + k * 4 + 2, none⟩) hbw).trans (co 2 (by omega))
      have o3 : wr.cell? ⟨b, off + k * 4 + 3, none⟩ = some (.int .i64 xy) := (HBL.out.cell (p := ⟨b, off + k * 4 + 3, none⟩) hbw).trans (co 3 (by omega))
      obtain ⟨q1, h1, l1⟩ := pick_nat xk 2 (by omega)
      obtain ⟨q2, h2, l2⟩ := pick_nat xa ((k : Int) + 1) (by omega)
      obtain ⟨q3, h3, l3⟩ := pick_nat xb p (by omega)
      obtain ⟨q4, h4, l4⟩ := pick_nat xy 1000 (by omega)
      obtain ⟨q5, h5, l5⟩ := pick_nat (xa.tdiv 60) ((k : Int) + 1) (by omega)
      have HOP := Kp.mk (show chOf p k ⟨xk, xa, xb, xy⟩ = ⟨1 + q1, q2, q3, q4, q5⟩ from by simp only [chOf, h1, h2, h3, h4, h5, Int.toNat_natCast])
      have C1 := Kp.mk (fun W => h1 ▸ picked_any xk 2 W (by omega) (by omega) i1 i2)
      have C2 := Kp.mk (fun W => h2 ▸ picked_any xa ((k : Int) + 1) W (by omega) (by omega) i3 i4)
      have C3 := Kp.mk (fun W => h3 ▸ picked_any xb p W (by omega) (by omega) i5 i6)
      have C4 := Kp.mk (fun W => h4 ▸ picked_any xy 1000 W (by omega) (by omega) i7 i8)
      have C5 := Kp.mk (fun W => h5 ▸ picked_any (xa.tdiv 60) ((k : Int) + 1) W (by omega) (by omega) d1 d2)
      have hBw : B ≤ wr.heap.size := by rw [HB.out]; exact HBL.out.size
      have HKS := Kp.mk (fun (w' : World) (hgr : (wr.alloc (.cells #[.int .i64 (1 + q1), .int .i64 q2, .int .i64 q3, .int .i64 q4, .int .i64 q5] 36)).drew.grownBy w' (blk sa)) => show w'.cell? ⟨b, off + k * 4, none⟩ = some (.int .i64 xk) ∧ w'.cell? ⟨b, off + k * 4 + 1, none⟩ = some (.int .i64 xa) ∧ w'.cell? ⟨b, off + k * 4 + 2, none⟩ = some (.int .i64 xb) ∧ w'.cell? ⟨b, off + k * 4 + 3, none⟩ = some (.int .i64 xy) from by
        have hbel := pushed_below HO.out hBw hgr
        exact ⟨(hbel.cell (p := ⟨b, off + k * 4, none⟩) hbw).trans o0, (hbel.cell (p := ⟨b, off + k * 4 + 1, none⟩) hbw).trans o1, (hbel.cell (p := ⟨b, off + k * 4 + 2, none⟩) hbw).trans o2, (hbel.cell (p := ⟨b, off + k * 4 + 3, none⟩) hbw).trans o3⟩)
      have e1 : IntKind.i64.wrap (1 + (q1 : Int)) = 1 + q1 := IntWalk.i64_in _ (by omega)
      have e2 : IntKind.i64.wrap ((k : Int) + 1) = (k : Int) + 1 := IntWalk.i64_in _ (by omega)
      have e3 : IntKind.i64.wrap (xa.tdiv 60) = xa.tdiv 60 := IntWalk.i64_in _ (by omega)
      clear co hwf hx h1 h2 h3 h4 h5
      go_wp2
      go_region_held3 (fun w' => w'.cell? ⟨b, off + k * 4, none⟩ = some (.int .i64 xk) ∧ w'.cell? ⟨b, off + k * 4 + 1, none⟩ = some (.int .i64 xa) ∧ w'.cell? ⟨b, off + k * 4 + 2, none⟩ = some (.int .i64 xb) ∧ w'.cell? ⟨b, off + k * 4 + 3, none⟩ = some (.int .i64 xy))
        (first | exact ⟨o0, o1, o2, o3⟩ | go_keep | exact hS7)
        ((first
          | (go_at_call 9; (first | (with_reducible refine (C1.out _).mono ?_) | (with_reducible refine (C2.out _).mono ?_) | (with_reducible refine (C3.out _).mono ?_) | (with_reducible refine (C4.out _).mono ?_) | (with_reducible refine (C5.out _).mono ?_)); rintro e w' ⟨rfl, rfl⟩)
          | (refine step_push tChs (by rfl) _ _ (by rfl) B sa k sc _ (by rfl) ((HO.out.alloc _).drew) 1 wr.heap.size _ (heap_alloc_new wr _) (by rfl) (by rfl) (by simp [Value.oneCell']) (by omega) (by omega) (by omega) (by show B ≤ (wr.alloc _).heap.size; rw [alloc_size]; omega) ?_; intro sa' cap' w' hown' hgr hno; have hS7 := HKS.out w' hgr)))
      all_goals
        have HO7 := Kp.mk (show w'.ownsRow B 36 5 (.slice sa' (k + 1) cap') (k + 1) (flat chL (chsOf L (k + 1) p)) from by
          rw [HSU.out, flat_append, HOP.out]
          have e : flat chL [(⟨1 + q1, q2, q3, q4, q5⟩ : Chg)] = [.int .i64 (1 + (q1 : Int)), .int .i64 q2, .int .i64 q3, .int .i64 q4, .int .i64 q5] := by
            simp [flat, chL]
          rw [e]; exact hown')
        have HB7 := Kp.mk (HBL.out.trans (pushed_below HO.out hBw hgr))
        clear hown' hgr hno hS7
        go_wp2
        go_roundw
        case rel => exact ⟨k + 1, sa', cap', by omega, by omega, by go_num, rfl, HO7, HB7⟩
        case measure => simp [intOf]; omega
    · have hfin : Kp (chsOf L n p = chsOf L k p ∧ (chsOf L k p).length = k) := by
        refine ⟨?_, by rw [chsOf_length, HML.out]; omega⟩
        unfold chsOf
        rw [show min n L.length = min k L.length by rw [HML.out]; omega]
      have hor : (k < m ∧ ¬ k < n) ∨ ¬ k < m := by
        by_cases h1 : k < m
        · exact .inl ⟨h1, fun h2 => hgo ⟨h1, h2⟩⟩
        · exact .inr h1
      clear hgo
      rcases hor with ⟨hlt, hm60⟩ | hlt
      all_goals
        go_wp2
        go_ret
        refine ⟨sa, sc, k, rfl, ⟨by rw [hfin.out.1]; exact hfin.out.2⟩, ⟨?_⟩, ?_⟩
        · rw [hfin.out.1, ← HB.out]; exact HO.out
        · rw [← HB.out]; exact HBL.out

end Go.Proofs.Ytdjcmemdlmfgpaa
