/- The laws' own Rects, areaOf, meetRects. -/
import Derived.Test.YtlmdlholmlbcbaaNumP
import Derived.Test.YtlmdlholmlbcbaaKlA
import Derived.Test.YtlmdlholmlbcbaaPtP
import Derived.OpenShut
namespace Go.Proofs.Ytlmdlholmlbcbaa
set_option linter.unusedVariables false
open Go.RowKit
open Pick (Rc Bd bd0 bds vB IsSweep tot)

def rectV (a b c d : Int) (n : Nat) : Rc := ⟨pick a n, pick b n, pick a n + pick c ((n : Int) - pick a n), pick b n + pick d ((n : Int) - pick b n)⟩
theorem rectV_in (a b c d : Int) (n : Nat) (hn : 0 < n) : 0 ≤ (rectV a b c d n).x0 ∧ (rectV a b c d n).x0 ≤ (rectV a b c d n).x1 ∧ (rectV a b c d n).x1 < n ∧ 0 ≤ (rectV a b c d n).y0 ∧ (rectV a b c d n).y0 ≤ (rectV a b c d n).y1 ∧ (rectV a b c d n).y1 < n := by
  have h1 := pick_bd a n (by omega)
  have h2 := pick_bd b n (by omega)
  have h3 := pick_bd c ((n : Int) - pick a n) (by omega)
  have h4 := pick_bd d ((n : Int) - pick b n) (by omega)
  unfold rectV
  dsimp only
  omega
set_option maxHeartbeats 1000000 in
theorem rectOf_det (a b c d : Int) (n : Nat) (w : World) (hn : 0 < n) (hn2 : n ≤ 100000) (wa : (Lit.int .i64 a).wf = true) (wb : (Lit.int .i64 b).wf = true) (wc : (Lit.int .i64 c).wf = true) (wd : (Lit.int .i64 d).wf = true) :
    Calls Try.prog 36 #[.int .i64 a, .int .i64 b, .int .i64 c, .int .i64 d, .int .i64 n] w (fun e w' => e = .returned (.agg (rcL (rectV a b c d n)).toArray) ∧ Below w.heap.size w w') := by
  obtain ⟨a1, a2⟩ := wf_bd wa
  obtain ⟨b1, b2⟩ := wf_bd wb
  obtain ⟨c1, c2⟩ := wf_bd wc
  obtain ⟨d1, d2⟩ := wf_bd wd
  obtain ⟨x, hx, xl⟩ := pick_nat a n (by omega)
  obtain ⟨y, hy, yl⟩ := pick_nat b n (by omega)
  obtain ⟨p, hp, pl⟩ := pick_nat c ((n : Int) - x) (by omega)
  obtain ⟨q, hq, ql⟩ := pick_nat d ((n : Int) - y) (by omega)
  have HV := Kp.mk (show rectV a b c d n = ⟨x, y, x + p, y + q⟩ from by unfold rectV; rw [hx, hy, hp, hq])
  have HX := Kp.mk hx
  have HY := Kp.mk hy
  have HP := Kp.mk hp
  have HQ := Kp.mk hq
  clear wa wb wc wd hx hy hp hq
  go_enter Try.func36, Try.ntmps36
  go_wp2_with fail
  refine (picked_any a n _ (by omega) (by omega) a1 a2).mono ?_
  rintro e w' ⟨rfl, rfl⟩
  rw [HX.out]
  go_wp2_with fail
  refine (picked_any b n _ (by omega) (by omega) b1 b2).mono ?_
  rintro e w' ⟨rfl, rfl⟩
  rw [HY.out]
  go_wp2_with fail
  refine (picked_any c ((n : Int) - x) _ (by omega) (by omega) c1 c2).mono ?_
  rintro e w' ⟨rfl, rfl⟩
  rw [HP.out]
  go_wp2_with fail
  refine (picked_any d ((n : Int) - y) _ (by omega) (by omega) d1 d2).mono ?_
  rintro e w' ⟨rfl, rfl⟩
  rw [HQ.out]
  go_wp2
  exact bodyPost_ret (v := .agg #[.int .i64 x, .int .i64 y, .int .i64 (x + p), .int .i64 (y + q)]) (by simp [results, Try.results36, go_sem]) rfl ⟨by rw [HV.out]; rfl, (Below.refl _ _).alloc (Nat.le_refl _) _⟩

/-- The rectangle of a spot. -/
def rcOf (n : Nat) (p : Pt) : Rc := rectV p.x p.y p.w (IntKind.i64.wrap (IntKind.i64.wrap (p.x.tdiv 50) + p.w)) n
def rcsOf (L : List Pt) (k n : Nat) : List Rc := (L.take k).map (rcOf n)
theorem rcsOf_succ (L : List Pt) (k n : Nat) (h : k < L.length) : rcsOf L (k + 1) n = rcsOf L k n ++ [rcOf n L[k]] := by
  unfold rcsOf
  rw [List.take_succ_eq_append_getElem h, List.map_append]
  rfl
theorem rcsOf_length (L : List Pt) (k n : Nat) : (rcsOf L k n).length = min k L.length := by unfold rcsOf; simp
theorem rcsOf_in (L : List Pt) (k n : Nat) (hn : 0 < n) : ∀ r ∈ rcsOf L k n, 0 ≤ r.x0 ∧ r.x0 ≤ r.x1 ∧ r.x1 < n ∧ 0 ≤ r.y0 ∧ r.y0 ≤ r.y1 ∧ r.y1 < n := by
  intro r hr
  obtain ⟨p, _, rfl⟩ := List.mem_map.1 hr
  exact rectV_in _ _ _ _ n hn
theorem info_rc : (Try.prog.info? 65).map (fun i => (i.zero, i.size, i.bytes)) = some (some (.agg #[.int .i64 0, .int .i64 0, .int .i64 0, .int .i64 0]), 4, 32) := by kernel_rfl
theorem tRcs : ElemTy Try.prog 59 65 4 32 (.agg #[.int .i64 0, .int .i64 0, .int .i64 0, .int .i64 0]) :=
  ⟨Try.underlying59, by obtain ⟨i0, hi, h0, h1, h2⟩ := info_parts info_rc; exact ⟨i0, hi, h0, h1, h2⟩, rfl, by decide⟩
theorem rcL_one (L : List Rc) : ∀ u ∈ flat rcL L, u.oneCell' = true := flat_one (fun r u hu => by
  simp only [rcL, List.mem_cons, List.not_mem_nil, or_false] at hu
  rcases hu with rfl | rfl | rfl | rfl <;> rfl) L
attribute [irreducible] rcsOf rcOf rectV

theorem pushed_below0 {wr w' : World} {B e size n m c : Nat} {sa : Option Addr} {xs : List Value} {o : Obj} (hown : wr.ownsRow B e size (.slice sa m c) n xs) (hB : B ≤ wr.heap.size) (hgr : (wr.alloc o).grownBy w' (blk sa)) : Below B wr w' :=
  below_of_grown (grownBy_of_alloc hgr) hB (fun q hq => (own_lt hown q hq).1)

set_option maxRecDepth 100000 in
set_option maxHeartbeats 4000000 in
theorem rects_any (a : Option Addr) (cap m n bound : Nat) (L : List Pt) (w : World) (h : SlF ptL 3 w a m cap L) (hm : m ≤ 9223372036854775807) (hn : n ≤ 1000) (h0 : 0 < bound) (h1 : bound ≤ 1000) (hw : ∀ x ∈ L, x.Wf) :
    Calls Try.prog 31 #[.slice a m cap, .int .i64 n, .int .i64 bound] w (fun e w' => ∃ oa oc r, e = .returned (.slice oa r oc) ∧ Kp ((rcsOf L n bound).length = r) ∧ Kp (w'.ownsRow w.heap.size 65 4 (.slice oa r oc) r (flat rcL (rcsOf L n bound))) ∧ Below w.heap.size w w') := by
  have hml : L.length = m := h.len ptL_len (by omega)
  have H := Kp.mk h
  have HW := Kp.mk hw
  have HML := Kp.mk hml
  obtain ⟨B, hB⟩ : ∃ B, B = w.heap.size := ⟨_, rfl⟩
  have HB := Kp.mk hB
  clear h hw hml hB
  go_enter Try.func31, Try.ntmps31
  go_wp2
  go_loopw [7, 8] (fun v i wr => ∃ (k : Nat) (sa : Option Addr) (sc : Nat), k ≤ m ∧ k ≤ n ∧ i = .int .i64 k ∧ v = .slice sa k sc ∧ Kp (wr.ownsRow B 65 4 (.slice sa k sc) k (flat rcL (rcsOf L k bound))) ∧ Kp (Below B w wr)) (fun _ i _ => m - (intOf i).toNat)
  case atStart => exact ⟨0, none, 0, Nat.zero_le _, Nat.zero_le _, rfl, rfl, ⟨by unfold rcsOf; simp [flat, World.ownsRow_nil]⟩, ⟨Below.refl _ _⟩⟩
  case round =>
    obtain ⟨k, sa, sc, hkm, hkn, rfl, rfl, HO, HBL⟩ := hrel
    by_cases hgo : k < m ∧ k < n
    · obtain ⟨hlt, hltn⟩ := hgo
      obtain ⟨b, off, rfl, hbw, co⟩ := H.out.at ptL_len (by omega) k (by rw [HML.out]; exact hlt)
      rw [← HB.out] at hbw
      have hwf := HW.out _ (List.getElem_mem (show k < L.length by rw [HML.out]; exact hlt))
      have HSU := Kp.mk (rcsOf_succ L k bound (by rw [HML.out]; exact hlt))
      obtain ⟨x, hx⟩ : ∃ x, x = L[k]'(by rw [HML.out]; exact hlt) := ⟨_, rfl⟩
      rw [← hx] at co hwf HSU
      obtain ⟨xx, xy, xw⟩ := x
      have o0 : wr.cell? ⟨b, off + k * 3, none⟩ = some (.int .i64 xx) := (HBL.out.cell (p := ⟨b, off + k * 3, none⟩) hbw).trans (co 0 (by omega))
      have o1 : wr.cell? ⟨b, off + k * 3 + 1, none⟩ = some (.int .i64 xy) := (HBL.out.cell (p := ⟨b, off + k * 3 + 1, none⟩) hbw).trans (co 1 (by omega))
      have o2 : wr.cell? ⟨b, off + k * 3 + 2, none⟩ = some (.int .i64 xw) := (HBL.out.cell (p := ⟨b, off + k * 3 + 2, none⟩) hbw).trans (co 2 (by omega))
      obtain ⟨y, hy⟩ : ∃ y, IntKind.i64.wrap (xx.tdiv 50) = y := ⟨_, rfl⟩
      obtain ⟨z, hz⟩ : ∃ z, IntKind.i64.wrap (y + xw) = z := ⟨_, rfl⟩
      have hzw : (Lit.int .i64 z).wf = true := by rw [← hz]; exact wf_wrap _ _
      have HOP := Kp.mk (show rcOf bound ⟨xx, xy, xw⟩ = rectV xx xy xw z bound from by unfold rcOf; dsimp only; rw [hy, hz])
      obtain ⟨rr, hrr⟩ : ∃ rr, rectV xx xy xw z bound = rr := ⟨_, rfl⟩
      rw [hrr] at HOP
      have hBw : B ≤ wr.heap.size := by rw [HB.out]; exact HBL.out.size
      have CR3 := Kp.mk ((rectOf_det xx xy xw z bound wr.drew h0 (by omega) hwf.x hwf.y hwf.w hzw).mono (R' := fun e w' => e = .returned (.agg #[.int .i64 rr.x0, .int .i64 rr.y0, .int .i64 rr.x1, .int .i64 rr.y1]) ∧ (w'.cell? ⟨b, off + k * 3, none⟩ = some (.int .i64 xx) ∧ w'.cell? ⟨b, off + k * 3 + 1, none⟩ = some (.int .i64 xy) ∧ w'.cell? ⟨b, off + k * 3 + 2, none⟩ = some (.int .i64 xw)) ∧ Kp (w'.ownsRow B 65 4 (.slice sa k sc) k (flat rcL (rcsOf L k bound))) ∧ Kp (Below B wr w') ∧ B ≤ w'.heap.size) (fun e w' ⟨he, hbel⟩ => by
        have hb' : Below wr.heap.size wr w' := ((Below.refl wr.heap.size wr).drew).trans hbel
        refine ⟨by rw [he, hrr]; rfl, ⟨(hb'.cell (p := ⟨b, off + k * 3, none⟩) (by show b < wr.heap.size; omega)).trans o0, (hb'.cell (p := ⟨b, off + k * 3 + 1, none⟩) (by show b < wr.heap.size; omega)).trans o1, (hb'.cell (p := ⟨b, off + k * 3 + 2, none⟩) (by show b < wr.heap.size; omega)).trans o2⟩, ⟨own_below HO.out hb'⟩, ⟨hb'.mono hBw⟩, Nat.le_trans hBw hb'.size⟩))
      have HKS := Kp.mk (fun (w1 w' : World) (hs1 : w1.cell? ⟨b, off + k * 3, none⟩ = some (.int .i64 xx) ∧ w1.cell? ⟨b, off + k * 3 + 1, none⟩ = some (.int .i64 xy) ∧ w1.cell? ⟨b, off + k * 3 + 2, none⟩ = some (.int .i64 xw)) (hbel : Below B w1 w') => show w'.cell? ⟨b, off + k * 3, none⟩ = some (.int .i64 xx) ∧ w'.cell? ⟨b, off + k * 3 + 1, none⟩ = some (.int .i64 xy) ∧ w'.cell? ⟨b, off + k * 3 + 2, none⟩ = some (.int .i64 xw) from
        ⟨(hbel.cell (p := ⟨b, off + k * 3, none⟩) hbw).trans hs1.1, (hbel.cell (p := ⟨b, off + k * 3 + 1, none⟩) hbw).trans hs1.2.1, (hbel.cell (p := ⟨b, off + k * 3 + 2, none⟩) hbw).trans hs1.2.2⟩)
      clear co hwf hx hrr hzw
      go_wp2
      go_region_held3 (fun w' => w'.cell? ⟨b, off + k * 3, none⟩ = some (.int .i64 xx) ∧ w'.cell? ⟨b, off + k * 3 + 1, none⟩ = some (.int .i64 xy) ∧ w'.cell? ⟨b, off + k * 3 + 2, none⟩ = some (.int .i64 xw))
        (first | exact ⟨o0, o1, o2⟩ | go_keep | exact hS6 | exact hS7)
        ((first
          | (go_at_call 36; refine CR3.out.mono ?_; rintro e w1 ⟨rfl, hS6, hO6, hB6, hz6⟩)
          | (refine step_push tRcs (by rfl) _ _ (by rfl) B sa k sc _ (by rfl) (own_below hO6.out (below_alloc (Nat.le_refl _) _)) 1 w1.heap.size _ (heap_alloc_new w1 _) (by rfl) (by rfl) (by simp [Value.oneCell']) (by omega) (by omega) (by omega) (by rw [alloc_size]; omega) ?_; intro sa' cap' w' hown' hgr hno; have hS7 := HKS.out w1 w' hS6 (pushed_below0 hO6.out hz6 hgr))
          | fail))
      all_goals
        have HO7 := Kp.mk (show w'.ownsRow B 65 4 (.slice sa' (k + 1) cap') (k + 1) (flat rcL (rcsOf L (k + 1) bound)) from by
          rw [HSU.out, flat_append, HOP.out]
          have e : flat rcL [rr] = rcL rr := by simp [flat]
          rw [e]; exact hown')
        have HB7 := Kp.mk (HBL.out.trans (hB6.out.trans (pushed_below0 hO6.out hz6 hgr)))
        clear hown' hgr hno hS7
        go_wp2
        go_roundw
        case rel => exact ⟨k + 1, sa', cap', by omega, by omega, by go_num, rfl, HO7, HB7⟩
        case measure => simp [intOf]; omega
    · have hfin : Kp (rcsOf L n bound = rcsOf L k bound ∧ (rcsOf L k bound).length = k) := by
        refine ⟨?_, by rw [rcsOf_length, HML.out]; omega⟩
        unfold rcsOf
        by_cases h : k < m
        · rw [show k = n by omega]
        · rw [List.take_of_length_le (by rw [HML.out]; omega), List.take_of_length_le (by rw [HML.out]; omega)]
      have hor : (k < m ∧ ¬ k < n) ∨ ¬ k < m := by
        by_cases h1 : k < m
        · exact .inl ⟨h1, fun h2 => hgo ⟨h1, h2⟩⟩
        · exact .inr h1
      clear hgo
      rcases hor with ⟨hlt, hm60⟩ | hlt
      all_goals
        go_wp2
        go_ret
        refine ⟨sa, sc, k, rfl, ⟨by rw [hfin.out.1]; exact hfin.out.2⟩, ⟨?_⟩, ?_⟩
        · rw [hfin.out.1, ← HB.out]; exact HO.out
        · rw [← HB.out]; exact HBL.out

set_option maxHeartbeats 1000000 in
theorem areaOf_any (a : Option Addr) (cap n : Nat) (L : List Rc) (lo : Int) (N : Nat) (w : World) (h : SlF rcL 4 w a n cap L) (hn : n ≤ 40) (hb : Pick.Boxed L lo N) (hlo : -100 ≤ lo ∧ lo ≤ 100) (hN : N ≤ 100) (ok : ∀ r ∈ L, r.x0 ≤ r.x1 ∧ r.y0 ≤ r.y1) :
    Calls Try.prog 32 #[.slice a n cap] w fun e w' => e = .returned (.int .i64 (tot L lo N)) ∧ Below w.heap.size w w' := by
  have H := Kp.mk h
  have HBX := Kp.mk hb
  have HOK := Kp.mk ok
  clear h hb ok
  go_enter Try.func32, Try.ntmps32
  go_wp2_with (at_builtin; refine wpList_cat tRcs rfl _ _ rfl w.heap.size none 0 0 [] rfl (World.ownsRow_nil _ _ _ _) _ _ _ _ rfl H.out (rcL_one _) ?c1 (by decide) (Nat.le_refl _) ?c2)
  case c1 => omega
  case c2 =>
    intro ra rc w1 ho hb1
    have C := Kp.mk (area_any ra rc n L lo N w1 (own_slc ho) hn HBX.out hlo hN HOK.out)
    have HB := Kp.mk hb1
    clear ho hb1
    go_wp2_with fail
    refine C.out.mono ?_
    rintro e w2 ⟨rfl, hb2⟩
    have HB2 := Kp.mk (below_step HB.out hb2)
    clear hb2 HB C
    go_wp2
    go_ret
    exact ⟨rfl, HB2.out⟩

end Go.Proofs.Ytlmdlholmlbcbaa
