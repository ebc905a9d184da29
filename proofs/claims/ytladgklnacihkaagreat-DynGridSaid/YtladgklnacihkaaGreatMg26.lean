import Derived.Test.YtladgklnacihkaaGreatMg25
import Derived.Test.YtladgklnacihkaaGreatMg4
import Derived.Test.YtladgklnacihkaaGreatMg21
import Derived.Shelf.SlSortCmp.NoneTotal
/- near.Nearest at no point, or where none is asked for: the walks. -/
namespace Go.Proofs.YtladgklnacihkaaGreat
set_option linter.unusedVariables false
open Go.RowKit Go.Sort Go.Lib

set_option maxRecDepth 100000 in
set_option maxHeartbeats 2000000 in
theorem ksort_none (w : World) :
    Calls Tryz.prog 95 #[.slice none 0 0, .func (.func 96) #[] #[]] w fun e w' => e = .returned (.tuple #[]) ∧ w = w' := by
  have HP := Kp.mk (fun lim W => show Calls Tryz.prog 112 #[.slice none 0 0, .int .i64 0, .int .i64 0, .int .i64 lim, .func (.func 96) #[] #[]] W _ from AnyF.pdqsortCmpFunc_none Tryz.pdqFnd none 0 lim _ W)
  have HL := Kp.mk (fun W => show Calls Tryz.prog 47 #[.int .u64 0] W (fun e w' => e = .returned (.int .i64 (Lib.bitLen 0 : Nat)) ∧ w' = W) from Tryz.bits_Len 0 W (by omega) (by omega))
  go_enter Tryz.func95, Tryz.ntmps95
  go_wp2_with (first | (go_at_call 47; refine (HL.out _).mono ?_; rintro e w' ⟨rfl, rfl⟩) | (go_at_call 112; refine (HP.out _ _).mono ?_; rintro e w' ⟨rfl, rfl⟩) | fail)
  go_end0
  exact ⟨rfl, rfl⟩
set_option maxRecDepth 100000 in
set_option maxHeartbeats 2000000 in
theorem grow_none (a : Option Addr) (n cap : Nat) (w : World) :
    Calls Tryz.prog 93 #[.slice a n cap, .slice none 0 0, .int .i64 0] w fun e w' => e = .returned (.pointer none) ∧ Kp (Below w.heap.size w w') := by
  have HB := Kp.mk (below_then_alloc (below_alloc (Nat.le_refl w.heap.size) (.cells #[.slice a n cap] 43)) (.cells #[.int .i64 0] 3))
  go_enter Tryz.func93, Tryz.ntmps93
  go_wp2
  exact bodyPost_ret (v := .pointer none) (by simp [results, Tryz.results93, go_sem]) rfl ⟨rfl, HB⟩
set_option maxRecDepth 100000 in
set_option maxHeartbeats 2000000 in
theorem search_none (a : Option Addr) (n cap : Nat) (x y z : Int) (k : Int) (o : Value) (w : World) :
    Calls Tryz.prog 94 #[.pointer none, .slice a n cap, .agg #[.int .i64 x, .int .i64 y, .int .i64 z], .int .i64 0, .int .i64 k, o] w fun e w' => e = .returned (.tuple #[]) ∧ Kp (Below w.heap.size w w') := by
  have HB := Kp.mk (below_alloc (Nat.le_refl w.heap.size) (.cells #[.int .i64 x, .int .i64 y, .int .i64 z] 28))
  go_enter Tryz.func94, Tryz.ntmps94
  go_wp2
  refine bodyPost_ret (results_none rfl _ _ _) rfl ?_
  exact ⟨rfl, HB⟩
set_option maxRecDepth 100000 in
set_option maxHeartbeats 4000000 in
theorem nearest_none (a : Option Addr) (cap n k : Nat) (x y : Int) (L : List Pt) (w : World) (h : SlF ptL 3 w a n cap L) (hn : n ≤ 150) (hN : ∀ p ∈ L, p.Near) (hx : -1048576 ≤ x ∧ x ≤ 1048576) (hy : -1048576 ≤ y ∧ y ≤ 1048576) (hk : k ≤ 200) (h0 : n = 0 ∨ k = 0) :
    Calls Tryz.prog 67 #[.slice a n cap, .int .i64 x, .int .i64 y, .int .i64 (k : Int)] w fun e w' => e = .returned (.tuple #[.slice none 0 0, .int .i64 0]) ∧ Kp (Below w.heap.size w w') := by
  have C0 := Kp.mk (gcheck_any a cap n L w h (by omega) hN)
  have CX := Kp.mk (fun W => nnear_any x W hx)
  have CY := Kp.mk (fun W => nnear_any y W hy)
  have tk1 : ¬ ((k : Int) < 0) := by omega
  clear h hN hx hy
  by_cases hk0 : k = 0
  · subst hk0
    clear h0 tk1
    go_enter Tryz.func67, Tryz.ntmps67
    go_wp2_with (first
      | (go_at_call 14; refine C0.out.mono ?_; rintro e w1 ⟨rfl, HB1⟩)
      | (go_at_call 92; with_reducible refine (CX.out _).mono ?_; rintro e w' ⟨rfl, rfl⟩)
      | (go_at_call 92; with_reducible refine (CY.out _).mono ?_; rintro e w' ⟨rfl, rfl⟩)
      | fail)
    go_ret2
    exact ⟨rfl, HB1⟩
  · obtain rfl : n = 0 := by omega
    have tk2 : ((k : Int) == 0) = false := by rw [beq_eq_false_iff_ne]; omega
    have tk3 : ¬ k = 0 := hk0
    clear h0
    go_enter Tryz.func67, Tryz.ntmps67
    go_wp2_with (first
      | (go_at_call 14; refine C0.out.mono ?_; rintro e w1 ⟨rfl, HB1⟩)
      | (go_at_call 92; with_reducible refine (CX.out _).mono ?_; rintro e w' ⟨rfl, rfl⟩)
      | (go_at_call 92; with_reducible refine (CY.out _).mono ?_; rintro e w' ⟨rfl, rfl⟩)
      | fail)
    clear CX CY C0
    go_loopw [11, 41] (fun v i wr => i = .int .i64 0 ∧ v = .slice none 0 0 ∧ wr = w1) (fun _ _ _ => 0)
    case atStart => exact ⟨rfl, rfl, rfl⟩
    case round =>
      obtain ⟨rfl, rfl, rfl⟩ := hrel
      have hal := below_alloc (Nat.le_refl wr.heap.size) (.cells #[.slice none 0 0] 156)
      have hx0 := Box.new wr #[.slice none 0 0] 156
      obtain ⟨b0, hb0⟩ : ∃ b0, wr.heap.size = b0 := ⟨_, rfl⟩
      rw [hb0] at hx0
      obtain ⟨w4, hw4⟩ : ∃ w4, wr.alloc (.cells #[.slice none 0 0] 156) = w4 := ⟨_, rfl⟩
      rw [hw4] at hx0 hal
      have HX0 := Kp.mk hx0
      have HAL := Kp.mk hal
      have HW4 := Kp.mk hw4
      have HB0E := Kp.mk hb0
      clear hb0 hw4 hx0 hal
      go_wp2_with fail
      rw [HW4.out]
      simp only [HB0E.out]
      refine (grow_none _ _ _ w4).mono ?_
      rintro e w5 ⟨rfl, HB5⟩
      have HX5 := Kp.mk (HX0.out.below HB5.out)
      have c5 := HX5.out.cell 0 rfl
      go_wp2_with fail
      refine (search_none _ _ _ _ _ _ _ _ w5).mono ?_
      rintro e w6 ⟨rfl, HB6⟩
      have HX6 := Kp.mk (HX5.out.below HB6.out)
      clear c5
      have c6 := HX6.out.cell 0 rfl
      go_wp2_with fail
      refine (ksort_none w6).mono ?_
      rintro e w7 ⟨rfl, rfl⟩
      go_wp2
      go_loopw [14, 62] (fun v i wr => i = .int .i64 0 ∧ v = .slice none 0 0 ∧ wr = w6) (fun _ _ _ => 0)
      case atStart => exact ⟨rfl, rfl, rfl⟩
      case round =>
        obtain ⟨rfl, rfl, rfl⟩ := hrel
        go_wp2
        go_ret2
        exact ⟨rfl, ⟨below_step HB1.out (HAL.out.trans ((below_step HB5.out HB6.out).mono HAL.out.size))⟩⟩

end Go.Proofs.YtladgklnacihkaaGreat

/- Package damasktop: points (a copy), and near.Nearest at any number. -/
namespace Go.Proofs.YtladgklnacihkaaGreat
set_option linter.unusedVariables false
open Go.RowKit
open Hp (IsNear)

/-- What near.Nearest answers: a matter of the points. -/
def NearAns (L : List Pt) (x y : Int) (n k : Nat) (out : List Nat) : Prop := (n = 0 ∨ k = 0) ∧ out = [] ∨ (0 < n ∧ 0 < k) ∧ IsNear (fun i => fdist (L.getD i pt0) ⟨x, y, 0⟩) n k out
theorem NearAns.unique {L : List Pt} {x y : Int} {n k : Nat} {a b : List Nat} (ha : NearAns L x y n k a) (hb : NearAns L x y n k b) : a = b := by
  rcases ha with ⟨h1, rfl⟩ | ⟨h1, h2⟩
  · rcases hb with ⟨_, rfl⟩ | ⟨h3, _⟩
    · rfl
    · omega
  · rcases hb with ⟨h3, _⟩ | ⟨_, h4⟩
    · omega
    · exact Hp.near_unique h2 h4
theorem nearest_sure (a : Option Addr) (cap n k : Nat) (x y : Int) (L : List Pt) (w : World) (h : SlF ptL 3 w a n cap L) (hn : n ≤ 150) (hN : ∀ p ∈ L, p.Near) (hx : -1048576 ≤ x ∧ x ≤ 1048576) (hy : -1048576 ≤ y ∧ y ≤ 1048576) (hk : k ≤ 200) :
    Calls Tryz.prog 67 #[.slice a n cap, .int .i64 x, .int .i64 y, .int .i64 (k : Int)] w fun e w' => ∃ oa oc out, e = .returned (.tuple #[.slice oa (min k n) oc, .int .i64 0]) ∧ Kp (NearAns L x y n k out) ∧ Kp (w'.ownsRow w.heap.size 3 1 (.slice oa (min k n) oc) (min k n) (natV out)) ∧ Kp (Below w.heap.size w w') := by
  by_cases h0 : n = 0 ∨ k = 0
  · refine (nearest_none a cap n k x y L w h hn hN hx hy hk h0).mono ?_
    rintro e w' ⟨rfl, hb⟩
    have e0 : min k n = 0 := by omega
    exact ⟨none, 0, [], by rw [e0], ⟨.inl ⟨h0, rfl⟩⟩, ⟨by rw [e0]; exact World.ownsRow_nil _ _ _ _⟩, hb⟩
  · refine (nearest_any a cap n k x y L w h (by omega) hn hN hx hy (by omega) hk).mono ?_
    rintro e w' ⟨oa, oc, out, h1, h2, h3, h4⟩
    exact ⟨oa, oc, out, h1, ⟨.inr ⟨by omega, h2.out⟩⟩, h3, h4⟩

end Go.Proofs.YtladgklnacihkaaGreat

/- Points that come and go: the heaviest ones, and the nearest ones. -/
namespace Go.Proofs.YtladgklnacihkaaGreat.Dy
set_option linter.unusedVariables false
open Go.RowKit
open Hp (IsNear)

def actA (k x y w a b c d id kk : Int) : Array Value := #[.int .i64 k, .int .i64 x, .int .i64 y, .int .i64 w, .int .i64 a, .int .i64 b, .int .i64 c, .int .i64 d, .int .i64 id, .int .i64 kk]
theorem snd_getD (L : List IP) (i : Nat) : (L.map (·.2)).getD i pt0 = (L.getD i ip0).2 := by
  rcases Nat.lt_or_ge i L.length with h | h
  · rw [getD_at _ _ (by rw [List.length_map]; exact h), getD_at _ _ h, List.getElem_map]
  · simp [List.getD, List.getElem?_eq_none h, List.getElem?_eq_none (show (L.map (·.2)).length ≤ i by rw [List.length_map]; exact h)]
theorem rep_perm {L : List IP} {X0 Y0 X1 Y1 : Int} {out : List Nat} (h : IsRep (L.map (·.2)) X0 Y0 X1 Y1 out) : out.Perm ((List.range L.length).filter (fun i => inR X0 Y0 X1 Y1 (L.getD i ip0).2)) := by
  have := h.perm
  rw [List.length_map] at this
  have e : inL (L.map (·.2)) X0 Y0 X1 Y1 = fun i => inR X0 Y0 X1 Y1 (L.getD i ip0).2 := by
    funext i
    unfold inL
    rw [snd_getD]
  rwa [e] at this
theorem natV_ints (X : List Nat) : natV X = ints (X.map Int.ofNat) := by simp [natV, ints]
theorem near_perm {L : List IP} {x y : Int} {n : Nat} {out : List Nat} (h : NearAns (L.map (·.2)) x y n n out) : out.Perm ((List.range n).filter (fun i => (fun _ : Pt => true) (L.getD i ip0).2)) := by
  have e : (List.range n).filter (fun i => (fun _ : Pt => true) (L.getD i ip0).2) = List.range n := List.filter_eq_self.2 (fun _ _ => rfl)
  rw [e]
  rcases h with ⟨h0, rfl⟩ | ⟨_, h⟩
  · have : n = 0 := by omega
    subst this
    exact List.Perm.refl _
  · have hnd : out.Nodup := h.pw.imp (fun {a b} hab e => by subst e; rw [Hp.nlt_irr] at hab; cases hab)
    have hall := Hp.all_in (S := List.range n) (K := out) List.nodup_range hnd (fun t ht => List.mem_range.2 (h.lt t ht)) (by rw [h.len, List.length_range]; omega)
    exact (List.perm_ext_iff_of_nodup hnd List.nodup_range).2 (fun a => ⟨fun ha => List.mem_range.2 (h.lt a ha), hall a⟩)

set_option maxRecDepth 100000 in
set_option maxHeartbeats 4000000 in
theorem topOf_any (t : Bt) (B q : Nat) (k x y w0 a b c d id kk : Int) (w : World) (hM : BtM w B t) (hq : Box w q (actA k x y w0 a b c d id kk) 32) (hn : t.L.length ≤ 150) (hN : ∀ p ∈ t.L, p.2.Near) :
    Calls Tryz.prog 63 #[.pointer (some ⟨t.b, 0, none⟩), .pointer (some ⟨q, 0, none⟩)] w fun e w' => ∃ (ra : Option Addr) (m rc : Nat) (out : List Nat), e = .returned (.slice ra m rc) ∧ Kp (out.Perm ((List.range t.L.length).filter (fun i => inR a b c d (t.L.getD i ip0).2))) ∧ Kp (w'.ownsRow w.heap.size 3 1 (.slice ra m rc) m (ints (out.map Int.ofNat))) ∧ Kp (Below w.heap.size w w') := by
  have hd : Below w.heap.size w w.drew := (Below.refl _ _).drew
  have C := Kp.mk (gReport_any t.pa t.pc t.L.length (t.L.map (·.2)) a b c d w.drew (SlF.below hM.pts hd) hn (fun p hp => by obtain ⟨z, hz, rfl⟩ := List.mem_map.1 hp; exact hN z hz))
  obtain ⟨tb, tpw, tia, tic, tpa, tpc, tL⟩ := t
  have hbx := hM.box
  simp only at hbx C hn ⊢
  have hS0 : w.cell? ⟨tb, 2, none⟩ = some (.slice tpa tL.length tpc) ∧ w.cell? ⟨q, 4, none⟩ = some (.int .i64 a) ∧ w.cell? ⟨q, 5, none⟩ = some (.int .i64 b) ∧ w.cell? ⟨q, 6, none⟩ = some (.int .i64 c) ∧ w.cell? ⟨q, 7, none⟩ = some (.int .i64 d) := ⟨hbx.cell 2 rfl, hq.cell 4 rfl, hq.cell 5 rfl, hq.cell 6 rfl, hq.cell 7 rfl⟩
  have HSS := Kp.mk (fun (W : World) (hW : Below w.heap.size w W) => show W.cell? ⟨tb, 2, none⟩ = some (.slice tpa tL.length tpc) ∧ W.cell? ⟨q, 4, none⟩ = some (.int .i64 a) ∧ W.cell? ⟨q, 5, none⟩ = some (.int .i64 b) ∧ W.cell? ⟨q, 6, none⟩ = some (.int .i64 c) ∧ W.cell? ⟨q, 7, none⟩ = some (.int .i64 d) from ⟨(hbx.below hW).cell 2 rfl, (hq.below hW).cell 4 rfl, (hq.below hW).cell 5 rfl, (hq.below hW).cell 6 rfl, (hq.below hW).cell 7 rfl⟩)
  obtain ⟨n, hln⟩ : ∃ n, n = tL.length := ⟨_, rfl⟩
  rw [← hln] at hS0 HSS C hn
  have HLN := Kp.mk hln
  clear hM hq hbx hN hln
  go_enter Tryz.func63, Tryz.ntmps63
  go_upto_region 1 with (fail)
  go_region_held3 (fun W => W.cell? ⟨tb, 2, none⟩ = some (.slice tpa n tpc) ∧ W.cell? ⟨q, 4, none⟩ = some (.int .i64 a) ∧ W.cell? ⟨q, 5, none⟩ = some (.int .i64 b) ∧ W.cell? ⟨q, 6, none⟩ = some (.int .i64 c) ∧ W.cell? ⟨q, 7, none⟩ = some (.int .i64 d))
    (first | exact hS0 | exact hS1 | go_keep)
    ((first
      | (go_at_call 18; with_reducible refine C.out.mono ?_; rintro e w1 ⟨ra, m, rc, out, rfl, HR, HO, HB1⟩; have hS1 := HSS.out w1 (hd.trans (HB1.out.mono hd.size)))
      | fail))
  all_goals
    have HP := Kp.mk (rep_perm HR.out.1)
    have HB2 := Kp.mk (hd.trans (HB1.out.mono hd.size))
    clear hS0 hS1 HSS C
    go_wp2
    go_ret
    exact ⟨ra, m, rc, out, rfl, HP, HO, HB2⟩

set_option maxHeartbeats 2000000 in
theorem topBy_any (p : Pt) (w : World) (h : p.Near) :
    Calls Tryz.prog 65 #[.agg #[.int .i64 p.x, .int .i64 p.y, .int .i64 p.w]] w fun e w' => e = .returned (.int .i64 (wtI p)) ∧ Kp (Below w.heap.size w w') := by
  obtain ⟨x, y, v⟩ := p
  obtain ⟨_, _, h1, h2⟩ := h
  simp only at h1 h2 ⊢
  have HA := Kp.mk (below_alloc (Nat.le_refl w.heap.size) (.cells #[.int .i64 x, .int .i64 y, .int .i64 v] 28))
  have ew : IntKind.i64.wrap (-v) = -v := IntWalk.i64_in _ (by omega)
  show Calls _ _ _ _ fun e w' => e = .returned (.int .i64 (-v)) ∧ _
  go_enter Tryz.func65, Tryz.ntmps65
  go_wp2
  go_ret
  exact ⟨rfl, HA⟩

set_option maxRecDepth 100000 in
set_option maxHeartbeats 4000000 in
theorem nearOf_any (t : Bt) (B q : Nat) (k x y w0 a b c d id kk : Int) (w : World) (hM : BtM w B t) (hq : Box w q (actA k x y w0 a b c d id kk) 32) (hn : t.L.length ≤ 150) (hN : ∀ p ∈ t.L, p.2.Near) (hx : -1048576 ≤ x ∧ x ≤ 1048576) (hy : -1048576 ≤ y ∧ y ≤ 1048576) :
    Calls Tryz.prog 66 #[.pointer (some ⟨t.b, 0, none⟩), .pointer (some ⟨q, 0, none⟩)] w fun e w' => ∃ (ra : Option Addr) (m rc : Nat) (out : List Nat), e = .returned (.slice ra m rc) ∧ Kp (out.Perm ((List.range t.L.length).filter (fun i => (fun _ : Pt => true) (t.L.getD i ip0).2))) ∧ Kp (w'.ownsRow w.heap.size 3 1 (.slice ra m rc) m (ints (out.map Int.ofNat))) ∧ Kp (Below w.heap.size w w') := by
  have hd : Below w.heap.size w w.drew := (Below.refl _ _).drew
  have C := Kp.mk (nearest_sure t.pa t.pc t.L.length t.L.length x y (t.L.map (·.2)) w.drew (SlF.below hM.pts hd) hn (fun p hp => by obtain ⟨z, hz, rfl⟩ := List.mem_map.1 hp; exact hN z hz) hx hy (by omega))
  obtain ⟨tb, tpw, tia, tic, tpa, tpc, tL⟩ := t
  have hbx := hM.box
  simp only at hbx C hn ⊢
  obtain ⟨n, hln⟩ : ∃ n, n = tL.length := ⟨_, rfl⟩
  rw [← hln] at C hn hbx
  have HLN := Kp.mk hln
  clear hln
  have hS0 : w.cell? ⟨tb, 2, none⟩ = some (.slice tpa n tpc) ∧ w.cell? ⟨q, 1, none⟩ = some (.int .i64 x) ∧ w.cell? ⟨q, 2, none⟩ = some (.int .i64 y) := ⟨hbx.cell 2 rfl, hq.cell 1 rfl, hq.cell 2 rfl⟩
  have HSS := Kp.mk (fun (W : World) (hW : Below w.heap.size w W) => show W.cell? ⟨tb, 2, none⟩ = some (.slice tpa n tpc) ∧ W.cell? ⟨q, 1, none⟩ = some (.int .i64 x) ∧ W.cell? ⟨q, 2, none⟩ = some (.int .i64 y) from ⟨(hbx.below hW).cell 2 rfl, (hq.below hW).cell 1 rfl, (hq.below hW).cell 2 rfl⟩)
  clear hM hq hbx hN
  go_enter Tryz.func66, Tryz.ntmps66
  go_upto_region 1 with (fail)
  go_region_held3 (fun W => W.cell? ⟨tb, 2, none⟩ = some (.slice tpa n tpc) ∧ W.cell? ⟨q, 1, none⟩ = some (.int .i64 x) ∧ W.cell? ⟨q, 2, none⟩ = some (.int .i64 y))
    (first | exact hS0 | exact hS1 | go_keep)
    ((first
      | (go_at_call 67; with_reducible refine C.out.mono ?_; rintro e w1 ⟨ra, rc, out, rfl, HR, HO, HB1⟩; have hS1 := HSS.out w1 (hd.trans (HB1.out.mono hd.size)))
      | fail))
  all_goals
    have HP := Kp.mk (near_perm HR.out)
    have HO2 := HO.out
    rw [natV_ints, Nat.min_self] at HO2
    have HO3 := Kp.mk HO2
    have HB2 := Kp.mk (hd.trans (HB1.out.mono hd.size))
    clear hS0 hS1 HSS C HO2
    go_wp2
    go_ret
    exact ⟨ra, _, rc, rfl, out, by rw [← HLN.out]; exact HP, HO3, HB2⟩

set_option maxRecDepth 100000 in
set_option maxHeartbeats 4000000 in
theorem nearBy_any (p : Pt) (q : Nat) (k x y w0 a b c d id kk : Int) (w : World) (hq : Box w q (actA k x y w0 a b c d id kk) 32) (h : p.Near) (hx : -1048576 ≤ x ∧ x ≤ 1048576) (hy : -1048576 ≤ y ∧ y ≤ 1048576) :
    Calls Tryz.prog 68 #[.agg #[.int .i64 p.x, .int .i64 p.y, .int .i64 p.w], .pointer (some ⟨q, 0, none⟩)] w fun e w' => e = .returned (.int .i64 (dist2 x y p)) ∧ Kp (Below w.heap.size w w') := by
  obtain ⟨px, py, pw⟩ := p
  obtain ⟨⟨h1, h2⟩, ⟨h3, h4⟩, _⟩ := h
  simp only at h1 h2 h3 h4 ⊢
  have ha := below_alloc (Nat.le_refl w.heap.size) (.cells #[.int .i64 px, .int .i64 py, .int .i64 pw] 28)
  have HA := Kp.mk ha
  have hn := Box.new w #[.int .i64 px, .int .i64 py, .int .i64 pw] 28
  have hq1 := hq.below ha
  obtain ⟨w1, hw1⟩ : ∃ w1, w.alloc (.cells #[.int .i64 px, .int .i64 py, .int .i64 pw] 28) = w1 := ⟨_, rfl⟩
  rw [hw1] at HA hn hq1
  have HW1 := Kp.mk hw1
  have y0 := later_cell (show w1.cell? ⟨w.heap.size, 0, none⟩ = some (.int .i64 px) from hn.cell 0 rfl)
  have y1 := later_cell (show w1.cell? ⟨w.heap.size, 1, none⟩ = some (.int .i64 py) from hn.cell 1 rfl)
  have y2 := later_cell (show w1.cell? ⟨q, 1, none⟩ = some (.int .i64 x) from hq1.cell 1 rfl)
  have y3 := later_cell (show w1.cell? ⟨q, 2, none⟩ = some (.int .i64 y) from hq1.cell 2 rfl)
  have e1a : IntKind.i64.wrap (px - x) = px - x := IntWalk.i64_in _ (by omega)
  have e2a : IntKind.i64.wrap (py - y) = py - y := IntWalk.i64_in _ (by omega)
  have hbd : ∀ u : Int, -2097152 ≤ u → u ≤ 2097152 → 0 ≤ u * u ∧ u * u ≤ 4398046511104 := fun u h1 h2 => by
    constructor
    · rcases Int.le_total 0 u with h | h
      · exact Int.mul_nonneg h h
      · have := Int.mul_nonneg (show 0 ≤ -u by omega) (show 0 ≤ -u by omega); rw [Int.neg_mul_neg] at this; exact this
    · rcases Int.le_total 0 u with h | h
      · have := Int.mul_le_mul h2 h2 h (by omega); simpa using this
      · have := Int.mul_le_mul (show -u ≤ 2097152 by omega) (show -u ≤ 2097152 by omega) (by omega) (by omega); rw [Int.neg_mul_neg] at this; exact this
  obtain ⟨m1, m2⟩ := hbd (px - x) (by omega) (by omega)
  obtain ⟨n1, n2⟩ := hbd (py - y) (by omega) (by omega)
  show Calls _ _ _ _ fun e w' => e = .returned (.int .i64 ((px - x) * (px - x) + (py - y) * (py - y))) ∧ _
  obtain ⟨u, hu0⟩ : ∃ u, px - x = u := ⟨_, rfl⟩
  obtain ⟨v, hv0⟩ : ∃ v, py - y = v := ⟨_, rfl⟩
  rw [hu0] at m1 m2 ⊢
  rw [hv0] at n1 n2 ⊢
  have e1 : IntKind.i64.wrap (px - x) = u := e1a.trans hu0
  have e2 : IntKind.i64.wrap (py - y) = v := e2a.trans hv0
  obtain ⟨uu, hu⟩ : ∃ z, u * u = z := ⟨_, rfl⟩
  obtain ⟨vv, hv⟩ : ∃ z, v * v = z := ⟨_, rfl⟩
  rw [hu] at m1 m2 ⊢
  rw [hv] at n1 n2 ⊢
  have e3 : IntKind.i64.wrap (u * u) = uu := by rw [hu]; exact IntWalk.i64_in _ (by omega)
  have e4 : IntKind.i64.wrap (v * v) = vv := by rw [hv]; exact IntWalk.i64_in _ (by omega)
  have e5 : IntKind.i64.wrap (uu + vv) = uu + vv := IntWalk.i64_in _ (by omega)
  clear hq hn hq1 ha hw1 hbd hu hv hu0 hv0 e1a e2a
  go_enter Tryz.func68, Tryz.ntmps68
  go_upto_region 1 with (fail)
  rw [HW1.out]
  refine region_later (by kernel_rfl) (by kernel_rfl) ?_
  iterate 14 (go_big_quiet_step (fail))
  refine wpQuiet_nil ?_
  rintro w' ⟨xl, rfl⟩
  have HB := Kp.mk (below_step HA.out xl.le)
  generalize xl.val = w' at *
  clear y0 y1 y2 y3
  go_wp2
  go_ret
  exact ⟨rfl, HB⟩

end Go.Proofs.YtladgklnacihkaaGreat.Dy

