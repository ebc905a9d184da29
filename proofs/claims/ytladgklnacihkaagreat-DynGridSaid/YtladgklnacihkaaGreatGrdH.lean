import Derived.Test.YtladgklnacihkaaGreatMg22
import Derived.Test.YtladgklnacihkaaGreatMg3
import Derived.Test.YtladgklnacihkaaGreatMg0
import Derived.Test.YtladgklnacihkaaGreatMg17
import Derived.Test.YtladgklnacihkaaGreatMg4
/- Package grid: the methods of the heap of the heaviest: the walks. -/
namespace Go.Proofs.YtladgklnacihkaaGreat
set_option linter.unusedVariables false
open Go.RowKit Go.Sort
open Hp (nlt nlt_iff nlt_not swp)


abbrev hvV (hb : Nat) : Value := .iface 62 (.pointer (some ⟨hb, 0, none⟩))
theorem hreach_less (W : World) (hb : Nat) (x y : Value) : (callMethod (hvV hb) "Less" #[x, y]).run Tryz.prog W = .ok (.enter 172 #[.pointer (some ⟨hb, 0, none⟩), x, y]) W := by kernel_rfl
theorem hreach_swap (W : World) (hb : Nat) (x y : Value) : (callMethod (hvV hb) "Swap" #[x, y]).run Tryz.prog W = .ok (.enter 175 #[.pointer (some ⟨hb, 0, none⟩), x, y]) W := by kernel_rfl
theorem hreach_len (W : World) (hb : Nat) : (callMethod (hvV hb) "Len" #[]).run Tryz.prog W = .ok (.enter 20 #[.pointer (some ⟨hb, 0, none⟩)]) W := by kernel_rfl
theorem hreach_pop (W : World) (hb : Nat) : (callMethod (hvV hb) "Pop" #[]).run Tryz.prog W = .ok (.enter 173 #[.pointer (some ⟨hb, 0, none⟩)]) W := by kernel_rfl

/-- The heap's memory: a box that holds the places (an own row) and the points. -/
structure HvM (hb B : Nat) (sa : Option Addr) (m cap : Nat) (a : Option Addr) (n acap : Nat) (L : List Pt) (X : List Nat) (W : World) : Prop where
  bx : Box W hb #[.slice sa m cap, .slice a n acap] 64
  own : W.ownsRow B 3 1 (.slice sa m cap) m (ints (X.map Int.ofNat))
  ps : SlF ptL 3 W a n acap L
  lt : ∀ x ∈ X, x < n
  len : X.length = m
  ag : ∀ k, blk sa = some k → blk a ≠ some k
  ah : blk a ≠ some hb
theorem HvM.cell {hb B : Nat} {sa : Option Addr} {m cap : Nat} {a : Option Addr} {n acap : Nat} {L : List Pt} {X : List Nat} {W : World} (h : HvM hb B sa m cap a n acap L X W) (i : Nat) (hi : i < m) :
    ∃ g, sa = some ⟨g, 0, none⟩ ∧ W.cell? ⟨g, i, none⟩ = some (.int .i64 ((X.getD i 0 : Nat) : Int)) ∧ g ≠ hb ∧ m ≤ cap ∧ X.getD i 0 < n ∧
      ∃ pb po, a = some ⟨pb, po, none⟩ ∧ W.cell? ⟨pb, po + X.getD i 0 * 3 + 2, none⟩ = some (.int .i64 (L.getD (X.getD i 0) pt0).w) := by
  obtain ⟨g, rfl, _, _⟩ := own_some h.own (by omega)
  have hlen := h.len
  have hs := own_sl_len h.own (by rw [List.length_map]; exact h.len)
  obtain ⟨b, o, e, co⟩ := hs.at i (by rw [List.length_map, hlen]; exact hi)
  simp only [Option.some.injEq, Addr.mk.injEq, and_true] at e
  obtain ⟨rfl, rfl⟩ := e
  rw [List.getElem_map, ← getD_at X 0 (by omega), Nat.zero_add] at co
  have hx : X.getD i 0 < n := h.lt _ (by rw [getD_at X 0 (by omega)]; exact List.getElem_mem _)
  have hl := h.ps.len ptL_len (by omega)
  obtain ⟨pb, po, rfl, hpb, cp⟩ := h.ps.at ptL_len (by omega) (X.getD i 0) (by omega)
  rw [← getD_at L pt0 (by omega)] at cp
  exact ⟨_, rfl, co, fun e => row_box h.own h.bx (by decide) (by rw [← e]; rfl), (own_slc h.own).le, hx, pb, po, rfl, cp 2 (by omega)⟩

set_option maxRecDepth 100000 in
set_option maxHeartbeats 4000000 in
theorem hless_any (hb B : Nat) (sa : Option Addr) (m cap : Nat) (a : Option Addr) (n acap : Nat) (L : List Pt) (X : List Nat) (W : World) (h : HvM hb B sa m cap a n acap L X W) (i j : Nat) (hi : i < m) (hj : j < m) (hm : m ≤ 900) (hn : n ≤ 1000) :
    Calls Tryz.prog 172 #[.pointer (some ⟨hb, 0, none⟩), .int .i64 (i : Int), .int .i64 (j : Int)] W fun e w' => e = .returned (.bool (nlt (wtL L) (X.getD i 0) (X.getD j 0))) ∧ ∃ q os, w' = grow (W.drewN q) os := by
  obtain ⟨g, rfl, c0, hgh, hmc, hxi, pb, po, rfl, p0⟩ := h.cell i hi
  obtain ⟨_, e1, c1, _, _, hxj, _, _, e2, p1⟩ := h.cell j hj
  simp only [Option.some.injEq, Addr.mk.injEq, and_true] at e1 e2
  obtain rfl := e1
  obtain ⟨rfl, rfl⟩ := e2
  have b0 : W.cell? ⟨hb, 0, none⟩ = some (.slice (some ⟨g, 0, none⟩) m cap) := h.bx.cell 0 rfl
  have b1 : W.cell? ⟨hb, 1, none⟩ = some (.slice (some ⟨pb, po, none⟩) n acap) := h.bx.cell 1 rfl
  have hnac : n ≤ acap := h.ps.le
  have HE := Kp.mk (show decide (cmpN (L.getD (X.getD j 0) pt0).w ((X.getD i 0 : Nat) : Int) (L.getD (X.getD i 0) pt0).w ((X.getD j 0 : Nat) : Int) < 0) = nlt (wtL L) (X.getD i 0) (X.getD j 0) from by
    have e : (cmpN (L.getD (X.getD j 0) pt0).w ((X.getD i 0 : Nat) : Int) (L.getD (X.getD i 0) pt0).w ((X.getD j 0 : Nat) : Int) < 0) ↔ nlt (wtL L) (X.getD i 0) (X.getD j 0) = true := by
      rw [cmpN_neg, nlt_iff]; unfold wtL; omega
    cases hh : nlt (wtL L) (X.getD i 0) (X.getD j 0) with
    | true => exact decide_eq_true (e.2 hh)
    | false => exact decide_eq_false (fun c => by rw [e.1 c] at hh; cases hh))
  rw [← HE.out]
  clear h HE
  generalize X.getD i 0 = x at *
  generalize X.getD j 0 = y at *
  generalize (L.getD x pt0).w = wx at *
  generalize (L.getD y pt0).w = wy at *
  have C1 := Kp.mk (fun W => q_eq (compare_any wy wx W))
  have C2 := Kp.mk (fun W => q_eq (compare_any (x : Int) (y : Int) W))
  have HP := Kp.mk (show cmpN wy (x : Int) wx (y : Int) = or2 (cmpI wy wx) (cmpI (x : Int) (y : Int)) from rfl)
  rw [HP.out]
  clear HP
  generalize cmpI wy wx = c1' at *
  generalize cmpI (x : Int) (y : Int) = c2' at *
  go_enter Tryz.func172, Tryz.ntmps172
  go_upto_region 1 with (fail)
  go_region
  go_upto_region 2 with (fail)
  obtain ⟨W1, hW1⟩ : ∃ W1, W.drew = W1 := ⟨_, rfl⟩
  have b1' : W1.cell? ⟨hb, 1, none⟩ = some (.slice (some ⟨pb, po, none⟩) n acap) := by rw [← hW1]; exact b1
  have p0' : W1.cell? ⟨pb, po + x * 3 + 2, none⟩ = some (.int .i64 wx) := by rw [← hW1]; exact p0
  have p1' : W1.cell? ⟨pb, po + y * 3 + 2, none⟩ = some (.int .i64 wy) := by rw [← hW1]; exact p1
  rw [hW1]
  have HW1 := Kp.mk hW1
  clear b0 b1 p0 p1 c0 c1 hW1
  go_still_tail 20, (by kernel_rfl)
  still_call (C1.out _)
  repeat still_step
  still_call (C2.out _)
  try refine wpStill_nil ?_
  have bx := Box.new W1.drew #[.int .i64 c1', .int .i64 c2'] 3
  have CO := Kp.mk (or2_any W1.heap.size c1' c2' (W1.drew.alloc (.cells #[.int .i64 c1', .int .i64 c2'] 3)) (bx.cell 0 rfl) (bx.cell 1 rfl))
  clear bx
  go_wp2_with fail
  refine CO.out.mono ?_
  rintro e w' ⟨rfl, rfl⟩
  go_wp2
  go_ret
  exact ⟨rfl, 2, #[.cells #[.int .i64 c1', .int .i64 c2'] 3], by rw [← HW1.out, alloc_eq_grow]; rfl⟩

theorem own_frontH {w : World} {B e g n m cap : Nat} {xs : List Value} (h : w.ownsRow B e 1 (.slice (some ⟨g, 0, none⟩) n cap) n xs) (hm : m ≤ n) : w.ownsRow B e 1 (.slice (some ⟨g, 0, none⟩) m cap) m (xs.take m) := by
  have hxl : xs.length = n := by rw [h.1, Nat.mul_one]
  refine ⟨by rw [List.length_take, hxl]; omega, ?_⟩
  rcases h.2 with ⟨hv, _⟩ | ⟨g', cap', cur, hv, hB, hg, h1, h2, h3, h4⟩
  · cases hv
  · simp only [Value.slice.injEq, Option.some.injEq, Addr.mk.injEq, and_true, true_and] at hv
    obtain ⟨rfl, rfl⟩ := hv
    refine .inr ⟨g, cap, cur, rfl, hB, hg, by omega, h2, h3, ?_⟩
    rw [← h4, Nat.mul_one, Nat.mul_one, List.take_take, Nat.min_eq_left hm]
/-- The row behind 'append(s[:i], s[i+1:]...)'. -/theorem natI_set : ∀ (X : List Nat) (i v : Nat), i < X.length → (ints (X.map Int.ofNat)).set i (.int .i64 (v : Int)) = ints ((X.set i v).map Int.ofNat)
  | [], i, v, h => absurd h (by simp)
  | x :: X, 0, v, _ => rfl
  | x :: X, i + 1, v, h => by
    have := natI_set X i v (by simpa using h)
    show Value.int .i64 (x : Int) :: (ints (X.map Int.ofNat)).set i (.int .i64 (v : Int)) = _
    rw [this]; rfl

set_option maxRecDepth 100000 in
set_option maxHeartbeats 4000000 in
theorem hswap_any (hb B : Nat) (sa : Option Addr) (m cap : Nat) (a : Option Addr) (n acap : Nat) (L : List Pt) (X : List Nat) (W : World) (h : HvM hb B sa m cap a n acap L X W) (i j : Nat) (hi : i < m) (hj : j < m) (hm : m ≤ 900) :
    Calls Tryz.prog 175 #[.pointer (some ⟨hb, 0, none⟩), .int .i64 (i : Int), .int .i64 (j : Int)] W fun e w' => e = .returned (.tuple #[]) ∧ Kp (HvM hb B sa m cap a n acap L (Hp.swp X i j) w') ∧ Kp (W.grownBy w' (blk sa)) := by
  obtain ⟨g, rfl, c0, hgh, hmc, hxi, _⟩ := h.cell i hi
  obtain ⟨_, e1, c1, _, _, hxj, _⟩ := h.cell j hj
  simp only [Option.some.injEq, Addr.mk.injEq, and_true] at e1
  obtain rfl := e1
  have b0 : W.cell? ⟨hb, 0, none⟩ = some (.slice (some ⟨g, 0, none⟩) m cap) := h.bx.cell 0 rfl
  have f0 := fun k => h.own.frozenAt k
  have HM := Kp.mk h
  have hlen := h.len
  have HSW := Kp.mk (show (((ints (X.map Int.ofNat)).set i (.int .i64 ((X.getD j 0 : Nat) : Int))).set j (.int .i64 ((X.getD i 0 : Nat) : Int))) = ints ((Hp.swp X i j).map Int.ofNat) from by
    unfold Hp.swp
    rw [natI_set X i _ (by omega), natI_set _ j _ (by rw [List.length_set]; omega)])
  have HSM := Kp.mk (show ∀ x ∈ Hp.swp X i j, x < n from fun x hx => h.lt x ((Hp.swp_perm X i j (by omega) (by omega)).mem_iff.1 hx))
  have HSL := Kp.mk (show (Hp.swp X i j).length = m by rw [Hp.swp_length]; exact hlen)
  generalize ((X.getD i 0 : Nat) : Int) = p1 at *
  generalize ((X.getD j 0 : Nat) : Int) = p2 at *
  have HR := Kp.mk ((((h.own.stored i (.int .i64 p2)).1).stored j (.int .i64 p1)).1)
  have HG := Kp.mk (grown_drew (grown_trans (grown_set W g i (.int .i64 p2)) (grown_set _ g j (.int .i64 p1))))
  have HBX := Kp.mk (box_grow h.bx HG.out (fun e => hgh (Option.some.inj e)))
  have HPS := Kp.mk (SlC.keep h.ps HG.out (fun k hk => by cases hk; exact h.ag g rfl))
  rw [HSW.out] at HR
  clear h hlen HSW
  have hbg : ¬ hb = g := fun e => hgh e.symm
  have hgi := hgh
  obtain ⟨a1, ha1⟩ := cell?_setCell_some (w := W) (p := ⟨g, i, none⟩) (x := .int .i64 p2) (q := ⟨g, j, none⟩) c1
  have k0 : (W.setCell ⟨g, i, none⟩ (.int .i64 p2)).cell? ⟨hb, 0, none⟩ = some (.slice (some ⟨g, 0, none⟩) m cap) := (box_far HM.out.bx hgh).cell 0 rfl
  have g0 := f0 i
  have g1 := f0 j
  clear f0
  have HRD := Kp.mk (own_below HR.out ((Below.refl _ _).drew))
  clear HR
  go_enter Tryz.func175, Tryz.ntmps175
  go_wp2
  go_region
  go_wp2
  go_end0
  exact ⟨rfl, ⟨⟨HBX.out, HRD.out, HPS.out, HSM.out, HSL.out, HM.out.ag, HM.out.ah⟩⟩, HG⟩

set_option maxHeartbeats 1000000 in
theorem hlen_any (hb : Nat) (cs : Array Value) (sa : Option Addr) (m cap : Nat) (W : World) (h : W.cell? ⟨hb, 0, none⟩ = some (.slice sa m cap)) : Calls Tryz.prog 20 #[.pointer (some ⟨hb, 0, none⟩)] W fun e w' => e = .returned (.int .i64 (m : Int)) ∧ W = w' := by
  go_enter Tryz.func20, Tryz.ntmps20
  go_wp2
  go_ret
  exact ⟨rfl, rfl⟩

set_option maxRecDepth 100000 in
set_option maxHeartbeats 4000000 in
theorem hpopM_any (hb B : Nat) (sa : Option Addr) (m cap : Nat) (a : Option Addr) (n acap : Nat) (L : List Pt) (X : List Nat) (x : Nat) (W : World) (h : HvM hb B sa (m + 1) cap a n acap L (X ++ [x]) W) (hm : m ≤ 900) :
    Calls Tryz.prog 173 #[.pointer (some ⟨hb, 0, none⟩)] W fun e w' => e = .returned (.iface 3 (.int .i64 (x : Int))) ∧ Kp (HvM hb B sa m cap a n acap L X w') ∧ Kp (W.grownBy w' (some hb)) := by
  have hxl := h.len
  rw [List.length_append] at hxl
  simp at hxl
  obtain ⟨g, rfl, c0, hgh, hmc, hxi, _⟩ := h.cell m (by omega)
  have hxx : (X ++ [x]).getD m 0 = x := by rw [← hxl]; simp [List.getD]
  rw [hxx] at c0 hxi
  have b0 : W.cell? ⟨hb, 0, none⟩ = some (.slice (some ⟨g, 0, none⟩) (m + 1) cap) := h.bx.cell 0 rfl
  have bf := h.bx.free 0
  have HG := Kp.mk (grown_set W hb 0 (.slice (some ⟨g, 0, none⟩) m cap))
  have HOF := Kp.mk (own_frontH h.own (m := m) (by omega))
  have HF := Kp.mk (show (ints ((X ++ [x]).map Int.ofNat)).take m = ints (X.map Int.ofNat) from by
    rw [List.map_append, ints_append, List.take_left' (by rw [ints_length, List.length_map]; exact hxl)])
  rw [HF.out] at HOF
  have HN := Kp.mk (show HvM hb B (some ⟨g, 0, none⟩) m cap a n acap L X (W.setCell ⟨hb, 0, none⟩ (.slice (some ⟨g, 0, none⟩) m cap)) from
    ⟨box_put (i := 0) h.bx _, own_keep HOF.out HG.out (fun k hk => by cases hk; intro e; exact hgh (Option.some.inj e)), SlC.keep h.ps HG.out (fun k hk => by cases hk; exact h.ah), fun y hy => h.lt y (List.mem_append_left _ hy), hxl, h.ag, h.ah⟩)
  have e1 : IntKind.i64.wrap ((m : Int) + 1 - 1) = (m : Int) := by rw [show (m : Int) + 1 - 1 = m by omega]; exact IntWalk.i64_in _ (by omega)
  have hmc' : m ≤ cap := by omega
  have hcm := (own_slc h.own).capm
  unfold maxLen at hcm
  clear h hxx hxl HOF HF
  go_enter Tryz.func173, Tryz.ntmps173
  go_wp2
  go_ret
  exact ⟨rfl, HN, HG⟩

/-- All but the heap's box and its row is kept. -/
structure KeepH (hb : Nat) (sa : Option Addr) (w W : World) : Prop where
  os : W.os = w.os
  tape : W.tape = w.tape
  output : W.output = w.output
  size : w.heap.size ≤ W.heap.size
  block : ∀ i, i < w.heap.size → i ≠ hb → blk sa ≠ some i → W.heap[i]? = w.heap[i]?
theorem KeepH.refl (hb : Nat) (sa : Option Addr) (w : World) : KeepH hb sa w w := ⟨rfl, rfl, rfl, Nat.le_refl _, fun _ _ _ _ => rfl⟩
theorem KeepH.trans {hb : Nat} {sa : Option Addr} {a b c : World} (h : KeepH hb sa a b) (k : KeepH hb sa b c) : KeepH hb sa a c :=
  ⟨k.os.trans h.os, k.tape.trans h.tape, k.output.trans h.output, Nat.le_trans h.size k.size, fun i hi h1 h2 => by
    rw [k.block i (Nat.lt_of_lt_of_le hi h.size) h1 h2, h.block i hi h1 h2]⟩
theorem KeepH.below {hb : Nat} {sa : Option Addr} {a b : World} (h : Below a.heap.size a b) : KeepH hb sa a b := ⟨h.os, h.tape, h.output, h.size, fun i hi _ _ => h.block i hi⟩
theorem KeepH.box {hb : Nat} {sa : Option Addr} {a b : World} (h : a.grownBy b (some hb)) : KeepH hb sa a b := ⟨h.os, h.tape, h.output, h.size, fun i hi h1 _ => h.block i hi (fun e => h1 (by cases e; rfl))⟩
theorem KeepH.row {hb : Nat} {sa : Option Addr} {a b : World} (h : a.grownBy b (blk sa)) : KeepH hb sa a b := ⟨h.os, h.tape, h.output, h.size, fun i hi _ h2 => h.block i hi (fun e => h2 e.symm)⟩
theorem KeepH.own {hb : Nat} {sa ra : Option Addr} {a b : World} {B e size n m c : Nat} {xs : List Value} (h : KeepH hb sa a b) (ho : a.ownsRow B e size (.slice ra m c) n xs) (h1 : blk ra ≠ some hb) (h2 : ∀ k, blk sa = some k → blk ra ≠ some k) : b.ownsRow B e size (.slice ra m c) n xs := by
  refine ⟨ho.1, ?_⟩
  rcases ho.2 with ho' | ⟨g, cap, cur, hv, hB, hg, r1, r2, r3, r4⟩
  · exact .inl ho'
  · simp only [Value.slice.injEq] at hv
    obtain ⟨rfl, rfl, rfl⟩ := hv
    exact .inr ⟨g, _, cur, rfl, hB, by rw [h.block g (Array.getElem?_eq_some_iff.1 hg).1 (fun e => h1 (by rw [← e]; rfl)) (fun e => h2 g e rfl)]; exact hg, r1, r2, r3, r4⟩
theorem KeepH.to {hb r : Nat} {sa : Option Addr} {w W : World} (h : KeepH hb sa w W) (h1 : r ≤ hb) (h2 : ∀ k, blk sa = some k → r ≤ k) (h3 : r ≤ w.heap.size) : Below r w W :=
  ⟨h.os, h.tape, h.output, h.size, fun i hi => h.block i (by omega) (by omega) (fun e => by have := h2 i e; omega)⟩

theorem HvM.below {hb B : Nat} {sa : Option Addr} {m cap : Nat} {a : Option Addr} {n acap : Nat} {L : List Pt} {X : List Nat} {W W' : World} (h : HvM hb B sa m cap a n acap L X W) (hb' : Below W.heap.size W W') : HvM hb B sa m cap a n acap L X W' :=
  ⟨h.bx.below hb', own_below h.own hb', SlF.below h.ps hb', h.lt, h.len, h.ag, h.ah⟩
theorem hgrow_below (w : World) (q : Nat) (os : Array Obj) : Below w.heap.size w (Sort.grow (w.drewN q) os) := by
  refine ⟨rfl, rfl, rfl, by simp [Sort.grow], fun i hi => ?_⟩
  rw [heap_grow_old _ _ (by simpa using hi)]
  rfl

def hvE (x : Nat) : Value := .iface 3 (.int .i64 (x : Int))
abbrev HvI (hb B : Nat) (sa : Option Addr) (cap : Nat) (a : Option Addr) (n acap : Nat) (L : List Pt) (w0 : World) (X : List Nat) (W : World) : Prop := HvM hb B sa X.length cap a n acap L X W ∧ KeepH hb sa w0 W ∧ X.length ≤ 900
theorem hends (hb B : Nat) (sa : Option Addr) (cap : Nat) (a : Option Addr) (n acap : Nat) (L : List Pt) (w0 : World) : HpEnds (hvV hb) hvE (fun _ => False) (HvI hb B sa cap a n acap L w0) where
  push X W x h hf hn := False.elim hf
  pop X W x h := by
    obtain ⟨h1, h2, h3⟩ := h
    have hl : (X ++ [x]).length = X.length + 1 := by simp
    rw [hl] at h1 h3
    refine ⟨_, _, hreach_pop W hb, ?_⟩
    refine (hpopM_any hb B sa X.length cap a n acap L X x W h1 (by omega)).mono ?_
    rintro e w' ⟨rfl, k1, k2⟩
    exact ⟨rfl, ⟨k1.out, h2.trans (KeepH.box k2.out), by omega⟩⟩
theorem hops (hb B : Nat) (sa : Option Addr) (cap : Nat) (a : Option Addr) (n acap : Nat) (L : List Pt) (w0 : World) (hn : n ≤ 1000) : HpOps (hvV hb) (nlt (wtL L)) (HvI hb B sa cap a n acap L w0) where
  less X W i j h hi hj := by
    obtain ⟨h1, h2, h3⟩ := h
    refine ⟨_, _, hreach_less W hb _ _, ?_⟩
    refine (hless_any hb B sa X.length cap a n acap L X W h1 i j hi hj h3 hn).mono ?_
    rintro e w' ⟨rfl, q, os, rfl⟩
    have hbl := hgrow_below W q os
    exact ⟨rfl, ⟨h1.below hbl, h2.trans (KeepH.below hbl), h3⟩⟩
  swap X W i j h hi hj := by
    obtain ⟨h1, h2, h3⟩ := h
    refine ⟨_, _, hreach_swap W hb _ _, ?_⟩
    refine (hswap_any hb B sa X.length cap a n acap L X W h1 i j hi hj h3).mono ?_
    rintro e w' ⟨rfl, k1, k2⟩
    refine ⟨rfl, ⟨?_⟩⟩
    have hl := Hp.swp_length X i j
    unfold HvI
    rw [hl]
    exact ⟨k1.out, h2.trans (KeepH.row k2.out), h3⟩
  len X W h := by
    obtain ⟨h1, h2, h3⟩ := h
    refine ⟨_, _, hreach_len W hb, ?_⟩
    refine (hlen_any hb #[] sa X.length cap W (h1.bx.cell 0 rfl)).mono ?_
    rintro e w' ⟨rfl, rfl⟩
    exact ⟨rfl, ⟨h1, h2, h3⟩⟩

end Go.Proofs.YtladgklnacihkaaGreat

