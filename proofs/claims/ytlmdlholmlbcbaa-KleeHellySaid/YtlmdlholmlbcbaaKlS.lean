/- klee.sweep: the walk, over whatever is done with a strip. -/
import Derived.Test.YtlmdlholmlbcbaaBrd
import Derived.Test.YtlmdlholmlbcbaaKlM
import Derived.Test.YtlmdlholmlbcbaaKlT
import Derived.Test.YtlmdlholmlbcbaaSegY
import Derived.Test.YtlmdlholmlbcbaaSrt2
import Derived.Test.YtlmdlholmlbcbaaTwo
namespace Go.Proofs.Ytlmdlholmlbcbaa
set_option linter.unusedVariables false
open Go.RowKit Go.Sort
open Pick (Rc Bd bd0 bds vB IsSweep)

/-- slices.Sort and slices.Compact on a row of the call's own: what else is kept. -/
theorem sortG_own (B : Nat) (a : Option Addr) (c n : Nat) (l : List Int) (w : World) (h : w.ownsRow B 3 1 (.slice a n c) n (ints l)) (hl : l.length = n) (hn : n ≤ 100000) :
    Calls Try.prog 109 #[.slice a n c] w fun e w' => e = .returned (.tuple #[]) ∧ Kp (w'.ownsRow B 3 1 (.slice a n c) n (ints (l.mergeSort fun x y => decide (x ≤ y)))) ∧ Kp (w.grownBy w' (blk a)) := by
  by_cases h0 : n = 0
  · subst h0
    obtain rfl : l = [] := List.length_eq_zero_iff.1 hl
    exact (Try.slices_Sort_int_none a c w).mono fun e w' ⟨h1, h2⟩ => ⟨h1, by subst h2; exact ⟨by simpa [ints] using h⟩, by subst h2; exact ⟨grown_refl _ _⟩⟩
  · subst hl
    obtain ⟨g, rfl, hg, hg2⟩ := own_some h (by omega)
    rcases h.2 with ⟨hv, _⟩ | ⟨g', cap', cur, hv, hB', hgb, h1, h2, h3, h4⟩
    · cases hv
    simp only [Value.slice.injEq, Option.some.injEq, Addr.mk.injEq, and_true, true_and] at hv
    obtain ⟨rfl, rfl⟩ := hv
    refine (Try.slices_Sort_int g 0 c l w (holds_of_blockI hgb (by rw [Nat.mul_one] at h4; exact h4)) hg2 (by omega)).mono ?_
    rintro e w' ⟨rfl, k, os, rfl⟩
    refine ⟨rfl, ⟨?_⟩, ⟨?_⟩⟩
    · exact ownsRow_sortedI (by rw [List.length_mergeSort]) hB' hgb h1 h2 h3
    · exact grownBy_sortedI _
theorem compactG_own (B : Nat) (a : Option Addr) (c n : Nat) (l : List Int) (w : World) (h : w.ownsRow B 3 1 (.slice a n c) n (ints l)) (hl : l.length = n) (hn : n ≤ 100000) :
    Calls Try.prog 110 #[.slice a n c] w fun e w' => ∃ m, e = .returned (.slice a m c) ∧ m = (Lib.compact l).length ∧ Kp (w'.ownsRow B 3 1 (.slice a m c) m (ints (Lib.compact l))) ∧ Kp (w.grownBy w' (blk a)) := by
  by_cases h0 : n = 0
  · subst h0
    obtain rfl : l = [] := List.length_eq_zero_iff.1 hl
    exact (Try.slices_Compact_int_empty a c w).mono fun e w' ⟨h1, h2⟩ => ⟨0, h1, rfl, by subst h2; exact ⟨h⟩, by subst h2; exact ⟨grown_refl _ _⟩⟩
  · obtain ⟨g, rfl, hg, hg2⟩ := own_some h (by omega)
    have hle := Lib.compact_length_le l
    have hsl := own_slc h
    refine (Try.slices_Compact_int_cells g 0 n c l w (by omega) (by omega) hsl.le (fun j hj => ?_) (fun j hj => by rw [Nat.zero_add]; exact h.frozenAt j)).mono ?_
    · rw [Nat.zero_add, h.cellAt j (by omega)]
      rw [List.getElem?_eq_getElem (by rw [ints_length]; exact hj), ints_get, getD_at _ _ hj]
    · rintro e w' ⟨rfl, q, rfl⟩
      rw [List.take_of_length_le (by omega)]
      have hd : (w.drewN q).ownsRow B 3 1 (.slice (some ⟨g, 0, none⟩) n c) n (ints l) := own_below h (drewN_below q)
      have hlen : ((Lib.compact l ++ List.replicate (n - (Lib.compact l).length) 0).map (Value.int .i64)).length = n := by
        rw [List.length_map, List.length_append, List.length_replicate]; omega
      have h1 := own_setCells _ 0 (w.drewN q) _ hd (by rw [Nat.zero_add, hlen]; exact Nat.le_refl _)
      refine ⟨_, rfl, rfl, ⟨?_⟩, ⟨?_⟩⟩
      · have h2 := own_front h1.1 (m := (Lib.compact l).length) (by omega)
        have e : (List.take 0 (ints l) ++ List.map (Value.int .i64) (Lib.compact l ++ List.replicate (n - (Lib.compact l).length) 0) ++ List.drop (0 + (List.map (Value.int .i64) (Lib.compact l ++ List.replicate (n - (Lib.compact l).length) 0)).length) (ints l)).take (Lib.compact l).length = ints (Lib.compact l) := by
          rw [List.take_zero, List.nil_append, List.map_append, List.append_assoc, List.take_append_of_le_length (by rw [List.length_map]; exact Nat.le_refl _), List.take_of_length_le (by rw [List.length_map]; exact Nat.le_refl _)]
          rfl
        rwa [e] at h2
      · exact (grown_of_below (drewN_below q)).trans h1.2

/-- All rows where something begins, or is over. -/
def ysR : List Rc → List Int
  | [] => []
  | r :: l => r.y0 :: (r.y1 + 1) :: ysR l
theorem ysR_append : ∀ l m, ysR (l ++ m) = ysR l ++ ysR m
  | [], _ => rfl
  | r :: l, m => by show _ :: _ :: ysR (l ++ m) = _; rw [ysR_append l m]; rfl
theorem ysR_length : ∀ l, (ysR l).length = 2 * l.length
  | [] => rfl
  | r :: l => by show (ysR l).length + 1 + 1 = _; rw [ysR_length l, List.length_cons]; omega
theorem ysR_mem : ∀ (l : List Rc) (y : Int), y ∈ ysR l ↔ ∃ r ∈ l, y = r.y0 ∨ y = r.y1 + 1
  | [], y => by simp [ysR]
  | r :: l, y => by
    show y ∈ r.y0 :: (r.y1 + 1) :: ysR l ↔ _
    rw [List.mem_cons, List.mem_cons, ysR_mem l y]
    simp only [List.mem_cons, exists_eq_or_imp, or_assoc]
attribute [irreducible] ysR

theorem info_bd : (Try.prog.info? 149).map (fun i => (i.zero, i.size, i.bytes)) = some (some (.agg #[.int .i64 0, .int .i64 0, .int .i64 0, .int .i64 0]), 4, 32) := by kernel_rfl
theorem tBds : ElemTy Try.prog 147 149 4 32 (.agg #[.int .i64 0, .int .i64 0, .int .i64 0, .int .i64 0]) :=
  ⟨Try.underlying147, by obtain ⟨i0, hi, h0, h1, h2⟩ := info_parts info_bd; exact ⟨i0, hi, h0, h1, h2⟩, rfl, by decide⟩

theorem grown_stepK {wo wr w' : World} {r r' : Option Nat} (h : wo.grownBy wr r) (k : wr.grownBy w' r') (hr : ∀ q, r' = some q → wo.heap.size ≤ q ∨ r = some q) : wo.grownBy w' r :=
  ⟨k.os.trans h.os, k.tape.trans h.tape, k.output.trans h.output, Nat.le_trans h.size k.size, fun i hi hne => by
    refine (k.block i (Nat.lt_of_lt_of_le hi h.size) (fun e => ?_)).trans (h.block i hi hne)
    rcases hr i e.symm with h1 | h1
    · omega
    · exact hne h1.symm⟩
theorem int_atK {w : World} {g c n : Nat} {X : List Int} {B : Nat} (h : w.ownsRow B 3 1 (.slice (some ⟨g, 0, none⟩) n c) n (ints X)) (hl : X.length = n) (i : Nat) (hi : i < n) : w.cell? ⟨g, i, none⟩ = some (.int .i64 (X.getD i 0)) := by
  rw [h.cellAt i (by omega)]
  simp only [ints, List.getElem?_map]
  rw [List.getElem?_eq_getElem (by omega), getD_at _ _ (by omega)]
  rfl
theorem lit_own (w : World) (cs : Array Value) (t : TypeId) (n size : Nat) (hl : cs.size = n * size) (hn : n ≤ maxLen) : (w.alloc (.cells cs t)).ownsRow w.heap.size t size (.slice (some ⟨w.heap.size, 0, none⟩) n n) n cs.toList :=
  ⟨by simp [hl], .inr ⟨w.heap.size, n, cs, rfl, Nat.le_refl _, heap_alloc_new w _, Nat.le_refl _, hn, hl, List.take_of_length_le (by rw [Array.length_toList, hl]; exact Nat.le_refl _)⟩⟩
/-- slices.BinarySearch on a row of the call's own. -/
theorem bsearch_own (B : Nat) (a : Option Addr) (c n j : Nat) (Y : List Int) (x : Int) (w : World) (h : w.ownsRow B 3 1 (.slice a n c) n (ints Y)) (hl : Y.length = n) (h0 : 0 < n) (hn : n ≤ 100000) (hs : Y.Pairwise (· ≤ ·)) (hc : Y.countP (fun y => decide (y < x)) = j) :
    Calls Try.prog 113 #[.slice a n c, .int .i64 x] w fun e w' => ∃ b, e = .returned (.tuple #[.int .i64 (j : Int), .bool b]) ∧ ∃ q, w' = w.drewN q := by
  obtain ⟨g, rfl, hg, hg2⟩ := own_some h h0
  have := Try.slices_BinarySearch_int g 0 n c Y x w (by omega) (by omega) (fun k hk => by rw [Nat.zero_add]; exact int_atK h hl k (by omega)) (by rw [List.take_of_length_le (by omega)]; exact hs)
  rw [List.take_of_length_le (by omega), hc] at this
  exact this.mono fun e w' ⟨h1, h2⟩ => ⟨_, h1, h2⟩

theorem runD_one (o : SOp) (D : List Int) : runD D [o] 1 = upd o 0 D := by unfold runD runD; rfl

/-- What is done with a strip. -/
structure SwOps (g bp : Nat) (l : List Rc) (R : List Int → List Bd → Nat → Int → Prop) : Prop where
  zero : ∀ Y B, IsSweep l Y B → R Y B 0 0
  one : ∀ Y B v, IsSweep l Y B → 0 < B.length → R Y B 0 v → R Y B 1 v
  skip : ∀ Y B i v, IsSweep l Y B → 0 < i → i < B.length → (B.getD i bd0).x = (B.getD (i - 1) bd0).x → R Y B i v → R Y B (i + 1) v
  call : ∀ args w, (callFunc g args).run Try.prog w = .ok (.enter g args) w
  does : ∀ Y B i v (n : Nat) (D : List Int) (ya da : Option Addr) (yc dc : Nat) (W : World), IsSweep l Y B → 0 < i → i < B.length → (B.getD (i - 1) bd0).x < (B.getD i bd0).x → R Y B i v →
    Y.length = n → 0 < n → n ≤ 100 → D.length = n → (∀ j, j < n → D.getD j 0 = vB (B.take i) (Y.getD j 0)) → SlI W ya yc Y → SlI W da dc D → blk ya ≠ some bp → blk da ≠ some bp → Box W bp #[.int .i64 v] 3 →
    Calls Try.prog g #[.int .i64 ((B.getD i bd0).x - (B.getD (i - 1) bd0).x), .slice ya n yc, .slice da n dc, .pointer (some ⟨bp, 0, none⟩)] W fun e w' => e = .returned (.tuple #[]) ∧ ∃ v', Kp (R Y B (i + 1) v') ∧ Kp (W.grownBy w' (some bp)) ∧ Kp (Box w' bp #[.int .i64 v'] 3)

attribute [local irreducible] bds vB
set_option maxRecDepth 100000 in
set_option maxHeartbeats 4000000 in
theorem sweep_any (g bp : Nat) (R : List Int → List Bd → Nat → Int → Prop) (a : Option Addr) (cap n : Nat) (L : List Rc) (w : World) (h : SlF rcL 4 w a n cap L) (hn : n ≤ 40) (hN : ∀ p ∈ L, RcOk p) (hb : Box w bp #[.int .i64 0] 3) (hO : SwOps g bp L R) :
    Calls Try.prog 71 #[.slice a n cap, .func (.func g) #[] #[.pointer (some ⟨bp, 0, none⟩)]] w fun e w' => e = .returned (.tuple #[]) ∧ ∃ Y B v, Kp (IsSweep L Y B ∧ R Y B B.length v) ∧ Kp (Box w' bp #[.int .i64 v] 3) ∧ Kp (w.grownBy w' (some bp)) := by
  have HLn := Kp.mk (h.len rcL_len (by omega))
  have H := Kp.mk h
  have HN := Kp.mk hN
  have HBX := Kp.mk hb
  have HO := Kp.mk hO
  obtain ⟨B, hB⟩ : ∃ B, B = w.heap.size := ⟨_, rfl⟩
  have HBE := Kp.mk hB
  clear h hN hb hO hB
  go_enter Try.func71, Try.ntmps71
  go_wp2
  go_loopw [4, 5, 17] (fun v4 v5 i wr => ∃ (k : Nat) (ya : Option Addr) (yc : Nat) (ba : Option Addr) (bc : Nat), k ≤ n ∧ i = .int .i64 k ∧ v4 = .slice ya (2 * k) yc ∧ v5 = .slice ba (2 * k) bc ∧ Kp (wr.ownsRow B 3 1 (.slice ya (2 * k) yc) (2 * k) (ints (ysR (L.take k)))) ∧ Kp (wr.ownsRow B 149 4 (.slice ba (2 * k) bc) (2 * k) (flat bdL (bds (L.take k)))) ∧ Kp (Below B w wr)) (fun _ _ i _ => n - (intOf i).toNat)
  case atStart => exact ⟨0, none, 0, none, 0, Nat.zero_le _, rfl, rfl, rfl, ⟨by unfold ysR; exact World.ownsRow_nil _ _ _ _⟩, ⟨by unfold bds; exact World.ownsRow_nil _ _ _ _⟩, ⟨Below.refl _ _⟩⟩
  case round =>
    obtain ⟨k, ya, yc, ba, bc, hk, rfl, rfl, rfl, HY, HBR, HBL⟩ := hrel
    by_cases hlt : k < n
    · obtain ⟨b, off, rfl, hbw, co⟩ := H.out.at rcL_len (by omega) k (by rw [HLn.out]; exact hlt)
      rw [← HBE.out] at hbw
      have hm := HN.out _ (List.getElem_mem (show k < L.length by rw [HLn.out]; exact hlt))
      have HTK := Kp.mk (List.take_succ_eq_append_getElem (show k < L.length by rw [HLn.out]; exact hlt))
      generalize L[k]'(by rw [HLn.out]; exact hlt) = p at *
      have o0 : wr.cell? ⟨b, off + k * 4, none⟩ = some (.int .i64 p.x0) := (HBL.out.cell (p := ⟨b, off + k * 4, none⟩) hbw).trans (co 0 (by omega))
      have o1 : wr.cell? ⟨b, off + k * 4 + 1, none⟩ = some (.int .i64 p.y0) := (HBL.out.cell (p := ⟨b, off + k * 4 + 1, none⟩) hbw).trans (co 1 (by omega))
      have o2 : wr.cell? ⟨b, off + k * 4 + 2, none⟩ = some (.int .i64 p.x1) := (HBL.out.cell (p := ⟨b, off + k * 4 + 2, none⟩) hbw).trans (co 2 (by omega))
      have o3 : wr.cell? ⟨b, off + k * 4 + 3, none⟩ = some (.int .i64 p.y1) := (HBL.out.cell (p := ⟨b, off + k * 4 + 3, none⟩) hbw).trans (co 3 (by omega))
      have hBw : B ≤ wr.heap.size := by rw [HBE.out]; exact HBL.out.size
      have e1 : IntKind.i64.wrap (p.y1 + 1) = p.y1 + 1 := IntWalk.i64_in _ (by have := hm.d; omega)
      have e2 : IntKind.i64.wrap (p.x1 + 1) = p.x1 + 1 := IntWalk.i64_in _ (by have := hm.b; omega)
      have HBa := Kp.mk (Box.new wr #[.int .i64 p.x0, .int .i64 p.y0, .int .i64 p.x1, .int .i64 p.y1] 65)
      have HYa := Kp.mk (own_below HY.out (below_alloc (Nat.le_refl wr.heap.size) (.cells #[.int .i64 p.x0, .int .i64 p.y0, .int .i64 p.x1, .int .i64 p.y1] 65)))
      have HRa := Kp.mk (own_below HBR.out (below_alloc (Nat.le_refl wr.heap.size) (.cells #[.int .i64 p.x0, .int .i64 p.y0, .int .i64 p.x1, .int .i64 p.y1] 65)))
      have HLa := Kp.mk (HBL.out.alloc hBw (.cells #[.int .i64 p.x0, .int .i64 p.y0, .int .i64 p.x1, .int .i64 p.y1] 65))
      have hBa : B ≤ (wr.alloc (.cells #[.int .i64 p.x0, .int .i64 p.y0, .int .i64 p.x1, .int .i64 p.y1] 65)).heap.size := by rw [alloc_size]; omega
      clear co hm HY HBR HBL
      go_upto_region 5 with (fail)
      obtain ⟨w1, hw1⟩ : ∃ w1, wr.alloc (.cells #[.int .i64 p.x0, .int .i64 p.y0, .int .i64 p.x1, .int .i64 p.y1] 65) = w1 := ⟨_, rfl⟩
      rw [hw1] at HBa HYa HRa HLa hBa ⊢
      clear hw1 o0 o1 o2 o3 hBw
      generalize wr.heap.size = bo at *
      have c0 := HBa.out.cell 0 rfl
      have c1 := HBa.out.cell 1 rfl
      have c2 := HBa.out.cell 2 rfl
      have c3 := HBa.out.cell 3 rfl
      go_wp2_with (at_builtin; refine wpList_pushS tInts rfl _ _ rfl B ya (2 * k) yc _ rfl HYa.out 2 _ rfl rfl ?y1 ?y2 (by decide) hBa ?y4)
      case y1 => simp [Value.oneCell']
      case y2 => omega
      case y4 =>
        intro ya3 yc3 w3 ho3 hgr3 hno3
        have HB3 := Kp.mk (box_grow HBa.out hgr3 (row_box HYa.out HBa.out (by decide)))
        have HY3 := Kp.mk (show w3.ownsRow B 3 1 (.slice ya3 (2 * (k + 1)) yc3) (2 * (k + 1)) (ints (ysR (L.take (k + 1)))) from by
          rw [HTK.out, ysR_append, ints_append]
          have e : ints (ysR [p]) = [.int .i64 p.y0, .int .i64 (p.y1 + 1)] := by unfold ysR ysR; rfl
          rw [e]; exact ho3)
        have HR3 := Kp.mk (own_keep HRa.out hgr3 (fun q hq => row_row HYa.out HRa.out (by decide) q hq))
        have HL3 := Kp.mk (HLa.out.trans (below_of_grown hgr3 hBa (fun q hq => (own_lt HYa.out q hq).1)))
        have hB3 : B ≤ w3.heap.size := Nat.le_trans hBa hgr3.size
        clear c0 c1 c2 c3 ho3 hgr3 hno3 HBa HYa HRa HLa hBa
        have c0 := HB3.out.cell 0 rfl
        have c1 := HB3.out.cell 1 rfl
        have c2 := HB3.out.cell 2 rfl
        have c3 := HB3.out.cell 3 rfl
        go_wp2_with (at_builtin; refine wpList_pushS tBds rfl _ _ rfl B ba (2 * k) bc _ rfl HR3.out 2 _ rfl rfl ?z1 ?z2 (by decide) hB3 ?z4)
        case z1 => simp [Value.oneCell']
        case z2 => omega
        case z4 =>
          intro za4 zc4 w4 ho4 hgr4 hno4
          have HR4 := Kp.mk (show w4.ownsRow B 149 4 (.slice za4 (2 * (k + 1)) zc4) (2 * (k + 1)) (flat bdL (bds (L.take (k + 1)))) from by
            rw [HTK.out, Pick.bds_append, flat_append]
            have e : flat bdL (bds [p]) = [.int .i64 p.x0, .int .i64 p.y0, .int .i64 (p.y1 + 1), .int .i64 1, .int .i64 (p.x1 + 1), .int .i64 p.y0, .int .i64 (p.y1 + 1), .int .i64 (-1)] := by unfold bds bds; rfl
            rw [e]; exact ho4)
          have HY4 := Kp.mk (own_keep HY3.out hgr4 (fun q hq => row_row HR3.out HY3.out (by decide) q hq))
          have HL4 := Kp.mk (HL3.out.trans (below_of_grown hgr4 hB3 (fun q hq => (own_lt HR3.out q hq).1)))
          clear c0 c1 c2 c3 ho4 hgr4 hno4 HB3 HY3 HR3 HL3 hB3
          go_wp2
          go_roundw
          case rel => exact ⟨k + 1, ya3, yc3, za4, zc4, by omega, by go_num, rfl, rfl, HY4, HR4, HL4⟩
          case measure => simp [intOf]; omega
    · obtain rfl : k = n := by omega
      have hTA : L.take k = L := List.take_of_length_le (by rw [HLn.out]; exact Nat.le_refl _)
      rw [hTA] at HY HBR
      have hBw : B ≤ wr.heap.size := by rw [HBE.out]; exact HBL.out.size
      have hly : (ysR L).length = 2 * k := by rw [ysR_length, HLn.out]
      have hlb : (bds L).length = 2 * k := by rw [Pick.bds_length, HLn.out]
      have HLB := Kp.mk hlb
      have HLY := Kp.mk hly
      have hb0 : Below w.heap.size w wr := by rw [← HBE.out]; exact HBL.out
      have hbp : bp < B := by rw [HBE.out]; exact HBX.out.lt
      have HX := Kp.mk (HBX.out.below hb0)
      have HG := Kp.mk (grown_of_below (r := some bp) hb0)
      have hsk : ∀ q, blk ya = some q → w.heap.size ≤ q ∨ some bp = some q := fun q hq => .inl (by rw [← HBE.out]; exact (own_lt HY.out q hq).1)
      have hsb : ∀ q, blk ba = some q → w.heap.size ≤ q ∨ some bp = some q := fun q hq => .inl (by rw [← HBE.out]; exact (own_lt HBR.out q hq).1)
      have HSK := Kp.mk hsk
      have HSB := Kp.mk hsb
      have HNE := Kp.mk (show blk ya ≠ some bp from fun e => by have := (own_lt HY.out bp e).1; omega)
      have HNB := Kp.mk (show blk ba ≠ some bp from fun e => by have := (own_lt HBR.out bp e).1; omega)
      have CS := Kp.mk (sortG_own B ya yc (2 * k) (ysR L) wr HY.out hly (by omega))
      clear hly hlb hb0 hsk hsb hBw HBL HBX hTA H
      go_wp2_with fail
      refine CS.out.mono ?_
      rintro e w1 ⟨rfl, HY1, HG1⟩
      have HR1 := Kp.mk (own_keep HBR.out HG1.out (fun q hq => row_row HY.out HBR.out (by decide) q hq))
      have HX1 := Kp.mk (box_grow HX.out HG1.out HNE.out)
      have HW1 := Kp.mk (grown_stepK HG.out HG1.out HSK.out)
      have CC := Kp.mk (compactG_own B ya yc (2 * k) _ w1 HY1.out (by rw [List.length_mergeSort]; exact HLY.out) (by omega))
      clear CS HY HBR HX HG
      go_wp2_with fail
      refine CC.out.mono ?_
      rintro e w2 ⟨m, rfl, hm, HY2, HG2⟩
      have HYE := Kp.mk (show Lib.compact ((ysR L).mergeSort fun x y => decide (x ≤ y)) = valL (ysR L) from by unfold valL; rfl)
      rw [HYE.out] at HY2 hm
      have HR2 := Kp.mk (own_keep HR1.out HG2.out (fun q hq => row_row HY1.out HR1.out (by decide) q hq))
      have HX2 := Kp.mk (box_grow HX1.out HG2.out HNE.out)
      have HW2 := Kp.mk (grown_stepK HW1.out HG2.out HSK.out)
      have HM := Kp.mk hm
      have HM80 : m ≤ 80 := by have h5 := valL_length (ysR L); have h6 := HLY.out; omega
      have CB := Kp.mk (sortB_own (bds L) (2 * k) B ba bc w2 HLB.out (by omega) HR2.out)
      clear CC HY1 HR1 HX1 HW1 HG1 HG2 HYE hm
      go_wp2_with fail
      refine CB.out.mono ?_
      rintro e w3 ⟨rfl, Bs, HP, HR3, HG3⟩
      have HY3 := Kp.mk (own_keep HY2.out HG3.out (fun q hq => row_row HR2.out HY2.out (by decide) q hq))
      have HX3 := Kp.mk (box_grow HX2.out HG3.out HNB.out)
      have HW3 := Kp.mk (grown_stepK HW2.out HG3.out HSB.out)
      have HIS := Kp.mk (is_sweep (fun r hr => ⟨(HN.out r hr).e, (HN.out r hr).f⟩) (ysR_mem L) HP.out.1 HP.out.2)
      have HXB := Kp.mk (show ∀ b ∈ Bs, -1000 ≤ b.x ∧ b.x ≤ 1001 from fun b hb => by
        obtain ⟨r, hr, _, _, h5, _⟩ := Pick.bds_mem L b (HP.out.1.mem_iff.1 hb)
        have := (HN.out r hr).a
        have := (HN.out r hr).b
        rcases h5 with h5 | h5 <;> omega)
      have HBsl := Kp.mk (show Bs.length = 2 * k by rw [HP.out.1.length_eq]; exact HLB.out)
      have hB3 : B ≤ w3.heap.size := by rw [HBE.out]; exact HW3.out.size
      clear CB HY2 HR2 HX2 HW2 HG3 HP HLB HLY HN HLn
      generalize valL (ysR L) = Y at *
      go_wp2_with (at_make; refine wpList_mk1 tInts rfl rfl _ _ rfl w3.heap.size m (by simp [go_sem]) (by simp [go_sem]) ?d1 (by decide) (Nat.le_refl _) ?d2)
      case d1 => omega
      case d2 =>
        intro da0 dc0 w4 hown hb4
        have HD4 := Kp.mk (own_base (show w4.ownsRow w3.heap.size 3 1 (.slice da0 m dc0) m (ints (List.replicate m 0)) from by simpa [ints] using hown) hB3)
        have HY4 := Kp.mk (own_below HY3.out hb4)
        have HR4 := Kp.mk (own_below HR3.out hb4)
        have HX4 := Kp.mk (HX3.out.below hb4)
        have HW4 := Kp.mk (grown_stepK HW3.out (grown_of_below (r := none) hb4) (fun q hq => by cases hq))
        have HML := Kp.mk HM.out
        have HPW := Kp.mk (show Y.Pairwise (· ≤ ·) from List.pairwise_iff_getElem.2 fun i j hi hj hij => by
          have := Pick.Y_mono HIS.out.ys j i hij hj
          rw [getD_at _ _ hi, getD_at _ _ hj] at this
          omega)
        have HV0 := Kp.mk (show (List.replicate m (0 : Int)).length = m ∧ (∀ j, j < m → (List.replicate m (0 : Int)).getD j 0 = vB (Bs.take 0) (Y.getD j 0)) ∧ R Y Bs 0 0 from
          ⟨by simp, fun j hj => by unfold vB; simp [hj], HO.out.zero _ _ HIS.out⟩)
        clear hown hb4 HY3 HR3 HX3 HW3 hB3 HM
        go_wp2
        go_loopw [8, 61] (fun v8 i wr => ∃ (q : Nat) (da : Option Addr) (dc : Nat) (D : List Int) (v : Int), q ≤ 2 * k ∧ i = .int .i64 q ∧ v8 = .slice da m dc ∧ Kp (D.length = m ∧ (∀ j, j < m → D.getD j 0 = vB (Bs.take q) (Y.getD j 0)) ∧ R Y Bs q v) ∧ Kp (wr.ownsRow B 3 1 (.slice da m dc) m (ints D)) ∧ Kp (wr.ownsRow B 3 1 (.slice ya m yc) m (ints Y)) ∧ Kp (wr.ownsRow B 149 4 (.slice ba (2 * k) bc) (2 * k) (flat bdL Bs)) ∧ Kp (Box wr bp #[.int .i64 v] 3) ∧ Kp (w.grownBy wr (some bp))) (fun _ i _ => 2 * k - (intOf i).toNat)
        case atStart => exact ⟨0, da0, dc0, _, 0, Nat.zero_le _, rfl, rfl, HV0, HD4, HY4, HR4, HX4, HW4⟩
        case round =>
          clear HV0 HD4 HY4 HR4 HX4 HW4
          obtain ⟨q, da, dc, D, v, hq, rfl, rfl, HV, HD, HY, HR, HX, HW⟩ := hrel
          by_cases hlt : q < 2 * k
          · obtain ⟨gb, rfl, hg1, hg2⟩ := own_some HR.out (by omega)
            have hc := fun j (hj : j < 4) => own_at bdL_len HR.out HBsl.out q (by rw [HBsl.out]; exact hlt) j hj
            rw [← getD_at Bs bd0 (by rw [HBsl.out]; exact hlt)] at hc
            obtain ⟨b, hbe⟩ : ∃ b, Bs.getD q bd0 = b := ⟨_, rfl⟩
            rw [hbe] at hc
            have HBE2 := Kp.mk hbe
            have c0 : wr.cell? ⟨gb, q * 4, none⟩ = some (.int .i64 b.x) := hc 0 (by omega)
            have c1 : wr.cell? ⟨gb, q * 4 + 1, none⟩ = some (.int .i64 b.lo) := hc 1 (by omega)
            have c2 : wr.cell? ⟨gb, q * 4 + 2, none⟩ = some (.int .i64 b.hi) := hc 2 (by omega)
            have c3 : wr.cell? ⟨gb, q * 4 + 3, none⟩ = some (.int .i64 b.d) := hc 3 (by omega)
            have hBq : B ≤ wr.heap.size := by rw [HBE.out]; exact HW.out.size
            have HBa := Kp.mk (Box.new wr #[.int .i64 b.x, .int .i64 b.lo, .int .i64 b.hi, .int .i64 b.d] 149)
            have HDa := Kp.mk (own_below HD.out (below_alloc (Nat.le_refl wr.heap.size) (.cells #[.int .i64 b.x, .int .i64 b.lo, .int .i64 b.hi, .int .i64 b.d] 149)))
            have HYa := Kp.mk (own_below HY.out (below_alloc (Nat.le_refl wr.heap.size) (.cells #[.int .i64 b.x, .int .i64 b.lo, .int .i64 b.hi, .int .i64 b.d] 149)))
            have HRa := Kp.mk (own_below HR.out (below_alloc (Nat.le_refl wr.heap.size) (.cells #[.int .i64 b.x, .int .i64 b.lo, .int .i64 b.hi, .int .i64 b.d] 149)))
            have HXa := Kp.mk (HX.out.alloc (.cells #[.int .i64 b.x, .int .i64 b.lo, .int .i64 b.hi, .int .i64 b.d] 149))
            have HWa := Kp.mk (grown_stepK HW.out (grown_of_below (r := none) (below_alloc (Nat.le_refl wr.heap.size) (.cells #[.int .i64 b.x, .int .i64 b.lo, .int .i64 b.hi, .int .i64 b.d] 149))) (fun q hq => by cases hq))
            have HBO := Kp.mk (show bp ≠ wr.heap.size by omega)
            clear hc hbe HD HY HR HX HW
            go_upto_region 15 with (fail)
            obtain ⟨w5, hw5⟩ : ∃ w5, wr.alloc (.cells #[.int .i64 b.x, .int .i64 b.lo, .int .i64 b.hi, .int .i64 b.d] 149) = w5 := ⟨_, rfl⟩
            rw [hw5] at HBa HDa HYa HRa HXa HWa ⊢
            clear hw5 c0 c1 c2 c3 hBq hg2
            generalize wr.heap.size = bo at *
            have d0 : w5.cell? ⟨bo, 0, none⟩ = some (.int .i64 b.x) := HBa.out.cell 0 rfl
            have d1 : w5.cell? ⟨bo, 1, none⟩ = some (.int .i64 b.lo) := HBa.out.cell 1 rfl
            have d2 : w5.cell? ⟨bo, 2, none⟩ = some (.int .i64 b.hi) := HBa.out.cell 2 rfl
            have d3 : w5.cell? ⟨bo, 3, none⟩ = some (.int .i64 b.d) := HBa.out.cell 3 rfl
            have HQL := Kp.mk (show q < Bs.length by rw [HBsl.out]; exact hlt)
            obtain ⟨p, hp⟩ : ∃ p, Bs.getD (q - 1) bd0 = p := ⟨_, rfl⟩
            have HPE := Kp.mk hp
            have hcase : q = 0 ∨ (0 < q ∧ ¬ (p.x < b.x)) ∨ (0 < q ∧ p.x < b.x) := by omega
            have HUP := Kp.mk (show 0 < q → p.x ≤ b.x from fun h => by
              have := HIS.out.up (q - 1) q (by omega) HQL.out
              rw [HPE.out, HBE2.out] at this; exact this)
            have hpc : 0 < q → w5.cell? ⟨gb, (q - 1) * 4, none⟩ = some (.int .i64 p.x) := fun h => by
              have h6 := own_at bdL_len HRa.out HBsl.out (q - 1) (by rw [HBsl.out]; omega) 0 (by omega)
              rw [← getD_at Bs bd0 (by rw [HBsl.out]; omega), hp] at h6
              exact h6
            have HPC := Kp.mk hpc
            have w1e : 0 < q → IntKind.i64.wrap ((q : Int) - 1) = ((q - 1 : Nat) : Int) := fun h => by rw [IntWalk.i64_in _ (by omega)]; omega
            have W1E := Kp.mk w1e
            clear hp hpc w1e
            rcases hcase with h0 | ⟨h0, h1⟩ | ⟨h0, h1⟩
            case' inl =>
              have g1 : decide ((q : Int) > 0) = false := decide_eq_false (by omega)
              have g2 : ¬ (0 < q) := by omega
              have g3 : decide (0 < q) = false := decide_eq_false g2
              have H0 := Kp.mk h0
              clear h0
              go_wp2
              go_quiet (fail)
              have HBb := Kp.mk (HBa.out.drewN nq)
              have HDb := Kp.mk (own_below HDa.out (drewN_below (B := w5.heap.size) (w := w5) nq))
              have HYb := Kp.mk (own_below HYa.out (drewN_below (B := w5.heap.size) (w := w5) nq))
              have HRb := Kp.mk (own_below HRa.out (drewN_below (B := w5.heap.size) (w := w5) nq))
              have HXb := Kp.mk (HXa.out.drewN nq)
              have HWb := Kp.mk (grown_stepK HWa.out (grown_of_below (r := none) (drewN_below (B := w5.heap.size) (w := w5) nq)) (fun q hq => by cases hq))
              clear HBa HDa HYa HRa HXa HWa d0 d1 d2 d3
              generalize w5.drewN nq = wt at *
              have HVf := Kp.mk (show R Y Bs (q + 1) v from by
                have h6 := HV.out.2.2
                have h7 := HQL.out
                rw [H0.out] at h6 h7 ⊢
                exact HO.out.one Y Bs v HIS.out h7 h6)
              go_upto_region 17 with (fail)
            case' inr.inl =>
              have g1 : decide ((q : Int) > 0) = true := decide_eq_true (by omega)
              have g2 := W1E.out h0
              have g3 := HPC.out h0
              have g4 : decide (b.x > p.x) = false := decide_eq_false h1
              go_wp2
              go_quiet (fail)
              have HBb := Kp.mk (HBa.out.drewN nq)
              have HDb := Kp.mk (own_below HDa.out (drewN_below (B := w5.heap.size) (w := w5) nq))
              have HYb := Kp.mk (own_below HYa.out (drewN_below (B := w5.heap.size) (w := w5) nq))
              have HRb := Kp.mk (own_below HRa.out (drewN_below (B := w5.heap.size) (w := w5) nq))
              have HXb := Kp.mk (HXa.out.drewN nq)
              have HWb := Kp.mk (grown_stepK HWa.out (grown_of_below (r := none) (drewN_below (B := w5.heap.size) (w := w5) nq)) (fun q hq => by cases hq))
              clear HBa HDa HYa HRa HXa HWa d0 d1 d2 d3
              generalize w5.drewN nq = wt at *
              have HVf := Kp.mk (HO.out.skip Y Bs q v HIS.out h0 HQL.out (by rw [HBE2.out, HPE.out]; have := HUP.out h0; omega) HV.out.2.2)
              go_upto_region 17 with (fail)
              clear g1 g2 g3 g4
            case' inr.inr =>
              have g1 : decide ((q : Int) > 0) = true := decide_eq_true (by omega)
              have g2 := W1E.out h0
              have g3 := HPC.out h0
              have g4 : decide (b.x > p.x) = true := decide_eq_true h1
              go_wp2
              go_quiet (fail)
              have HBb := Kp.mk (HBa.out.drewN nq)
              have HDb := Kp.mk (own_below HDa.out (drewN_below (B := w5.heap.size) (w := w5) nq))
              have HYb := Kp.mk (own_below HYa.out (drewN_below (B := w5.heap.size) (w := w5) nq))
              have HRb := Kp.mk (own_below HRa.out (drewN_below (B := w5.heap.size) (w := w5) nq))
              have HXb := Kp.mk (HXa.out.drewN nq)
              have HWb := Kp.mk (grown_stepK HWa.out (grown_of_below (r := none) (drewN_below (B := w5.heap.size) (w := w5) nq)) (fun q hq => by cases hq))
              clear HBa HDa HYa HRa HXa HWa d0 d1 d2 d3
              generalize w5.drewN nq = wf at *
              have d0 : wf.cell? ⟨bo, 0, none⟩ = some (.int .i64 b.x) := HBb.out.cell 0 rfl
              have g3 : wf.cell? ⟨gb, (q - 1) * 4, none⟩ = some (.int .i64 p.x) := by
                have h6 := own_at bdL_len HRb.out HBsl.out (q - 1) (by rw [HBsl.out]; omega) 0 (by omega)
                rw [← getD_at Bs bd0 (by rw [HBsl.out]; omega), HPE.out] at h6
                exact h6
              go_wp2
              have g5 : q - 1 < 2 * k := by omega
              have g6 : ((q - 1 : Nat) : Int) < ((2 * k : Nat) : Int) := by omega
              have g7 : ((q - 1 : Nat) : Int) < 2 * (k : Int) := by omega
              go_still_tail 12, (by kernel_rfl)
              have eg := HO.out.call
              have wx : IntKind.i64.wrap (b.x - p.x) = b.x - p.x := IntWalk.i64_in _ (by
                have h5 := HXB.out b (by rw [← HBE2.out, getD_at _ _ HQL.out]; exact List.getElem_mem _)
                have h6 := HXB.out p (by rw [← HPE.out, getD_at _ _ (by have := HQL.out; omega)]; exact List.getElem_mem _)
                omega)
              have HDd := Kp.mk (own_below HDb.out (drewN_below (B := wf.heap.size) (w := wf) 1))
              have HYd := Kp.mk (own_below HYb.out (drewN_below (B := wf.heap.size) (w := wf) 1))
              have HXd := Kp.mk (HXb.out.drewN 1)
              have CD := Kp.mk (HO.out.does Y Bs q v m D ya da yc dc (wf.drewN 1) HIS.out h0 HQL.out (by rw [HBE2.out, HPE.out]; exact h1) HV.out.2.2 HML.out.symm (by have := Pick.sweep_Y HIS.out (Nat.lt_of_le_of_lt (Nat.zero_le _) HQL.out); rw [HML.out]; exact this) (by omega) HV.out.1 HV.out.2.1 (own_sl_len HYd.out HML.out.symm) (own_sl_len HDd.out HV.out.1) (fun e => by have := (own_lt HYd.out bp e).1; omega) (fun e => by have := (own_lt HDd.out bp e).1; omega) HXd.out)
              rw [HBE2.out, HPE.out] at CD
              go_wp2_with fail
              refine CD.out.mono ?_
              rintro e wt ⟨rfl, v', HVf, HGt, HXt⟩
              have hnx : ∀ {aa : Option Addr} {k' : Nat}, (∀ q', blk aa = some q' → B ≤ q' ∧ q' < k') → blk aa ≠ some bp := fun h e => by have := (h bp e).1; omega
              have hgf : wf.grownBy wt (some bp) := grown_trans (grown_drew (grown_refl wf (some bp))) HGt.out
              have HBt := Kp.mk (box_grow HBb.out hgf (fun e => by cases e; exact HBO.out rfl))
              have HDt := Kp.mk (own_keep HDb.out hgf (fun q' hq' => by cases hq'; exact hnx (own_lt HDb.out)))
              have HYt := Kp.mk (own_keep HYb.out hgf (fun q' hq' => by cases hq'; exact hnx (own_lt HYb.out)))
              have HRt := Kp.mk (own_keep HRb.out hgf (fun q' hq' => by cases hq'; exact hnx (own_lt HRb.out)))
              have HWt := Kp.mk (grown_trans HWb.out hgf)
              clear HBb HDb HYb HRb HXb HWb CD HDd HYd HXd hgf HGt d0 g1 g2 g3 g4 g5 g6 g7 eg wx hnx
              have HBb := HBt
              have HDb := HDt
              have HYb := HYt
              have HRb := HRt
              have HXb := HXt
              have HWb := HWt
              clear HBt HDt HYt HRt HXt HWt
              go_upto_region 17 with (fail)
            all_goals
              clear HPC W1E HUP HPE HO
              obtain ⟨j1, j2, hj12, hj2, ej1, ej2, cj1, cj2, hd⟩ := bd_rows HIS.out q HQL.out
              rw [HBE2.out] at ej1 ej2 cj1 cj2 hd
              have hm0 : 0 < m := by rw [HML.out]; omega
              have hj2m : j2 < m := by rw [HML.out]; exact hj2
              have CJ1 := Kp.mk cj1
              have CJ2 := Kp.mk cj2
              have EJ1 := Kp.mk ej1
              have EJ2 := Kp.mk ej2
              clear cj1 cj2 ej1 ej2
              have d1 : wt.cell? ⟨bo, 1, none⟩ = some (.int .i64 b.lo) := HBb.out.cell 1 rfl
              have C1 := Kp.mk (bsearch_own B ya yc m j1 Y b.lo wt HYb.out HML.out.symm hm0 (by omega) HPW.out CJ1.out)
              go_wp2_with fail
              refine C1.out.mono ?_
              rintro e w8 ⟨bb1, rfl, n8, rfl⟩
              clear d1 C1
              have HBc := Kp.mk (HBb.out.drewN n8)
              have HDc := Kp.mk (own_below HDb.out (drewN_below (B := wt.heap.size) (w := wt) n8))
              have HYc := Kp.mk (own_below HYb.out (drewN_below (B := wt.heap.size) (w := wt) n8))
              have HRc := Kp.mk (own_below HRb.out (drewN_below (B := wt.heap.size) (w := wt) n8))
              have HXc := Kp.mk (HXb.out.drewN n8)
              have HWc := Kp.mk (grown_stepK HWb.out (grown_of_below (r := none) (drewN_below (B := wt.heap.size) (w := wt) n8)) (fun q hq => by cases hq))
              clear HBb HDb HYb HRb HXb HWb
              go_upto_region 18 with (fail)
              generalize wt.drewN n8 = w8 at *
              have d2 : w8.cell? ⟨bo, 2, none⟩ = some (.int .i64 b.hi) := HBc.out.cell 2 rfl
              have C2 := Kp.mk (bsearch_own B ya yc m j2 Y b.hi w8 HYc.out HML.out.symm hm0 (by omega) HPW.out CJ2.out)
              go_wp2_with fail
              refine C2.out.mono ?_
              rintro e w9 ⟨bb2, rfl, n9, rfl⟩
              clear d2 C2
              have HBd := Kp.mk (HBc.out.drewN n9)
              have HDd := Kp.mk (own_below HDc.out (drewN_below (B := w8.heap.size) (w := w8) n9))
              have HYd := Kp.mk (own_below HYc.out (drewN_below (B := w8.heap.size) (w := w8) n9))
              have HRd := Kp.mk (own_below HRc.out (drewN_below (B := w8.heap.size) (w := w8) n9))
              have HXd := Kp.mk (HXc.out.drewN n9)
              have HWd := Kp.mk (grown_stepK HWc.out (grown_of_below (r := none) (drewN_below (B := w8.heap.size) (w := w8) n9)) (fun q hq => by cases hq))
              clear HBc HDc HYc HRc HXc HWc
              go_upto_region 19 with (fail)
              generalize w8.drewN n9 = w9 at *
              have d3 : w9.cell? ⟨bo, 3, none⟩ = some (.int .i64 b.d) := HBd.out.cell 3 rfl
              have wj : IntKind.i64.wrap ((j2 : Int) - 1) = ((j2 - 1 : Nat) : Int) := by rw [IntWalk.i64_in _ (by omega)]; omega
              have hal := below_alloc (Nat.le_refl w9.heap.size) (.cells #[.int .i64 1, .int .i64 j1, .int .i64 ((j2 - 1 : Nat) : Int), .int .i64 b.d] 159)
              have hlo := lit_own w9 #[.int .i64 1, .int .i64 j1, .int .i64 ((j2 - 1 : Nat) : Int), .int .i64 b.d] 159 1 4 rfl (by decide)
              have C3 := Kp.mk (play_any da (some ⟨w9.heap.size, 0, none⟩) dc 1 m 1 D [⟨1, j1, j2 - 1, b.d⟩] _ (own_sl_len (own_below HDd.out hal) HV.out.1) HV.out.1 (own_slc hlo) hm0 (by omega) (by omega)
                (fun x hx => by have := deep_bound HIS.out (HV.out.1.trans HML.out) (fun j hj => HV.out.2.1 j (by rw [HML.out]; exact hj)) x hx; rw [HBsl.out] at this; omega)
                (fun o ho => by
                  rw [List.mem_singleton.1 ho]
                  exact ⟨by show 1 ≤ 1; omega, by show 1 ≤ 4; omega, by show j1 ≤ j2 - 1; omega, by show j2 - 1 < m; rw [HML.out]; omega, by show -1048576 ≤ b.d; omega, by show b.d ≤ 1048576; omega⟩))
              have HYe := Kp.mk (own_below HYd.out hal)
              have HRe := Kp.mk (own_below HRd.out hal)
              have HXe := Kp.mk (HXd.out.alloc (.cells #[.int .i64 1, .int .i64 j1, .int .i64 ((j2 - 1 : Nat) : Int), .int .i64 b.d] 159))
              have HWe := Kp.mk (grown_stepK HWd.out (grown_of_below (r := none) hal) (fun q hq => by cases hq))
              have hB9 : B ≤ (w9.alloc (.cells #[.int .i64 1, .int .i64 j1, .int .i64 ((j2 - 1 : Nat) : Int), .int .i64 b.d] 159)).heap.size := by rw [HBE.out]; exact HWe.out.size
              have HDN := Kp.mk (show (upd ⟨1, j1, j2 - 1, b.d⟩ 0 D).length = m ∧ ∀ j, j < m → (upd ⟨1, j1, j2 - 1, b.d⟩ 0 D).getD j 0 = vB (Bs.take (q + 1)) (Y.getD j 0) from
                ⟨by rw [upd_length]; exact HV.out.1, fun j hj => by
                  have := deep_step HIS.out HQL.out hj2 (by rw [HBE2.out]; exact EJ1.out) (by rw [HBE2.out]; exact EJ2.out) hj12 (HV.out.1.trans HML.out) (fun j hj => HV.out.2.1 j (by rw [HML.out]; exact hj)) j (by rw [← HML.out]; exact hj)
                  rw [HBE2.out] at this
                  exact this⟩)
              clear HYd HRd HXd HWd HDd HBd hal hlo
              go_wp2_with fail
              refine C3.out.mono ?_
              rintro e w10 ⟨ra, rc, ea, ec, rfl, _, HE, hb10⟩
              have HDf := Kp.mk (own_base (show w10.ownsRow _ 3 1 (.slice ea m ec) m (ints (upd ⟨1, j1, j2 - 1, b.d⟩ 0 D)) from by rw [← runD_one]; exact HE.out) hB9)
              have HYf := Kp.mk (own_below HYe.out hb10)
              have HRf := Kp.mk (own_below HRe.out hb10)
              have HXf := Kp.mk (HXe.out.below hb10)
              have HWf := Kp.mk (grown_stepK HWe.out (grown_of_below (r := none) hb10) (fun q hq => by cases hq))
              have HVg := Kp.mk (⟨HDN.out.1, HDN.out.2, HVf.out⟩ : (upd ⟨1, j1, j2 - 1, b.d⟩ 0 D).length = m ∧ (∀ j, j < m → (upd ⟨1, j1, j2 - 1, b.d⟩ 0 D).getD j 0 = vB (Bs.take (q + 1)) (Y.getD j 0)) ∧ R Y Bs (q + 1) _)
              clear HYe HRe HXe HWe hb10 HE hB9 HDN C3 d3 wj
              go_wp2
              go_roundw
              case rel => exact ⟨q + 1, ea, ec, _, _, by omega, by go_num, rfl, HVg, HDf, HYf, HRf, HXf, HWf⟩
              case measure => simp [intOf]; omega
          · obtain rfl : q = 2 * k := by omega
            have HFI := Kp.mk (show R Y Bs Bs.length v by rw [HBsl.out]; exact HV.out.2.2)
            clear HV HD HY HR
            go_wp2
            go_end0
            exact ⟨rfl, Y, Bs, v, ⟨HIS.out, HFI.out⟩, HX, HW⟩

end Go.Proofs.Ytlmdlholmlbcbaa
