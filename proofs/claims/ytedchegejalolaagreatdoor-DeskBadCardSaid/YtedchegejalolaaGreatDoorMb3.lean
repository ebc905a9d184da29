import Derived.Test.YtedchegejalolaaGreatDoorMb2
import Derived.Test.YtedchegejalolaaGreatDoorMb0
/- desk: numbers. -/
namespace Go.Proofs.YtedchegejalolaaGreatDoor.Dk
set_option linter.unusedVariables false
open Go.RowKit

set_option maxRecDepth 100000 in
set_option maxHeartbeats 4000000 in
theorem numbers_any (T : List Wd) (N : List Int) (hN : N.length = T.length) (hI : ∀ i (h : i < T.length), IsNum T[i] (N.getD i 0)) (la : Option Addr) (lc m : Nat) (many : Int) (w : World) (h : SlC w la m lc 1 (strs T)) (hl : T.length = m) (hm : m ≤ 1000) (hT : Tab w) :
    Calls Tryz.prog 41 #[.slice la m lc, .int .i64 many] w fun e w' => ∃ (oa : Option Addr) (oc : Nat), e = .returned (.tuple #[.slice oa m oc, .bool ((m : Int) == many)]) ∧ Kp (w'.ownsRow w.heap.size 3 1 (.slice oa m oc) m (ints N)) ∧ Kp (Below w.heap.size w w') := by
  have H := Kp.mk h
  have HL := Kp.mk hl
  have HNL := Kp.mk hN
  have HI := Kp.mk hI
  have HT := Kp.mk hT
  obtain ⟨B, hB⟩ : ∃ B, w.heap.size = B := ⟨_, rfl⟩
  rw [hB]
  have HBE := Kp.mk hB
  clear h hl hN hI hT hB
  go_enter Tryz.func41, Tryz.ntmps41
  go_wp2
  go_loopw [6, 13] (fun ov iv wr => ∃ (k : Nat) (oa : Option Addr) (oc : Nat), k ≤ m ∧ iv = .int .i64 k ∧ ov = .slice oa k oc ∧ Kp (wr.ownsRow B 3 1 (.slice oa k oc) k (ints (N.take k))) ∧ Kp (Below B w wr)) (fun _ iv _ => m - (intOf iv).toNat)
  case atStart => exact ⟨0, none, 0, Nat.zero_le _, rfl, rfl, ⟨World.ownsRow_nil _ _ _ _⟩, ⟨Below.refl _ _⟩⟩
  case round =>
    obtain ⟨k, oa, oc, hk, rfl, rfl, HO, HB⟩ := hrel
    have hsB : B ≤ wr.heap.size := by have := HB.out.size; have := HBE.out; omega
    by_cases hlt : k < m
    · have hkl : k < T.length := by rw [HL.out]; exact hlt
      have hbw : Below w.heap.size w wr := by rw [HBE.out]; exact HB.out
      obtain ⟨b, o, rfl, c1⟩ := (H.out.below hbw).cell k (by rw [strs_length]; exact hkl)
      rw [show (strs T)[k]'(by rw [strs_length]; exact hkl) = str T[k] by simp [strs]] at c1
      have hnk : k < N.length := by rw [HNL.out]; exact hkl
      have hin := HI.out k hkl
      rw [getD_at N 0 hnk] at hin
      have HTK := Kp.mk (List.take_succ_eq_append_getElem hnk)
      have CN := Kp.mk (dnum_any T[k] N[k] hin wr (HT.out.below hbw))
      generalize N[k] = x at *
      generalize T[k] = t at *
      clear hin hkl hnk hbw
      go_wp2_with (first
        | (go_at_call 62; refine CN.out.mono ?_; rintro e w2 ⟨rfl, HB2⟩; have HO2 := Kp.mk (own_below HO.out HB2.out); have HBw := Kp.mk (HB.out.trans (HB2.out.mono hsB)); have hs2 : B ≤ w2.heap.size := Nat.le_trans hsB HB2.out.size; clear c1)
        | (at_builtin; refine wpList_pushS tInts (by rfl) _ _ (by rfl) B oa k oc _ (by rfl) HO2.out 1 _ (by rfl) (by rfl) ?d1 ?d2 (by decide) hs2 ?d4)
        | fail)
      case d1 => rfl
      case d2 => omega
      case d4 =>
        intro oa2 oc2 w3 ho3 hg3 hn3
        have HO3 := Kp.mk (show w3.ownsRow B 3 1 (.slice oa2 (k + 1) oc2) (k + 1) (ints (N.take (k + 1))) from by rw [HTK.out]; simpa [ints] using ho3)
        have HB3 := Kp.mk (HBw.out.trans (below_of_grown hg3 hs2 (fun q hq => (own_lt HO2.out q hq).1)))
        clear ho3 hg3 hn3 HO HO2 HB HBw CN HB2
        go_wp2
        go_roundw
        case rel => exact ⟨k + 1, oa2, oc2, by omega, by go_num, rfl, HO3, HB3⟩
        case measure => simp [intOf]; omega
    · obtain rfl : k = m := by omega
      have HOF := Kp.mk (show wr.ownsRow B 3 1 (.slice oa k oc) k (ints N) from by have := HO.out; rwa [List.take_of_length_le (by rw [HNL.out, HL.out]; omega)] at this)
      go_wp2
      refine bodyPost_ret (v := .tuple #[.slice oa k oc, .bool ((k : Int) == many)]) (by simp [results, Tryz.results41, go_sem]) rfl ?_
      exact ⟨oa, oc, rfl, HOF, HB⟩

set_option maxRecDepth 100000 in
set_option maxHeartbeats 4000000 in
/-- The first word is odd. -/
theorem numbers_odd (t : Wd) (n : Int) (R : List Wd) (hb : Lib.atoi t = some n) (hne : Lib.itoa n ≠ t) (hn : -1048576 ≤ n ∧ n ≤ 1048576) (hl : t.length ≤ 18) (la : Option Addr) (lc m : Nat) (many : Int) (w : World) (h : SlC w la m lc 1 (strs (t :: R))) (hm : R.length + 1 = m) (hm2 : m ≤ 1000) (hT : Tab w) :
    Calls Tryz.prog 41 #[.slice la m lc, .int .i64 many] w fun e w' => e = .returned (.tuple #[.slice none 0 0, .bool false]) ∧ Kp (Below w.heap.size w w') := by
  have CN := Kp.mk (dnum_odd t n hb hne hn hl w hT)
  obtain ⟨b, o, rfl, c1⟩ := h.cell 0 (by simp [strs])
  have c0 : w.cell? ⟨b, o, none⟩ = some (str t) := by simpa [strs] using c1
  have hm0 : 0 < m := by omega
  clear h hT hb hne hn hl c1
  go_enter Tryz.func41, Tryz.ntmps41
  go_wp2
  go_loopw [6, 13] (fun ov iv wr => iv = .int .i64 0 ∧ ov = .slice none 0 0 ∧ wr = w) (fun _ _ _ => 0)
  case atStart => exact ⟨rfl, rfl, rfl⟩
  case round =>
    obtain ⟨rfl, rfl, rfl⟩ := hrel
    go_wp2_with (first
      | (go_at_call 62; refine CN.out.mono ?_; rintro e w2 ⟨rfl, HB2⟩)
      | fail)
    refine bodyPost_ret (v := .tuple #[.slice none 0 0, .bool false]) (by simp [results, Tryz.results41, go_sem]) rfl ?_
    exact ⟨rfl, HB2⟩

end Go.Proofs.YtedchegejalolaaGreatDoor.Dk

/- Worlds that differ in some blocks. -/
namespace Go.Proofs.YtedchegejalolaaGreatDoor.Dk
set_option linter.unusedVariables false
open Go.RowKit

/-- Some blocks may have changed, and new ones may be there: the others are as they were. -/
structure Chg (F : Nat → Prop) (w w' : World) : Prop where
  os : w'.os = w.os
  tape : w'.tape = w.tape
  output : w'.output = w.output
  size : w.heap.size ≤ w'.heap.size
  block : ∀ i, i < w.heap.size → ¬ F i → w'.heap[i]? = w.heap[i]?
theorem Chg.refl (F : Nat → Prop) (w : World) : Chg F w w := ⟨rfl, rfl, rfl, Nat.le_refl _, fun _ _ _ => rfl⟩
theorem Chg.trans {F F' : Nat → Prop} {a b c : World} (h : Chg F a b) (k : Chg F' b c) (hF : ∀ i, F' i → F i ∨ a.heap.size ≤ i) : Chg F a c :=
  ⟨k.os.trans h.os, k.tape.trans h.tape, k.output.trans h.output, Nat.le_trans h.size k.size, fun i hi hn => (k.block i (Nat.lt_of_lt_of_le hi h.size) (fun e => by rcases hF i e with h | h; exact hn h; omega)).trans (h.block i hi hn)⟩
theorem Chg.same {F : Nat → Prop} {a b c : World} (h : Chg F a b) (k : Chg F b c) : Chg F a c := h.trans k (fun _ h => .inl h)
theorem Chg.of_grown {F : Nat → Prop} {w w' : World} {b : Option Nat} (h : w.grownBy w' b) (hF : ∀ k, b = some k → F k) : Chg F w w' :=
  ⟨h.os, h.tape, h.output, h.size, fun i hi hn => h.block i hi (fun e => hn (hF i e.symm))⟩
theorem Chg.of_below {F : Nat → Prop} {w w' : World} (h : Below w.heap.size w w') : Chg F w w' :=
  ⟨h.os, h.tape, h.output, h.size, fun i hi _ => h.block i hi⟩
theorem Chg.below {F : Nat → Prop} {B : Nat} {w w' : World} (h : Chg F w w') (hB : B ≤ w.heap.size) (hF : ∀ k, F k → B ≤ k) : Below B w w' :=
  ⟨h.os, h.tape, h.output, h.size, fun i hi => h.block i (Nat.lt_of_lt_of_le hi hB) (fun e => by have := hF i e; omega)⟩
theorem Chg.weak {F F' : Nat → Prop} {w w' : World} (h : Chg F w w') (hF : ∀ k, F k → F' k) : Chg F' w w' :=
  ⟨h.os, h.tape, h.output, h.size, fun i hi hn => h.block i hi (fun e => hn (hF i e))⟩
theorem Chg.box {F : Nat → Prop} {w w' : World} {b : Nat} {cs : Array Value} {t : TypeId} (hb : Box w b cs t) (h : Chg F w w') (hn : ¬ F b) : Box w' b cs t := (h.block b hb.lt hn).trans hb
theorem Chg.cell {F : Nat → Prop} {w w' : World} {a : Addr} {v : Value} (hc : w.cell? a = some v) (h : Chg F w w') (hn : ¬ F a.block) : w'.cell? a = some v := by
  have hlt := World.block_lt_of_cell? w _ hc
  rw [← hc]
  unfold World.cell?
  rw [h.block _ hlt hn]
theorem Chg.own {F : Nat → Prop} {w w' : World} {B e size n m c : Nat} {a : Option Addr} {xs : List Value} (ho : w.ownsRow B e size (.slice a m c) n xs) (h : Chg F w w') (hn : ∀ k, blk a = some k → ¬ F k) : w'.ownsRow B e size (.slice a m c) n xs := by
  refine ⟨ho.1, ?_⟩
  rcases ho.2 with ho | ⟨g, cap, cur, hv, hB, hg, h1, h2, h3, h4⟩
  · exact .inl ho
  · simp only [Value.slice.injEq] at hv
    refine .inr ⟨g, cap, cur, by simp only [Value.slice.injEq]; exact hv, hB, ?_, h1, h2, h3, h4⟩
    rw [h.block g (Array.getElem?_eq_some_iff.1 hg).1 (hn g (by rw [hv.1]; rfl))]; exact hg
theorem Chg.sl {F : Nat → Prop} {w w' : World} {a : Option Addr} {len cap size : Nat} {cs : List Value} (hs : SlC w a len cap size cs) (h : Chg F w w') (hn : ∀ k, blk a = some k → ¬ F k) : SlC w' a len cap size cs :=
  ⟨hs.hlen, hs.le, hs.capm, hs.nil, fun i hi => by
    obtain ⟨b', off, ha, hc⟩ := hs.cell i hi
    exact ⟨b', off, ha, Chg.cell hc h (hn b' (by simp [ha, blk]))⟩⟩

/-- A block of a type. -/
def TyAt (w : World) (k : Nat) (e : TypeId) : Prop := ∃ cur, w.heap[k]? = some (.cells cur e (0, 0))
theorem TyAt.ne {w : World} {k k' : Nat} {e e' : TypeId} (h : TyAt w k e) (h' : TyAt w k' e') (hne : e ≠ e') : k ≠ k' := by
  rintro rfl
  obtain ⟨c, h⟩ := h
  obtain ⟨c', h'⟩ := h'
  rw [h] at h'
  simp only [Option.some.injEq, Obj.cells.injEq] at h'
  exact hne h'.2.1
theorem TyAt.lt {w : World} {k : Nat} {e : TypeId} (h : TyAt w k e) : k < w.heap.size := by obtain ⟨c, h⟩ := h; exact (Array.getElem?_eq_some_iff.1 h).1
theorem ty_own {w : World} {B e size n m c k : Nat} {a : Option Addr} {xs : List Value} (h : w.ownsRow B e size (.slice a m c) n xs) (hk : blk a = some k) : TyAt w k e ∧ B ≤ k := by
  rcases h.2 with ⟨h, h2⟩ | ⟨g, cap, cur, hv, hB, hg, _⟩
  · simp only [Value.slice.injEq] at h
    rw [h.1] at hk; cases hk
  · simp only [Value.slice.injEq] at hv
    rw [hv.1] at hk
    simp only [blk, Option.map_some, Option.some.injEq] at hk
    subst hk
    exact ⟨⟨cur, hg⟩, hB⟩

theorem down_frontK {w : World} {B e g n m cap size : Nat} {xs : List Value} (h : w.ownsRow B e size (.slice (some ⟨g, 0, none⟩) n cap) n xs) (hm : m ≤ n) : w.ownsRow B e size (.slice (some ⟨g, 0, none⟩) m cap) m (xs.take (m * size)) := by
  have hxl : xs.length = n * size := h.1
  have hms : m * size ≤ n * size := Nat.mul_le_mul_right _ hm
  refine ⟨by rw [List.length_take, hxl]; omega, ?_⟩
  rcases h.2 with ⟨hv, _⟩ | ⟨g', cap', cur, hv, hB, hg, h1, h2, h3, h4⟩
  · cases hv
  · simp only [Value.slice.injEq, Option.some.injEq, Addr.mk.injEq, and_true, true_and] at hv
    obtain ⟨rfl, rfl⟩ := hv
    refine .inr ⟨g, cap, cur, rfl, hB, hg, by omega, h2, h3, ?_⟩
    rw [← h4, List.take_take, Nat.min_eq_left hms]

end Go.Proofs.YtedchegejalolaaGreatDoor.Dk

/- Plain facts on the law's own Numbers, and on Picked. -/
namespace Go.Proofs.YtedchegejalolaaGreatDoor
set_option linter.unusedVariables false
open Go.RowKit

theorem pick_nat (a : Int) (n : Int) (h : 0 < n) : ∃ q : Nat, pick a n = q ∧ (q : Int) < n := by
  have := pick_bd a n h
  exact ⟨(pick a n).toNat, (Int.toNat_of_nonneg this.1).symm, by omega⟩

end Go.Proofs.YtedchegejalolaaGreatDoor

/- Plain facts on points. -/
namespace Go.Proofs.YtedchegejalolaaGreatDoor
set_option linter.unusedVariables false
open Go.RowKit

/-- A point. -/
structure Pt where
  x : Int
  y : Int
  w : Int
instance : Inhabited Pt := ⟨⟨0, 0, 0⟩⟩

def ptL (p : Pt) : List Value := [.int .i64 p.x, .int .i64 p.y, .int .i64 p.w]
theorem ptL_len (p : Pt) : (ptL p).length = 3 := rfl
abbrev pt0 : Pt := ⟨0, 0, 0⟩
structure Pt.Wf (p : Pt) : Prop where
  x : (Lit.int .i64 p.x).wf = true
  y : (Lit.int .i64 p.y).wf = true
  w : (Lit.int .i64 p.w).wf = true
/-- All coordinates are near. -/
def Pt.Near (p : Pt) : Prop := (-1048576 ≤ p.x ∧ p.x ≤ 1048576) ∧ (-1048576 ≤ p.y ∧ p.y ≤ 1048576) ∧ (-1048576 ≤ p.w ∧ p.w ≤ 1048576)
end Go.Proofs.YtedchegejalolaaGreatDoor

