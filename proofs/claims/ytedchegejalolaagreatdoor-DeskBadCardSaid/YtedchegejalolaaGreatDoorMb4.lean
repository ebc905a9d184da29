import Derived.Test.YtedchegejalolaaGreatDoorMb3
import Derived.Test.YtedchegejalolaaGreatDoorMb0
import Derived.Test.YtedchegejalolaaGreatDoorMb1
import Derived.Shelf.Abstract
import Derived.StillTail
/- Points of raw spots; package grid: what points may be. -/
namespace Go.Proofs.YtedchegejalolaaGreatDoor
set_option linter.unusedVariables false
open Go.RowKit

theorem info_pt : (Tryz.prog.info? 78).map (fun i => (i.zero, i.size, i.bytes)) = some (some (.agg #[.int .i64 0, .int .i64 0, .int .i64 0]), 3, 24) := by kernel_rfl
theorem tPts : ElemTy Tryz.prog 42 78 3 24 (.agg #[.int .i64 0, .int .i64 0, .int .i64 0]) :=
  ⟨Tryz.underlying42, by obtain ⟨i0, hi, h0, h1, h2⟩ := info_parts info_pt; exact ⟨i0, hi, h0, h1, h2⟩, rfl, by decide⟩

theorem near_any (x : Int) (w : World) (h1 : -1048576 ≤ x) (h2 : x ≤ 1048576) :
    Calls Tryz.prog 78 #[.int .i64 x] w fun e w' => e = .returned (.bool true) ∧ w = w' := by
  have h1' : decide (-1048576 ≤ x) = true := decide_eq_true h1
  have h2' : decide (x ≤ 1048576) = true := decide_eq_true h2
  go_enter Tryz.func78, Tryz.ntmps78
  go_wp2
  go_ret
  exact ⟨rfl, rfl⟩

theorem odd_any (p : Pt) (w : World) (h : p.Near) :
    Calls Tryz.prog 77 #[.agg #[.int .i64 p.x, .int .i64 p.y, .int .i64 p.w]] w fun e w' => e = .returned (.bool false) ∧ w.alloc (.cells #[.int .i64 p.x, .int .i64 p.y, .int .i64 p.w] 78) = w' := by
  obtain ⟨x, y, z⟩ := p
  obtain ⟨⟨a1, a2⟩, ⟨b1, b2⟩, ⟨c1, c2⟩⟩ := h
  have C1 := Kp.mk (fun W => near_any x W a1 a2)
  have C2 := Kp.mk (fun W => near_any y W b1 b2)
  have C3 := Kp.mk (fun W => near_any z W c1 c2)
  clear a1 a2 b1 b2 c1 c2
  dsimp only
  go_enter Tryz.func77, Tryz.ntmps77
  go_wp2_with (go_at_call 78; (first | (with_reducible refine (C1.out _).mono ?_) | (with_reducible refine (C2.out _).mono ?_) | (with_reducible refine (C3.out _).mono ?_)); rintro e w' ⟨rfl, rfl⟩)
  go_ret
  exact ⟨rfl, rfl⟩

set_option maxHeartbeats 1000000 in
theorem noOdd_any (a : Option Addr) (cap n : Nat) (L : List Pt) (w : World) (h : SlF ptL 3 w a n cap L) (hn : n ≤ 1000000) (hN : ∀ p ∈ L, p.Near) :
    Calls Tryz.prog 110 #[.slice a n cap, .func (.func 77) #[] #[]] w fun e w' => e = .returned (.int .i64 (-1)) ∧ Kp (Below w.heap.size w w') := by
  have HLn := Kp.mk (h.len ptL_len (by omega))
  have H := Kp.mk h
  have HN := Kp.mk hN
  have eg : ∀ args w, (callFunc 77 args).run Tryz.prog w = .ok (.enter 77 args) w := enters_of Tryz.func77 (by kernel_rfl) rfl
  clear h hN
  go_enter Tryz.func110, Tryz.ntmps110
  go_wp2
  go_loopw [8] (fun i wr => ∃ k : Nat, k ≤ n ∧ i = .int .i64 k ∧ Kp (Below w.heap.size w wr)) (fun i _ => n - (intOf i).toNat)
  case atStart => exact ⟨0, Nat.zero_le _, rfl, ⟨Below.refl _ _⟩⟩
  case round =>
    obtain ⟨k, hk, rfl, HB⟩ := hrel
    by_cases hlt : k < n
    · obtain ⟨b, off, rfl, hbw, co⟩ := (H.out.below HB.out).at ptL_len (by omega) k (by rw [HLn.out]; exact hlt)
      have hm := HN.out _ (List.getElem_mem (show k < L.length by rw [HLn.out]; exact hlt))
      generalize L[k]'(by rw [HLn.out]; exact hlt) = p at *
      have C := Kp.mk (odd_any p wr hm)
      have o0 : wr.cell? ⟨b, off + k * 3, none⟩ = some (.int .i64 p.x) := co 0 (by omega)
      have o1 : wr.cell? ⟨b, off + k * 3 + 1, none⟩ = some (.int .i64 p.y) := co 1 (by omega)
      have o2 : wr.cell? ⟨b, off + k * 3 + 2, none⟩ = some (.int .i64 p.w) := co 2 (by omega)
      clear co hm
      go_wp2_with (go_at_fn 77; refine C.out.mono ?_; rintro e w' ⟨rfl, rfl⟩)
      have HB2 := Kp.mk (HB.out.alloc (by exact HB.out.size) (.cells #[.int .i64 p.x, .int .i64 p.y, .int .i64 p.w] 78))
      go_roundw
      case rel => exact ⟨k + 1, by omega, by go_num, HB2⟩
      case measure => simp [intOf]; omega
    · go_wp2
      go_ret
      exact ⟨rfl, HB⟩

theorem noneOdd_any (a : Option Addr) (cap n : Nat) (L : List Pt) (w : World) (h : SlF ptL 3 w a n cap L) (hn : n ≤ 1000000) (hN : ∀ p ∈ L, p.Near) :
    Calls Tryz.prog 76 #[.slice a n cap, .func (.func 77) #[] #[]] w fun e w' => e = .returned (.bool false) ∧ Kp (Below w.heap.size w w') := by
  have C := Kp.mk (noOdd_any a cap n L w h hn hN)
  clear h hN
  go_enter Tryz.func76, Tryz.ntmps76
  go_wp2_with fail
  refine C.out.mono ?_
  rintro e w1 ⟨rfl, HB⟩
  go_wp2
  go_ret
  exact ⟨rfl, HB⟩

theorem gcheck_any (a : Option Addr) (cap n : Nat) (L : List Pt) (w : World) (h : SlF ptL 3 w a n cap L) (hn : n ≤ 150) (hN : ∀ p ∈ L, p.Near) :
    Calls Tryz.prog 51 #[.slice a n cap] w fun e w' => e = .returned (.int .i64 0) ∧ Kp (Below w.heap.size w w') := by
  have C := Kp.mk (noneOdd_any a cap n L w h (by omega) hN)
  have hn' : ¬ (150 < (n : Int)) := by omega
  clear h hN
  go_enter Tryz.func51, Tryz.ntmps51
  go_wp2_with fail
  refine C.out.mono ?_
  rintro e w1 ⟨rfl, HB⟩
  go_wp2
  go_ret
  exact ⟨rfl, HB⟩

end Go.Proofs.YtedchegejalolaaGreatDoor

/- A region that draws: quiet operations in whatever order, and a forced tail behind them. -/
namespace Go.Proofs.YtedchegejalolaaGreatDoor
set_option linter.unusedVariables false
open Go.RowKit

section
variable {P : Program} {ops : Array Oper} {md : Region.Mode} {C : World → Prop}

/-- The first n operations come up, in whatever order, each of them quiet; then L. -/
def headQ (P : Program) (md : Region.Mode) (ops : Array Oper) (C : World → Prop) (n : Nat) (L : Array Bool → Act → Prop) : Nat → Array Bool → Act → Prop
  | 0, listed, a => L listed a
  | f + 1, listed, a => Region.ready md ops listed ≠ [] ∧ ∀ i ∈ Region.ready md ops listed, i < n ∧ qOp P ops C i (headQ P md ops C n L f (listed.setIfInBounds i true)) a
theorem any_of_headQ {n g : Nat} {L : Array Bool → Act → Prop} {Q : Exit → Act → World → Prop} (hL : ∀ listed a, L listed a → ∀ w, C w → wpAny P md ops Q g listed a w) :
    ∀ (f : Nat) (listed : Array Bool) (a : Act) (w : World), C w → headQ P md ops C n L f listed a → wpAny P md ops Q (f + g) listed a w
  | 0, listed, a, w, hw, h => by rw [Nat.zero_add]; exact hL _ _ h w hw
  | f + 1, listed, a, w, hw, h => by
    rw [show f + 1 + g = (f + g) + 1 by omega]
    exact ⟨fun h0 => absurd h0 h.1, fun i hi => wpOp_of_qOp hw (fun a' w' hw' h' => any_of_headQ hL f _ a' w' hw' h') (h.2 i hi).2⟩
theorem headQ_first {n i : Nat} {oi : Oper} {v : Value} {L : Array Bool → Act → Prop} (hi : ops[i]? = some oi) (hsel : ∀ (j : Nat) (o : Oper) cs b, ops[j]? = some o → o.op ≠ .select cs b)
    (hs : Region.sinkB md ops n = true) (hc : Region.chainB md ops n = true) (hn : n < ops.size) (hin : i < n) (hdone : ∀ listed a, L listed a → ∀ j ∈ Region.ready md ops listed, n ≤ j) :
    ∀ (f : Nat) (listed : Array Bool) (a : Act), HeadInv md ops n listed →
      (∀ j oj, ops[j]? = some oj → j ≠ i → listed.getD j true = false → (∀ e ∈ oj.after, Region.binds md e = true → e.on ≠ i) → oi.apart ops oj = true) →
      i ∈ Region.ready md ops listed → YieldsIn P ops C oi v a →
      headQ P md ops C n L f (listed.setIfInBounds i true) (a.put oi.dst v) → headQ P md ops C n L (f + 1) listed a := by
  intro f
  induction f with
  | zero =>
    intro listed a inv _ hr hy H
    refine ⟨fun h => (by rw [h] at hr; cases hr), fun j hj => ?_⟩
    have hjn : j < n := by
      by_cases h : j < n
      · exact h
      · exact absurd hj (tail_waits hs hc hn inv _ i rfl hin (mem_ready.1 hr).1 j (by omega))
    by_cases hji : j = i
    · subst hji; exact ⟨hjn, hy.qOp hi H⟩
    · have := hdone _ _ H j (ready_mono hj hji)
      omega
  | succ f ih =>
    intro listed a inv hfree hr hy H
    refine ⟨fun h => (by rw [h] at hr; cases hr), fun j hj => ?_⟩
    have hjn : j < n := by
      by_cases h : j < n
      · exact h
      · exact absurd hj (tail_waits hs hc hn inv _ i rfl hin (mem_ready.1 hr).1 j (by omega))
    refine ⟨hjn, ?_⟩
    by_cases hji : j = i
    · subst hji; exact hy.qOp hi H
    · have h1 := (H.2 j (ready_mono hj hji)).2
      obtain ⟨hjun, oj, hoj, hall⟩ := mem_ready.1 hj
      have hnot : ∀ e ∈ oj.after, Region.binds md e = true → e.on ≠ i := fun e he hb heq => by
        have h2 := hall e he hb
        rw [heq, getD_both (mem_ready.1 hr).1] at h2
        cases h2
      have h2 := qOp_put hoj (hfree j oj hoj hji hjun hnot) (fun cs b => hsel i oi cs b hi) (fun cs b => hsel j oj cs b hoj) hy h1
      refine qOp_mono (fun a' h3 => ih (listed.setIfInBounds j true) a' (inv.set hj hjn) ?_ (ready_mono hr (Ne.symm hji)) h3.1 ?_) h2
      · intro k ok hk hki hun hno
        refine hfree k ok hk hki ?_ hno
        by_cases hjk : j = k
        · subst hjk; exact hjun
        · rw [getD_set_ne true hjk] at hun; exact hun
      · rw [Array.setIfInBounds_comm _ _ hji]
        exact h3.2
theorem headQ_lex {n g : Nat} {Lq : Act → Prop} (hsel : Region.noSelect ops = true) (hs : Region.sinkB md ops n = true) (hc : Region.chainB md ops n = true) (hn : n < ops.size) :
    ∀ (l : List Oper) (k : Nat) (listed : Array Bool) (a : Act), (∀ j, j < l.length → l[j]? = ops[k + j]?) → k + l.length = n → HeadInv md ops n listed →
    Region.lexHead md ops g l.length k listed = true → wpQuiet P ops C Lq l a →
    headQ P md ops C n (fun listed' a' => Region.seqB md ops g n listed' = true ∧ Lq a') l.length listed a
  | [], k, listed, a, _, hk, _, hB, h => by
    obtain rfl : k = n := by simpa using hk
    exact ⟨by simpa [Region.lexHead] using hB, h⟩
  | o :: l, k, listed, a, hl, hk, inv, hB, h => by
    have h0 : ops[k]? = some o := by simpa using (hl 0 (by simp)).symm
    simp only [List.length_cons, Region.lexHead, Bool.and_eq_true] at hB
    obtain ⟨⟨hr, hf⟩, hB'⟩ := hB
    have hkn : k < n := by simp only [List.length_cons] at hk; omega
    have hr' : k ∈ Region.ready md ops listed := by simpa using hr
    have hq : qOp P ops C k (wpQuiet P ops C Lq l) a := by unfold qOp; simp only [h0]; exact h
    obtain ⟨v, hy, hK⟩ := yieldsIn_of_qOp h0 hq
    refine headQ_first h0 (Region.noSelect_spec hsel) hs hc hn hkn (fun listed' a' hL => seqB_ready hL.1) l.length listed a inv (Region.free_spec h0 hf) hr' hy ?_
    refine headQ_lex hsel hs hc hn l (k + 1) _ _ (fun j hj => ?_) (by simp only [List.length_cons] at hk; omega) (inv.set hr' hkn) hB' hK
    have := hl (j + 1) (by simp; omega)
    simpa [Nat.add_assoc, Nat.add_comm 1 j] using this
/-- The first n operations are quiet in the class; the rest comes one by one. -/
theorem region_quiet_tail {id : Nat} {Q : Exit → Act → World → Prop} {a : Act} {w : World} {l : List Oper} (n : Nat) (C : World → Prop) (hm : P.follows .mixedOrders = true) (hB : Region.lexTailB .any l.toArray n = true) (hC : C w.drew)
    (h : wpQuiet P l.toArray C (fun a' => ∀ w', C w' → wpList P l.toArray Q (l.drop n) a' w') (l.take n) a) : (Code.region id l.toArray true).wp P Q a w := by
  simp only [Region.lexTailB, Bool.and_eq_true, decide_eq_true_eq] at hB
  obtain ⟨⟨⟨⟨hsel, hn⟩, hs⟩, hc⟩, hlex⟩ := hB
  have hn' : n < l.length := by simpa using hn
  have htl : (l.take n).length = n := by simp; omega
  have hdl : (l.drop n).length = l.toArray.size - n := by simp
  have inv0 : HeadInv .any l.toArray n (Array.replicate l.toArray.size false) :=
    ⟨by simp, fun j oj _ hl => (by rw [getD_replicate_false] at hl; cases hl), fun t _ ht => getD_in (by simpa using ht) (getD_replicate_false _ _)⟩
  have H := headQ_lex (md := .any) (g := l.toArray.size - n) hsel hs hc hn (l.take n) 0 _ a (fun j hj => by
    have hj' : j < n := by rw [htl] at hj; exact hj
    simp [hj']) (by simpa using htl) inv0 (by rw [htl]; exact hlex) h
  refine wp_region_any hm ?_
  have := any_of_headQ (Q := Q) (g := l.toArray.size - n) (fun listed a' hL w' hw' => by
    have := wpAny_of_seq (md := .any) (Q' := Q) (l.drop n) n listed a' w' (fun j => by simp [List.getElem?_drop]) (by rw [hdl]; exact hL.1) (hL.2 w' hw')
    rwa [hdl] at this) _ _ _ w.drew hC H
  rw [htl, show n + (l.toArray.size - n) = l.toArray.size by omega] at this
  exact this
/-- The same, in every later world. -/
theorem region_later_tail {id : Nat} {Q : Exit → Act → World → Prop} {a : Act} {w : World} {l : List Oper} (n : Nat) (hm : P.follows .mixedOrders = true) (hB : Region.lexTailB .any l.toArray n = true)
    (h : wpQuiet P l.toArray (fun w' => ∃ x : Later w, w' = x.val) (fun a' => ∀ w', (∃ x : Later w, w' = x.val) → wpList P l.toArray Q (l.drop n) a' w') (l.take n) a) : (Code.region id l.toArray true).wp P Q a w :=
  region_quiet_tail n (fun w' => ∃ x : Later w, w' = x.val) hm hB ⟨⟨w.drew, (Below.refl _ _).drew⟩, rfl⟩ h
end

end Go.Proofs.YtedchegejalolaaGreatDoor

/- Rows and boxes of different element types lie in different blocks; a box behind an append, a store. -/
namespace Go.Proofs.YtedchegejalolaaGreatDoor
set_option linter.unusedVariables false
open Go.RowKit

theorem row_box {W : World} {B bp e size n c m : Nat} {t : TypeId} {a : Option Addr} {cs : Array Value} {xs : List Value} (h : W.ownsRow B e size (.slice a m c) n xs) (hb : Box W bp cs t) (hne : t ≠ e) : blk a ≠ some bp := fun e' => by
  rcases h.2 with ⟨hv, _⟩ | ⟨g, cap, cur, hv, _, hgb, _⟩
  · simp only [Value.slice.injEq] at hv
    rw [hv.1] at e'; cases e'
  · simp only [Value.slice.injEq] at hv
    rw [hv.1] at e'
    simp only [blk, Option.map_some, Option.some.injEq] at e'
    subst e'
    have hb' : W.heap[g]? = some (.cells cs t (0, 0)) := hb
    rw [hgb] at hb'
    simp only [Option.some.injEq, Obj.cells.injEq] at hb'
    exact hne hb'.2.1.symm
theorem box_grow {w w' : World} {b : Nat} {cs : Array Value} {t : TypeId} {r : Option Nat} (h : Box w b cs t) (hg : w.grownBy w' r) (hne : r ≠ some b) : Box w' b cs t := (hg.block b h.lt (fun e => hne e.symm)).trans h
theorem box_far {w : World} {b c o : Nat} {cs : Array Value} {t : TypeId} {v : Value} (h : Box w b cs t) (hne : c ≠ b) : Box (w.setCell ⟨c, o, none⟩ v) b cs t := (heap_setCell_other w ⟨c, o, none⟩ b v (fun e => hne e.symm)).trans h
theorem box_put {w : World} {b i : Nat} {cs : Array Value} {t : TypeId} (h : Box w b cs t) (v : Value) : Box (w.setCell ⟨b, i, none⟩ v) b (cs.setIfInBounds i v) t := by
  obtain ⟨hlt, hk⟩ := Array.getElem?_eq_some_iff.1 h
  show (w.heap.modify b _)[b]? = _
  rw [Array.getElem?_eq_getElem (by rw [Array.size_modify]; exact hlt), Array.getElem_modify_self, hk]
  rfl
theorem row_row {w : World} {B e size n m c B' e' size' n' m' c' : Nat} {a a' : Option Addr} {xs xs' : List Value} (h : w.ownsRow B e size (.slice a m c) n xs) (h' : w.ownsRow B' e' size' (.slice a' m' c') n' xs') (hne : e ≠ e') : ∀ k, blk a = some k → blk a' ≠ some k := by
  intro k hk hk'
  rcases h.2 with ⟨hv, _⟩ | ⟨g, cap, cur, hv, _, hgb, _⟩
  · simp only [Value.slice.injEq] at hv
    rw [hv.1] at hk; cases hk
  · simp only [Value.slice.injEq] at hv
    rw [hv.1] at hk
    simp only [blk, Option.map_some, Option.some.injEq] at hk
    subst hk
    exact row_box h' (show Box w g cur e from hgb) hne hk'

end Go.Proofs.YtedchegejalolaaGreatDoor

/- desk: its points; put and drop. -/
namespace Go.Proofs.YtedchegejalolaaGreatDoor.Dk
set_option linter.unusedVariables false
open Go.RowKit

/-- A desk in memory. -/
structure DS (w : World) (B db : Nat) (pa : Option Addr) (pc : Nat) (L : List Pt) : Prop where
  box : Box w db #[.slice pa L.length pc] 44
  row : w.ownsRow B 78 3 (.slice pa L.length pc) L.length (flat ptL L)
  lo : B ≤ db
def Fd (db : Nat) (pa : Option Addr) (k : Nat) : Prop := k = db ∨ blk pa = some k
def bad : Wd := [98, 97, 100]
def okW : Wd := [111, 107]
def noneW : Wd := [110, 111, 110, 101]
/-- What a command leaves. -/
structure Out (B db : Nat) (pa : Option Addr) (w w' : World) (L' : List Pt) (pa' : Option Addr) (pc' : Nat) : Prop where
  ds : DS w' B db pa' pc' L'
  chg : Chg (Fd db pa) w w'
  new : ∀ k, blk pa' = some k → blk pa = some k ∨ w.heap.size ≤ k
theorem DS.below {w w' : World} {B db pc : Nat} {pa : Option Addr} {L : List Pt} (h : DS w B db pa pc L) (hb : Below w.heap.size w w') : DS w' B db pa pc L := ⟨h.box.below hb, own_below h.row hb, h.lo⟩
theorem Out.same {w w' : World} {B db pc : Nat} {pa : Option Addr} {L : List Pt} (h : DS w B db pa pc L) (hb : Below w.heap.size w w') : Out B db pa w w' L pa pc := ⟨h.below hb, Chg.of_below hb, fun k e => .inl e⟩

set_option maxRecDepth 100000 in
set_option maxHeartbeats 4000000 in
theorem drop_any (B db pc : Nat) (pa : Option Addr) (L : List Pt) (w : World) (h : DS w B db pa pc L) :
    Calls Tryz.prog 20 #[.pointer (some ⟨db, 0, none⟩)] w fun e w' => ∃ (pa' : Option Addr) (pc' : Nat), e = .returned (str (if L.length = 0 then noneW else okW)) ∧ Kp (Out B db pa w w' L.dropLast pa' pc') := by
  have H := Kp.mk h
  have k0 : w.cell? ⟨db, 0, none⟩ = some (.slice pa L.length pc) := h.box.cell 0 rfl
  have f0 := h.box.free 0
  obtain ⟨n, hn⟩ : ∃ n, L.length = n := ⟨_, rfl⟩
  rw [hn] at k0
  have HN := Kp.mk hn
  have hcl := (own_slc h.row).le
  have hcm := (own_slc h.row).capm
  unfold maxLen at hcm
  rw [hn] at hcl
  clear h
  by_cases h0 : n = 0
  · subst h0
    have hL : L = [] := List.length_eq_zero_iff.1 hn
    rw [if_pos hn]
    clear hn
    go_enter Tryz.func20, Tryz.ntmps20
    go_wp2
    go_ret
    refine ⟨pa, pc, rfl, ⟨?_⟩⟩
    subst hL
    exact Out.same H.out (Below.refl _ _)
  · rw [if_neg (by rw [hn]; exact h0)]
    obtain ⟨m, rfl⟩ : ∃ m, n = m + 1 := ⟨n - 1, by omega⟩
    obtain ⟨g, rfl, hgB, _⟩ := own_some H.out.row (by omega)
    have hm1 : IntKind.i64.wrap (m : Int) = (m : Int) := IntWalk.i64_in _ (by omega)
    have hm2 : IntKind.i64.wrap ((m : Int) + 1 - 1) = (m : Int) := by rw [show (m : Int) + 1 - 1 = (m : Int) by omega]; exact hm1
    have hm3 : m ≤ pc := by omega
    have hm4 : (0 : Int) ≤ (m : Int) := by omega
    have hm5 : (m : Int) ≤ (pc : Int) := by omega
    clear hn
    go_enter Tryz.func20, Tryz.ntmps20
    go_upto_region 3 with (fail)
    have l0 := later_cell k0
    refine region_later_tail 14 (by kernel_rfl) (by kernel_rfl) ?_
    simp only [List.take_succ_cons, List.take_zero, List.drop_succ_cons, List.drop_zero]
    iterate 14 (go_big_quiet_step (fail))
    refine wpQuiet_nil ?_
    rintro w4 ⟨xl, rfl⟩
    have H4 := Kp.mk (H.out.below xl.le)
    have hle := xl.le
    generalize xl.val = w4 at *
    have f4 := H4.out.box.free 0
    have k4 : w4.cell? ⟨db, 0, none⟩ = some (.slice (some ⟨g, 0, none⟩) (m + 1) pc) := by
      have := H4.out.box.cell 0 rfl
      rwa [HN.out] at this
    have hgs := grown_set w4 db 0 (.slice (some ⟨g, 0, none⟩) m pc)
    have hdl : L.dropLast.length = m := by rw [List.length_dropLast, HN.out]; omega
    have HO := Kp.mk (show Out B db (some ⟨g, 0, none⟩) w (w4.setCell ⟨db, 0, none⟩ (.slice (some ⟨g, 0, none⟩) m pc)) L.dropLast (some ⟨g, 0, none⟩) pc from by
      have hr := H4.out.row
      rw [HN.out] at hr
      have hr2 := down_frontK hr (m := m) (by omega)
      rw [Go.Proofs.YtedchegejalolaaGreatDoor.flat_take ptL_len, show L.take m = L.dropLast by rw [List.dropLast_eq_take, HN.out]; rfl] at hr2
      have hne : g ≠ db := (ty_own hr2 rfl).1.ne (⟨_, H4.out.box⟩ : TyAt w4 db 44) (by decide)
      have hbx := box_put (i := 0) H4.out.box (.slice (some ⟨g, 0, none⟩) m pc)
      refine ⟨⟨?_, ?_, H4.out.lo⟩, (Chg.of_below hle).same (Chg.of_grown hgs (fun k e => by cases e; exact .inl rfl)), fun k e => .inl e⟩
      · rw [hdl]; simpa using hbx
      · rw [hdl]; exact own_keep hr2 hgs (fun k e e2 => by cases e; exact hne (by simpa [blk] using e2)))
    clear l0 k0 hgs hdl H4
    go_wp2
    go_ret
    exact ⟨_, _, rfl, HO⟩

end Go.Proofs.YtedchegejalolaaGreatDoor.Dk

