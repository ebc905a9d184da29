import Derived.Test.YteeeikninigeoaaGreatDoorMg0
import Derived.Test.YteeeikninigeoaaGreatDoorMg31
import Derived.Test.YteeeikninigeoaaGreatDoorMg5
import Derived.StillTail
/- A region that draws: quiet operations in whatever order, and a forced tail behind them. -/
namespace Go.Proofs.YteeeikninigeoaaGreatDoor
set_option linter.unusedVariables false
open Go.RowKit

section
variable {P : Program} {ops : Array Oper} {md : Region.Mode} {C : World → Prop}

/-- The first n operations come up, in whatever order, each of them quiet; then L. -/
def headQ (P : Program) (md : Region.Mode) (ops : Array Oper) (C : World → Prop) (n : Nat) (L : Array Bool → Act → Prop) : Nat → Array Bool → Act → Prop
  | 0, listed, a => L listed a
  | f + 1, listed, a => Region.ready md ops listed ≠ [] ∧ ∀ i ∈ Region.ready md ops listed, i < n ∧ qOp P ops C i (headQ P md ops C n L f (listed.setIfInBounds i true)) a
theorem any_of_headQ {n g : Nat} {L : Array Bool → Act → Prop} {Q : Exit → Act → World → Prop} (hL : ∀ listed a, L listed a → ∀ w, C w → wpAny P md ops Q g listed a w) :
    ∀ (f : Nat) (listed : Array Bool) (a : Act) (w : World), C w → headQ P md ops C n L f listed a → wpAny P md ops Q (f + g) listed a w
  | 0, listed, a, w, hw, h => by rw [Nat.zero_add]; exact hL _ _ h w hw
  | f + 1, listed, a, w, hw, h => by
    rw [show f + 1 + g = (f + g) + 1 by omega]
    exact ⟨fun h0 => absurd h0 h.1, fun i hi => wpOp_of_qOp hw (fun a' w' hw' h' => any_of_headQ hL f _ a' w' hw' h') (h.2 i hi).2⟩
theorem headQ_first {n i : Nat} {oi : Oper} {v : Value} {L : Array Bool → Act → Prop} (hi : ops[i]? = some oi) (hsel : ∀ (j : Nat) (o : Oper) cs b, ops[j]? = some o → o.op ≠ .select cs b)
    (hs : Region.sinkB md ops n = true) (hc : Region.chainB md ops n = true) (hn : n < ops.size) (hin : i < n) (hdone : ∀ listed a, L listed a → ∀ j ∈ Region.ready md ops listed, n ≤ j) :
    ∀ (f : Nat) (listed : Array Bool) (a : Act), HeadInv md ops n listed →
      (∀ j oj, ops[j]? = some oj → j ≠ i → listed.getD j true = false → (∀ e ∈ oj.after, Region.binds md e = true → e.on ≠ i) → oi.apart ops oj = true) →
      i ∈ Region.ready md ops listed → YieldsIn P ops C oi v a →
      headQ P md ops C n L f (listed.setIfInBounds i true) (a.put oi.dst v) → headQ P md ops C n L (f + 1) listed a := by
  intro f
  induction f with
  | zero =>
    intro listed a inv _ hr hy H
    refine ⟨fun h => (by rw [h] at hr; cases hr), fun j hj => ?_⟩
    have hjn : j < n := by
      by_cases h : j < n
      · exact h
      · exact absurd hj (tail_waits hs hc hn inv _ i rfl hin (mem_ready.1 hr).1 j (by omega))
    by_cases hji : j = i
    · subst hji; exact ⟨hjn, hy.qOp hi H⟩
    · have := hdone _ _ H j (ready_mono hj hji)
      omega
  | succ f ih =>
    intro listed a inv hfree hr hy H
    refine ⟨fun h => (by rw [h] at hr; cases hr), fun j hj => ?_⟩
    have hjn : j < n := by
      by_cases h : j < n
      · exact h
      · exact absurd hj (tail_waits hs hc hn inv _ i rfl hin (mem_ready.1 hr).1 j (by omega))
    refine ⟨hjn, ?_⟩
    by_cases hji : j = i
    · subst hji; exact hy.qOp hi H
    · have h1 := (H.2 j (ready_mono hj hji)).2
      obtain ⟨hjun, oj, hoj, hall⟩ := mem_ready.1 hj
      have hnot : ∀ e ∈ oj.after, Region.binds md e = true → e.on ≠ i := fun e he hb heq => by
        have h2 := hall e he hb
        rw [heq, getD_both (mem_ready.1 hr).1] at h2
        cases h2
      have h2 := qOp_put hoj (hfree j oj hoj hji hjun hnot) (fun cs b => hsel i oi cs b hi) (fun cs b => hsel j oj cs b hoj) hy h1
      refine qOp_mono (fun a' h3 => ih (listed.setIfInBounds j true) a' (inv.set hj hjn) ?_ (ready_mono hr (Ne.symm hji)) h3.1 ?_) h2
      · intro k ok hk hki hun hno
        refine hfree k ok hk hki ?_ hno
        by_cases hjk : j = k
        · subst hjk; exact hjun
        · rw [getD_set_ne true hjk] at hun; exact hun
      · rw [Array.setIfInBounds_comm _ _ hji]
        exact h3.2
theorem headQ_lex {n g : Nat} {Lq : Act → Prop} (hsel : Region.noSelect ops = true) (hs : Region.sinkB md ops n = true) (hc : Region.chainB md ops n = true) (hn : n < ops.size) :
    ∀ (l : List Oper) (k : Nat) (listed : Array Bool) (a : Act), (∀ j, j < l.length → l[j]? = ops[k + j]?) → k + l.length = n → HeadInv md ops n listed →
    Region.lexHead md ops g l.length k listed = true → wpQuiet P ops C Lq l a →
    headQ P md ops C n (fun listed' a' => Region.seqB md ops g n listed' = true ∧ Lq a') l.length listed a
  | [], k, listed, a, _, hk, _, hB, h => by
    obtain rfl : k = n := by simpa using hk
    exact ⟨by simpa [Region.lexHead] using hB, h⟩
  | o :: l, k, listed, a, hl, hk, inv, hB, h => by
    have h0 : ops[k]? = some o := by simpa using (hl 0 (by simp)).symm
    simp only [List.length_cons, Region.lexHead, Bool.and_eq_true] at hB
    obtain ⟨⟨hr, hf⟩, hB'⟩ := hB
    have hkn : k < n := by simp only [List.length_cons] at hk; omega
    have hr' : k ∈ Region.ready md ops listed := by simpa using hr
    have hq : qOp P ops C k (wpQuiet P ops C Lq l) a := by unfold qOp; simp only [h0]; exact h
    obtain ⟨v, hy, hK⟩ := yieldsIn_of_qOp h0 hq
    refine headQ_first h0 (Region.noSelect_spec hsel) hs hc hn hkn (fun listed' a' hL => seqB_ready hL.1) l.length listed a inv (Region.free_spec h0 hf) hr' hy ?_
    refine headQ_lex hsel hs hc hn l (k + 1) _ _ (fun j hj => ?_) (by simp only [List.length_cons] at hk; omega) (inv.set hr' hkn) hB' hK
    have := hl (j + 1) (by simp; omega)
    simpa [Nat.add_assoc, Nat.add_comm 1 j] using this
/-- The first n operations are quiet in the class; the rest comes one by one. -/
theorem region_quiet_tail {id : Nat} {Q : Exit → Act → World → Prop} {a : Act} {w : World} {l : List Oper} (n : Nat) (C : World → Prop) (hm : P.follows .mixedOrders = true) (hB : Region.lexTailB .any l.toArray n = true) (hC : C w.drew)
    (h : wpQuiet P l.toArray C (fun a' => ∀ w', C w' → wpList P l.toArray Q (l.drop n) a' w') (l.take n) a) : (Code.region id l.toArray true).wp P Q a w := by
  simp only [Region.lexTailB, Bool.and_eq_true, decide_eq_true_eq] at hB
  obtain ⟨⟨⟨⟨hsel, hn⟩, hs⟩, hc⟩, hlex⟩ := hB
  have hn' : n < l.length := by simpa using hn
  have htl : (l.take n).length = n := by simp; omega
  have hdl : (l.drop n).length = l.toArray.size - n := by simp
  have inv0 : HeadInv .any l.toArray n (Array.replicate l.toArray.size false) :=
    ⟨by simp, fun j oj _ hl => (by rw [getD_replicate_false] at hl; cases hl), fun t _ ht => getD_in (by simpa using ht) (getD_replicate_false _ _)⟩
  have H := headQ_lex (md := .any) (g := l.toArray.size - n) hsel hs hc hn (l.take n) 0 _ a (fun j hj => by
    have hj' : j < n := by rw [htl] at hj; exact hj
    simp [hj']) (by simpa using htl) inv0 (by rw [htl]; exact hlex) h
  refine wp_region_any hm ?_
  have := any_of_headQ (Q := Q) (g := l.toArray.size - n) (fun listed a' hL w' hw' => by
    have := wpAny_of_seq (md := .any) (Q' := Q) (l.drop n) n listed a' w' (fun j => by simp [List.getElem?_drop]) (by rw [hdl]; exact hL.1) (hL.2 w' hw')
    rwa [hdl] at this) _ _ _ w.drew hC H
  rw [htl, show n + (l.toArray.size - n) = l.toArray.size by omega] at this
  exact this
/-- The same, in every later world. -/
theorem region_later_tail {id : Nat} {Q : Exit → Act → World → Prop} {a : Act} {w : World} {l : List Oper} (n : Nat) (hm : P.follows .mixedOrders = true) (hB : Region.lexTailB .any l.toArray n = true)
    (h : wpQuiet P l.toArray (fun w' => ∃ x : Later w, w' = x.val) (fun a' => ∀ w', (∃ x : Later w, w' = x.val) → wpList P l.toArray Q (l.drop n) a' w') (l.take n) a) : (Code.region id l.toArray true).wp P Q a w :=
  region_quiet_tail n (fun w' => ∃ x : Later w, w' = x.val) hm hB ⟨⟨w.drew, (Below.refl _ _).drew⟩, rfl⟩ h
end

end Go.Proofs.YteeeikninigeoaaGreatDoor

/- near: far, coord: the walks; what a search is asked. -/
namespace Go.Proofs.YteeeikninigeoaaGreatDoor
set_option linter.unusedVariables false
open Go.RowKit
open Hp (nlt nlt_iff Best KT KD HeapF)

def fdist (p q : Pt) : Int := (p.x - q.x) * (p.x - q.x) + (p.y - q.y) * (p.y - q.y)
def crd (p : Pt) (deep : Nat) : Int := if deep % 2 = 0 then p.x else p.y
def NearXY (p : Pt) : Prop := (-1048576 ≤ p.x ∧ p.x ≤ 1048576) ∧ (-1048576 ≤ p.y ∧ p.y ≤ 1048576)
theorem Pt.Near.xy {p : Pt} (h : p.Near) : NearXY p := ⟨h.1, h.2.1⟩
theorem sq_le (a : Int) (h1 : -2097152 ≤ a) (h2 : a ≤ 2097152) : 0 ≤ a * a ∧ a * a ≤ 4398046511104 := by
  have h3 : 0 ≤ a * a := by
    rcases Int.le_total 0 a with h | h
    · exact Int.mul_nonneg h h
    · have := Int.mul_nonneg (show 0 ≤ -a by omega) (show 0 ≤ -a by omega)
      rwa [Int.neg_mul_neg] at this
  refine ⟨h3, ?_⟩
  rcases Int.le_total 0 a with h | h
  · have := Int.mul_le_mul h2 h2 h (by omega)
    omega
  · have := Int.mul_le_mul (show -a ≤ 2097152 by omega) (show -a ≤ 2097152 by omega) (show 0 ≤ -a by omega) (by omega)
    rw [Int.neg_mul_neg] at this; omega
theorem fdist_bd {p q : Pt} (hp : NearXY p) (hq : NearXY q) : 0 ≤ fdist p q ∧ fdist p q ≤ 8796093022208 := by
  have h1 := sq_le (p.x - q.x) (by have := hp.1; have := hq.1; omega) (by have := hp.1; have := hq.1; omega)
  have h2 := sq_le (p.y - q.y) (by have := hp.2; have := hq.2; omega) (by have := hp.2; have := hq.2; omega)
  unfold fdist; omega
theorem crd_bd {p : Pt} (hp : NearXY p) (d : Nat) : -1048576 ≤ crd p d ∧ crd p d ≤ 1048576 := by
  unfold crd
  split
  · exact hp.1
  · exact hp.2
theorem crd_far (p q : Pt) (d : Nat) : (crd p d - crd q d) * (crd p d - crd q d) ≤ fdist p q := by
  have sq : ∀ a : Int, 0 ≤ a * a := fun a => by
    rcases Int.le_total 0 a with h | h
    · exact Int.mul_nonneg h h
    · have := Int.mul_nonneg (show 0 ≤ -a by omega) (show 0 ≤ -a by omega)
      rwa [Int.neg_mul_neg] at this
  have h1 := sq (p.x - q.x)
  have h2 := sq (p.y - q.y)
  unfold crd fdist
  split <;> omega

set_option maxRecDepth 100000 in
set_option maxHeartbeats 2000000 in
theorem far_any (p q : Pt) (w : World) (hp : NearXY p) (hq : NearXY q) :
    Calls Tryz.prog 74 #[.agg #[.int .i64 p.x, .int .i64 p.y, .int .i64 p.w], .agg #[.int .i64 q.x, .int .i64 q.y, .int .i64 q.w]] w fun e w' => e = .returned (.int .i64 (fdist p q)) ∧ Below w.heap.size w w' := by
  obtain ⟨u, hu⟩ : ∃ u, p.x - q.x = u := ⟨_, rfl⟩
  obtain ⟨v, hv⟩ : ∃ v, p.y - q.y = v := ⟨_, rfl⟩
  have hub : -2097152 ≤ u ∧ u ≤ 2097152 := by have := hp.1; have := hq.1; omega
  have hvb : -2097152 ≤ v ∧ v ≤ 2097152 := by have := hp.2; have := hq.2; omega
  have hu2 := sq_le u hub.1 hub.2
  have hv2 := sq_le v hvb.1 hvb.2
  have HE := Kp.mk (show fdist p q = u * u + v * v by unfold fdist; rw [hu, hv])
  obtain ⟨u2, hu3⟩ : ∃ z, u * u = z := ⟨_, rfl⟩
  obtain ⟨v2, hv3⟩ : ∃ z, v * v = z := ⟨_, rfl⟩
  rw [hu3] at hu2 HE
  rw [hv3] at hv2 HE
  have e1 : IntKind.i64.wrap (p.x - q.x) = u := by rw [hu]; exact IntWalk.i64_in _ (by omega)
  have e2 : IntKind.i64.wrap (p.y - q.y) = v := by rw [hv]; exact IntWalk.i64_in _ (by omega)
  have e3 : IntKind.i64.wrap (u * u) = u2 := by rw [hu3]; exact IntWalk.i64_in _ (by omega)
  have e4 : IntKind.i64.wrap (v * v) = v2 := by rw [hv3]; exact IntWalk.i64_in _ (by omega)
  have e5 : IntKind.i64.wrap (u2 + v2) = u2 + v2 := IntWalk.i64_in _ (by omega)
  have HB := Kp.mk ((below_alloc (Nat.le_refl w.heap.size) (.cells #[.int .i64 p.x, .int .i64 p.y, .int .i64 p.w] 63)).alloc (by rw [alloc_size]; omega) (.cells #[.int .i64 q.x, .int .i64 q.y, .int .i64 q.w] 63))
  rw [HE.out]
  clear HE hu hv hub hvb hu2 hv2 hu3 hv3 hp hq
  go_enter Tryz.func74, Tryz.ntmps74
  go_wp2
  go_ret
  exact ⟨rfl, HB.out⟩

set_option maxRecDepth 100000 in
set_option maxHeartbeats 2000000 in
theorem coord_any (p : Pt) (deep : Nat) (w : World) (hd : deep ≤ 1000) :
    Calls Tryz.prog 72 #[.agg #[.int .i64 p.x, .int .i64 p.y, .int .i64 p.w], .int .i64 (deep : Int)] w fun e w' => e = .returned (.int .i64 (crd p deep)) ∧ w' = w.alloc (.cells #[.int .i64 p.x, .int .i64 p.y, .int .i64 p.w] 63) := by
  have e1 : IntKind.i64.wrap ((deep : Int).tmod 2) = ((deep % 2 : Nat) : Int) := by
    rw [show (deep : Int).tmod 2 = ((deep % 2 : Nat) : Int) from (Int.ofNat_tmod _ _).symm]
    exact IntWalk.i64_in _ (by omega)
  by_cases h : deep % 2 = 0
  · rw [show crd p deep = p.x from if_pos h]
    rw [h] at e1
    have t1 : ((deep : Int) % 2 == 0) = true := by rw [beq_iff_eq]; omega
    have hm : (deep : Int) % 2 = 0 := by omega
    clear h
    go_enter Tryz.func72, Tryz.ntmps72
    go_wp2
    go_ret
    exact ⟨rfl, rfl⟩
  · rw [show crd p deep = p.y from if_neg h]
    rw [show deep % 2 = 1 by omega] at e1
    have hm : (deep : Int) % 2 = 1 := by omega
    clear h
    go_enter Tryz.func72, Tryz.ntmps72
    go_wp2
    go_ret
    exact ⟨rfl, rfl⟩

end Go.Proofs.YteeeikninigeoaaGreatDoor

/- near.search: the walk. -/
namespace Go.Proofs.YteeeikninigeoaaGreatDoor
set_option linter.unusedVariables false
open Go.RowKit
open Hp (nlt nlt_iff Best KT KD HeapF)

/-- A tree of places in memory. -/
def KMem (w : World) : KT → Value → Prop
  | .nil, v => v = .pointer none
  | .node m l r, v => ∃ b pl pr, v = .pointer (some ⟨b, 0, none⟩) ∧ Box w b #[.int .i64 (m : Int), pl, pr] 131 ∧ KMem w l pl ∧ KMem w r pr
theorem KMem.map {w w' : World} (h : ∀ b cs, Box w b cs 131 → Box w' b cs 131) : ∀ (T : KT) (v : Value), KMem w T v → KMem w' T v
  | .nil, v, hm => hm
  | .node m l r, v, hm => by
    obtain ⟨b, pl, pr, h1, h2, h3, h4⟩ := hm
    exact ⟨b, pl, pr, h1, h _ _ h2, KMem.map h l pl h3, KMem.map h r pr h4⟩
theorem KMem.below {w w' : World} {T : KT} {v : Value} (h : KMem w T v) (hb : Below w.heap.size w w') : KMem w' T v := KMem.map (fun b cs hx => hx.below hb) T v h
/-- The box of what is kept, the row's lowest block, and what else must stay. -/
structure NrE (b0 B : Nat) (pa : Option Addr) (n pcap : Nat) (L : List Pt) (W : World) : Prop where
  pts : SlF ptL 3 W pa n pcap L
  plt : ∀ k, blk pa = some k → k < B ∧ k ≠ b0
  box : ∃ s, Box W b0 #[s] 92
theorem slc_keepF {b0 B n c size : Nat} {a : Option Addr} {cs : List Value} {w W : World} (h : SlC w a n c size cs) (hk : KeepF b0 B w W) (hl : ∀ k, blk a = some k → k < B ∧ k ≠ b0) : SlC W a n c size cs :=
  ⟨h.hlen, h.le, h.capm, h.nil, fun i hi => by
    obtain ⟨b, off, ha, hc⟩ := h.cell i hi
    refine ⟨b, off, ha, ?_⟩
    have hb := World.block_lt_of_cell? w _ hc
    obtain ⟨h1, h2⟩ := hl b (by simp [ha, blk])
    have := hk.block b hb h2 (.inl h1)
    rw [← hc]
    exact World.cell?_of_block this⟩
theorem kmem_keepF {b0 B : Nat} {w W : World} {T : KT} {v s : Value} (h : KMem w T v) (hx : Box w b0 #[s] 92) (hk : KeepF b0 B w W) : KMem W T v :=
  KMem.map (fun b cs hb => hk.box hb (box_box hb hx (by decide)) (by decide)) T v h

/-- What a search of a tree does. -/
def SearchOk (b0 B : Nat) (pa : Option Addr) (n pcap many : Nat) (L : List Pt) (q : Pt) (T : KT) : Prop :=
  ∀ (v : Value) (deep : Nat) (S X : List Nat) (W : World), KMem W T v → SlF ptL 3 W pa n pcap L → KD (fun d i => crd (L.getD i pt0) d) deep T → (T.pl ++ S).Nodup → (∀ i ∈ T.pl, i < n) → deep + T.pl.length ≤ 400 →
    KI b0 B (fun i => fdist (L.getD i pt0) q) X W → Best (fun i => fdist (L.getD i pt0) q) many S X → HeapF (hlt fun i => fdist (L.getD i pt0) q) X X.length 0 →
    Calls Tryz.prog 40 #[v, .slice pa n pcap, .agg #[.int .i64 q.x, .int .i64 q.y, .int .i64 q.w], .int .i64 (deep : Int), .int .i64 (many : Int), .pointer (some ⟨b0, 0, none⟩)] W fun e w' =>
      e = .returned (.tuple #[]) ∧ ∃ X', Kp (Best (fun i => fdist (L.getD i pt0) q) many (T.pl ++ S) X' ∧ HeapF (hlt fun i => fdist (L.getD i pt0) q) X' X'.length 0) ∧ Kp (KI b0 B (fun i => fdist (L.getD i pt0) q) X' w') ∧ Kp (KeepF b0 B W w')

set_option maxRecDepth 100000 in
set_option maxHeartbeats 1000000 in
theorem search_nil (b0 B : Nat) (pa : Option Addr) (n pcap many : Nat) (L : List Pt) (q : Pt) : SearchOk b0 B pa n pcap many L q .nil := by
  intro v deep S X W hm hL hkd hnd hlt hdp hI hB hH
  have e : v = .pointer none := hm
  subst e
  have hal := below_alloc (Nat.le_refl W.heap.size) (.cells #[.int .i64 q.x, .int .i64 q.y, .int .i64 q.w] 63)
  have HI := Kp.mk (ki_box hI hal)
  have HK := Kp.mk (KeepF.below (b0 := b0) (B := B) hal)
  have HB := Kp.mk (And.intro hB hH)
  clear hm hL hkd hnd hlt hdp hI hB hH hal
  go_enter Tryz.func40, Tryz.ntmps40
  go_wp2
  refine bodyPost_ret (results_none rfl _ _ _) rfl ?_
  exact ⟨rfl, X, HB, HI, HK⟩

theorem root_max {far : Nat → Int} {X1 Y : List Nat} {k : Nat} (hp : X1.Perm Y) (hk : X1.length = k) (hh : HeapF (hlt far) X1 k 0) : ∀ t ∈ Y, nlt far (X1.getD 0 0) t = false := by
  intro t ht
  obtain ⟨j, hj, e⟩ := List.getElem_of_mem (hp.mem_iff.2 ht)
  have := Hp.heap_root (Hp.nlt_ord far) hh j (by omega)
  rw [getD_at X1 0 hj, e] at this
  exact this
theorem heap_len {far : Nat → Int} {X : List Nat} {k : Nat} (h : HeapF (hlt far) X k 0) (e : X.length = k) : HeapF (hlt far) X X.length 0 := by rw [e]; exact h
theorem ways_perm {T F O S : List Nat} {m : Nat} (h : T.Perm (m :: (F ++ O))) : (T ++ S).Perm (O ++ (F ++ m :: S)) := by
  refine (h.append_right S).trans ?_
  have h1 : (O ++ (F ++ m :: S)).Perm (m :: ((O ++ F) ++ S)) := by
    rw [← List.append_assoc]; exact List.perm_middle
  refine List.Perm.trans ?_ h1.symm
  exact List.Perm.cons _ (List.Perm.append_right S List.perm_append_comm)
/-- A search goes one way, and then maybe the other way. -/
structure Ways (b0 B : Nat) (pa : Option Addr) (n pcap many deep m : Nat) (L : List Pt) (q : Pt) (gap : Int) (l r F O : KT) (pl pr pF pO : Value) : Prop where
  sel : (F = r ∧ O = l ∧ pF = pr ∧ pO = pl) ∨ (F = l ∧ O = r ∧ pF = pl ∧ pO = pr)
  okF : SearchOk b0 B pa n pcap many L q F
  okO : SearchOk b0 B pa n pcap many L q O
  kdF : KD (fun d i => crd (L.getD i pt0) d) (deep + 1) F
  kdO : KD (fun d i => crd (L.getD i pt0) d) (deep + 1) O
  far : ∀ y ∈ O.pl, gap * gap ≤ fdist (L.getD y pt0) q
  perm : (KT.node m l r).pl.Perm (m :: (F.pl ++ O.pl))
  dF : deep + 1 + F.pl.length ≤ 400
  dO : deep + 1 + O.pl.length ≤ 400
theorem sq_mono {a b : Int} (h : (0 ≤ a ∧ a ≤ b) ∨ (b ≤ a ∧ a ≤ 0)) : a * a ≤ b * b := by
  rcases h with ⟨h1, h2⟩ | ⟨h1, h2⟩
  · exact Int.mul_le_mul h2 h2 h1 (by omega)
  · have := Int.mul_le_mul (show -a ≤ -b by omega) (show -a ≤ -b by omega) (show 0 ≤ -a by omega) (by omega)
    rwa [Int.neg_mul_neg, Int.neg_mul_neg] at this

attribute [local irreducible] HeapF
set_option maxRecDepth 100000 in
set_option maxHeartbeats 8000000 in
theorem search_node (b0 B : Nat) (pa : Option Addr) (n pcap many : Nat) (L : List Pt) (q : Pt) (hn : L.length = n) (hn1 : n ≤ 200) (hmany : 0 < many) (hmany2 : many ≤ 200) (hNL : ∀ p ∈ L, NearXY p) (hNq : NearXY q) (hpl : ∀ k, blk pa = some k → k < B ∧ k ≠ b0)
    (m : Nat) (l r : KT) (hl : SearchOk b0 B pa n pcap many L q l) (hr : SearchOk b0 B pa n pcap many L q r) : SearchOk b0 B pa n pcap many L q (.node m l r) := by
  intro v deep S X W hm hL hkd hnd hlt hdp hI hB hH
  obtain ⟨b, pl, pr, rfl, hbx, hml, hmr⟩ := hm
  obtain ⟨k1, k2, k3, k4⟩ := hkd
  have hmn : m < n := hlt m (by simp [KT.pl])
  have HPM := Kp.mk (getD_at L pt0 (show m < L.length by omega))
  have HPN := Kp.mk (hNL _ (List.getElem_mem (show m < L.length by omega)))
  rw [← HPM.out] at HPN
  have HNQ := Kp.mk hNq
  have HPL := Kp.mk hpl
  obtain ⟨far, hfar⟩ : ∃ far : Nat → Int, (fun i => fdist (L.getD i pt0) q) = far := ⟨_, rfl⟩
  have HFAR := Kp.mk hfar
  have HFM := Kp.mk (show fdist (L.getD m pt0) q = far m from by rw [← hfar])
  have HFI := Kp.mk (show ∀ i, far i = fdist (L.getD i pt0) q from fun i => by rw [← hfar])
  rw [hfar] at hI hB hH ⊢
  have HLl := Kp.mk hl
  have HLr := Kp.mk hr
  have hal := below_alloc (Nat.le_refl W.heap.size) (.cells #[.int .i64 q.x, .int .i64 q.y, .int .i64 q.w] 63)
  have HX8 := Kp.mk (Box.new W #[.int .i64 q.x, .int .i64 q.y, .int .i64 q.w] 63)
  have HBX := Kp.mk (hbx.below hal)
  have HML := Kp.mk (hml.below hal)
  have HMR := Kp.mk (hmr.below hal)
  have HPS := Kp.mk (hL.below hal)
  have HKI := Kp.mk (ki_box hI hal)
  have HKF := Kp.mk (KeepF.below (b0 := b0) (B := B) hal)
  have HBS := Kp.mk hB
  have HH := Kp.mk hH
  have HKD := Kp.mk (And.intro k1 (And.intro k2 (And.intro k3 k4)))
  have HND := Kp.mk hnd
  have HLT := Kp.mk hlt
  have h8 : W.heap.size ≠ b0 := by have := hI.lt; have := hI.size; omega
  have hXl : X.length ≤ many := by rw [hB.len]; exact Nat.min_le_left _ _
  have hdp' : deep + 1 + l.pl.length ≤ 400 ∧ deep + 1 + r.pl.length ≤ 400 := by simp [KT.pl] at hdp; omega
  clear hfar hl hr hbx hml hmr hL hI hB hH k1 k2 k3 k4 hnd hlt hal hpl hNL hNq hdp
  obtain ⟨W0, hW0⟩ : ∃ W0, W.alloc (.cells #[.int .i64 q.x, .int .i64 q.y, .int .i64 q.w] 63) = W0 := ⟨_, rfl⟩
  rw [hW0] at HX8 HBX HML HMR HPS HKI HKF
  obtain ⟨b8, hb8⟩ : ∃ b8, W.heap.size = b8 := ⟨_, rfl⟩
  rw [hb8] at HX8 h8
  go_enter Tryz.func40, Tryz.ntmps40
  go_upto_region 2 with (fail)
  clear hW0 hb8
  obtain ⟨pb, po, hpa, hpbw, co⟩ := HPS.out.at ptL_len (by omega) m (by omega)
  rw [← HPM.out] at co
  subst hpa
  obtain ⟨pm, hpm⟩ : ∃ pm, L.getD m pt0 = pm := ⟨_, rfl⟩
  have HPMV := Kp.mk hpm
  rw [hpm] at co HPN HFM
  clear hpm HPM
  have p0 := later_cell (show W0.cell? ⟨pb, po + m * 3, none⟩ = some (.int .i64 pm.x) from co 0 (by omega))
  have p1 := later_cell (show W0.cell? ⟨pb, po + m * 3 + 1, none⟩ = some (.int .i64 pm.y) from co 1 (by omega))
  have p2 := later_cell (show W0.cell? ⟨pb, po + m * 3 + 2, none⟩ = some (.int .i64 pm.w) from co 2 (by omega))
  have x0 := later_cell (show W0.cell? ⟨b8, 0, none⟩ = some (.int .i64 q.x) from HX8.out.cell 0 rfl)
  have x1 := later_cell (show W0.cell? ⟨b8, 1, none⟩ = some (.int .i64 q.y) from HX8.out.cell 1 rfl)
  have x2 := later_cell (show W0.cell? ⟨b8, 2, none⟩ = some (.int .i64 q.w) from HX8.out.cell 2 rfl)
  have n0 := later_cell (show W0.cell? ⟨b, 0, none⟩ = some (.int .i64 (m : Int)) from HBX.out.cell 0 rfl)
  have hmz : (m : Int) < n := by omega
  have CF := Kp.mk (fun (x : Later W0) => show Calls Tryz.prog 74 #[.agg #[.int .i64 pm.x, .int .i64 pm.y, .int .i64 pm.w], .agg #[.int .i64 q.x, .int .i64 q.y, .int .i64 q.w]] x.val (fun e w' => e = .returned (.int .i64 (far m)) ∧ Below x.val.heap.size x.val w') from by
    rw [← HFM.out]; exact far_any _ _ _ HPN.out HNQ.out)
  clear co
  refine region_later_tail 17 (by kernel_rfl) (by kernel_rfl) ?_
  simp only [List.take_succ_cons, List.take_zero, List.drop_succ_cons, List.drop_zero]
  iterate 17 (go_big_quiet_step ((go_at_call 74; exact q_later (CF.out _))))
  refine wpQuiet_nil ?_
  rintro w1 ⟨xl, rfl⟩
  have HX8' := Kp.mk (HX8.out.below xl.le)
  have HBX' := Kp.mk (HBX.out.below xl.le)
  have HML' := Kp.mk (HML.out.below xl.le)
  have HMR' := Kp.mk (HMR.out.below xl.le)
  have HPS' := Kp.mk (HPS.out.below xl.le)
  have HKI' := Kp.mk (ki_box HKI.out xl.le)
  have HKF' := Kp.mk (HKF.out.trans (KeepF.below (b0 := b0) (B := B) xl.le))
  clear HX8 HBX HML HMR HPS HKI HKF CF p0 p1 p2 x0 x1 x2 n0
  generalize xl.val = w1 at *
  have CP := Kp.mk (hpush_any (kfn b0) (hlt far) (fdV far) (fun _ => True) (fun X W => KI b0 B far X W ∧ KeepF b0 B w1 W ∧ X.length ≤ 1000) (Hp.nlt_ord far) (kops b0 B far w1) (kends b0 B far w1) X X.length m w1 ⟨HKI'.out, KeepF.refl _ _ _, by omega⟩ True.intro rfl (by omega) HH.out)
  have HFV := Kp.mk (show fdV far m = .iface 99 (.agg #[.int .i64 (far m), .int .i64 (m : Int)]) from rfl)
  rw [HFV.out] at CP
  go_wp2_with fail
  refine CP.out.mono ?_
  rintro e w2 ⟨rfl, X1, HP1, HI1⟩
  clear CP
  have HND0 := Kp.mk (show (m :: S).Nodup from by
    have h1 : ((m :: (l.pl ++ r.pl)) ++ S).Nodup := HND.out
    rw [List.cons_append, List.nodup_cons] at h1
    exact List.nodup_cons.2 ⟨fun h => h1.1 (List.mem_append_right _ h), (List.nodup_append.1 h1.2).2.1⟩)
  obtain ⟨n1, hn1⟩ : ∃ n1, X1.length = n1 := ⟨_, rfl⟩
  have hn1x : n1 = X.length + 1 := by rw [← hn1, HP1.out.1.length_eq]; simp
  have HN1 := Kp.mk hn1
  have HN1X := Kp.mk (show X1.length = X.length + 1 by omega)
  obtain ⟨sa, cap, hb2, ho2⟩ := HI1.out.1.at_
  have c2 : w2.cell? ⟨b0, 0, none⟩ = some (.slice sa n1 cap) := by rw [← hn1]; exact hb2.cell 0 rfl
  have CL := Kp.mk (klen_any sa n1 cap w2)
  obtain ⟨s0, HB0⟩ : ∃ s0, Kp (Box w1 b0 #[s0] 92) := by obtain ⟨sa0, cap0, hb0, _⟩ := HKI'.out.at_; exact ⟨_, ⟨hb0⟩⟩
  clear hn1 hb2 ho2 HKI'
  by_cases hpop : X.length = many
  focus
    have t1 : many < n1 := by omega
    have HPOP := Kp.mk hpop
    have CPP := Kp.mk (hpop_any (kfn b0) (hlt far) (fdV far) (fun _ => True) (fun X W => KI b0 B far X W ∧ KeepF b0 B w1 W ∧ X.length ≤ 1000) (Hp.nlt_ord far) (kops b0 B far w1) (kends b0 B far w1) X1 X.length w2 HI1.out HN1X.out (by omega) HP1.out.2)
    clear hpop hn1x
    go_wp2_with (first
      | (go_at_call 75; refine CL.out.mono ?_; rintro e w' ⟨rfl, rfl⟩)
      | fail)
    refine CPP.out.mono ?_
    rintro e w3 ⟨rfl, X2, HP2, HI2⟩
    have HX2L := Kp.mk (show X2.length = X.length from by have := HP2.out.1.length_eq; rw [HN1X.out] at this; simp at this; omega)
    have HB3 := Kp.mk (Hp.best_full HND0.out HBS.out HPOP.out (HP2.out.1.trans HP1.out.1) (root_max HP1.out.1 HN1X.out HP1.out.2))
    have HH3 := Kp.mk (heap_len HP2.out.2 HX2L.out)
    have HK3 := Kp.mk HI2.out.1
    have HF3 := Kp.mk HI2.out.2.1
    clear CPP CL c2 HI1 HI2 HP1 HP2 HX2L HN1 HN1X HPOP t1
    obtain ⟨vx, hvx⟩ : ∃ vx, fdV far (X1.getD 0 0) = vx := ⟨_, rfl⟩
    rw [hvx]
    clear hvx
    go_upto_region 5 with (fail)
  rotate_left
  focus
    have t1 : ¬ many < n1 := by omega
    have HB3 := Kp.mk ((Hp.best_few HND0.out HBS.out (by omega)).perm HP1.out.1)
    have HH3 := Kp.mk (heap_len HP1.out.2 HN1X.out)
    have HK3 := Kp.mk HI1.out.1
    have HF3 := Kp.mk HI1.out.2.1
    clear hpop hn1x HI1 HP1 HN1 HN1X
    generalize X1 = X2 at *
    go_wp2_with (first
      | (go_at_call 75; refine CL.out.mono ?_; rintro e w' ⟨rfl, rfl⟩)
      | fail)
    clear CL c2 t1
    generalize w2 = w3 at *
  rotate_left
  all_goals
    have HX83 := Kp.mk (HF3.out.box HX8'.out h8 (by decide))
    have HBX3 := Kp.mk (HF3.out.box HBX'.out (box_box HBX'.out HB0.out (by decide)) (by decide))
    have HML3 := Kp.mk (kmem_keepF HML'.out HB0.out HF3.out)
    have HMR3 := Kp.mk (kmem_keepF HMR'.out HB0.out HF3.out)
    have HPS3 := Kp.mk (show SlF ptL 3 w3 (some ⟨pb, po, none⟩) n pcap L from slc_keepF HPS'.out HF3.out HPL.out)
    have HKF3 := Kp.mk (HKF'.out.trans HF3.out)
    clear HX8' HBX' HML' HMR' HPS' HKF' HF3 HB0 HBS HH HFV HND0
    obtain ⟨_, _, hpa2, hpbw3, co⟩ := HPS3.out.at ptL_len (by omega) m (by omega)
    simp only [Option.some.injEq, Addr.mk.injEq, and_true] at hpa2
    obtain ⟨rfl, rfl⟩ := hpa2
    rw [← getD_at L pt0 (show m < L.length by omega), HPMV.out] at co
    have p0 := later_cell (show w3.cell? ⟨pb, po + m * 3, none⟩ = some (.int .i64 pm.x) from co 0 (by omega))
    have p1 := later_cell (show w3.cell? ⟨pb, po + m * 3 + 1, none⟩ = some (.int .i64 pm.y) from co 1 (by omega))
    have p2 := later_cell (show w3.cell? ⟨pb, po + m * 3 + 2, none⟩ = some (.int .i64 pm.w) from co 2 (by omega))
    have x0 := later_cell (show w3.cell? ⟨b8, 0, none⟩ = some (.int .i64 q.x) from HX83.out.cell 0 rfl)
    have x1 := later_cell (show w3.cell? ⟨b8, 1, none⟩ = some (.int .i64 q.y) from HX83.out.cell 1 rfl)
    have x2 := later_cell (show w3.cell? ⟨b8, 2, none⟩ = some (.int .i64 q.w) from HX83.out.cell 2 rfl)
    have n0 := later_cell (show w3.cell? ⟨b, 0, none⟩ = some (.int .i64 (m : Int)) from HBX3.out.cell 0 rfl)
    have CC := Kp.mk (fun (p : Pt) (x : Later w3) => (coord_any p deep x.val (by omega)).mono (R' := fun e w' => e = .returned (.int .i64 (crd p deep)) ∧ Below x.val.heap.size x.val w') (fun e w' ⟨h1, h2⟩ => ⟨h1, by rw [h2]; exact below_alloc (Nat.le_refl _) _⟩))
    have hcq := crd_bd HNQ.out deep
    have hcm := crd_bd HPN.out deep
    have HCQ := Kp.mk (CC.out q)
    have HCM := Kp.mk (CC.out pm)
    obtain ⟨cq, hcqe⟩ : ∃ z, crd q deep = z := ⟨_, rfl⟩
    obtain ⟨cm, hcme⟩ : ∃ z, crd pm deep = z := ⟨_, rfl⟩
    have HCQE := Kp.mk hcqe
    have HCME := Kp.mk hcme
    rw [hcqe] at HCQ hcq
    rw [hcme] at HCM hcm
    obtain ⟨gap, hgap⟩ : ∃ z, cq - cm = z := ⟨_, rfl⟩
    have HGAP := Kp.mk hgap
    have e1 : IntKind.i64.wrap (cq - cm) = gap := by rw [hgap]; exact IntWalk.i64_in _ (by omega)
    have hgb : -2097152 ≤ gap ∧ gap ≤ 2097152 := by omega
    clear co CC hcqe hcme hgap hpbw3 hcq hcm
    refine region_later (by kernel_rfl) (by kernel_rfl) ?_
    iterate 14 (go_big_quiet_step (first | (go_at_call 72; with_reducible exact q_later (HCQ.out _)) | (go_at_call 72; with_reducible exact q_later (HCM.out _))))
    refine wpQuiet_nil ?_
    rintro w4 ⟨xl2, rfl⟩
    have HX84 := Kp.mk (HX83.out.below xl2.le)
    have HBX4 := Kp.mk (HBX3.out.below xl2.le)
    have HML4 := Kp.mk (HML3.out.below xl2.le)
    have HMR4 := Kp.mk (HMR3.out.below xl2.le)
    have HPS4 := Kp.mk (HPS3.out.below xl2.le)
    have HK4 := Kp.mk (ki_box HK3.out xl2.le)
    have HKF4 := Kp.mk (HKF3.out.trans (KeepF.below (b0 := b0) (B := B) xl2.le))
    clear HX83 HBX3 HML3 HMR3 HPS3 HK3 HKF3 HCQ HCM p0 p1 p2 x0 x1 x2 n0
    generalize xl2.val = w4 at *
    obtain ⟨F, O, pF, pO, hsel, HMF, HMO, HWY⟩ : ∃ F O pF pO, ((0 < gap ∧ Kp (Box w4 b #[.int .i64 (m : Int), pO, pF] 131)) ∨ (¬ 0 < gap ∧ Kp (Box w4 b #[.int .i64 (m : Int), pF, pO] 131))) ∧ Kp (KMem w4 F pF) ∧ Kp (KMem w4 O pO) ∧ Kp (Ways b0 B (some ⟨pb, po, none⟩) n pcap many deep m L q gap l r F O pl pr pF pO) := by
      obtain ⟨k1, k2, k3, k4⟩ := HKD.out
      rw [HPMV.out, HCME.out] at k1 k2
      have hG := HGAP.out
      have hQ := HCQE.out
      have hsq : ∀ y, fdist (L.getD y pt0) q ≥ (crd (L.getD y pt0) deep - cq) * (crd (L.getD y pt0) deep - cq) := fun y => by
        have := crd_far (L.getD y pt0) q deep
        rw [hQ] at this; exact this
      by_cases hg : 0 < gap
      · refine ⟨r, l, pr, pl, .inl ⟨hg, HBX4⟩, HMR4, HML4, ⟨⟨.inl ⟨rfl, rfl, rfl, rfl⟩, HLr.out, HLl.out, k4, k3, fun y hy => ?_, ?_, hdp'.2, hdp'.1⟩⟩⟩
        · have h1 := k1 y hy
          refine Int.le_trans ?_ (hsq y)
          have h2 : (crd (L.getD y pt0) deep - cq) * (crd (L.getD y pt0) deep - cq) = (cq - crd (L.getD y pt0) deep) * (cq - crd (L.getD y pt0) deep) := by
            rw [← Int.neg_mul_neg, Int.neg_sub]
          rw [h2]
          exact sq_mono (.inl ⟨by omega, by omega⟩)
        · exact List.Perm.cons _ List.perm_append_comm
      · refine ⟨l, r, pl, pr, .inr ⟨hg, HBX4⟩, HML4, HMR4, ⟨⟨.inr ⟨rfl, rfl, rfl, rfl⟩, HLl.out, HLr.out, k3, k4, fun y hy => ?_, List.Perm.refl _, hdp'.1, hdp'.2⟩⟩⟩
        have h1 := k2 y hy
        refine Int.le_trans ?_ (hsq y)
        have h2 : gap * gap = (-gap) * (-gap) := by rw [Int.neg_mul_neg]
        rw [h2]
        exact sq_mono (.inl ⟨by omega, by omega⟩)
    have HNDF := Kp.mk (show (O.pl ++ (F.pl ++ m :: S)).Nodup from (ways_perm HWY.out.perm).nodup_iff.1 HND.out)
    have HLF := Kp.mk (show (∀ i ∈ F.pl, i < n) ∧ ∀ i ∈ O.pl, i < n from ⟨fun i hi => HLT.out i (HWY.out.perm.mem_iff.2 (by simp [hi])), fun i hi => HLT.out i (HWY.out.perm.mem_iff.2 (by simp [hi]))⟩)
    have hdp5 : IntKind.i64.wrap ((deep : Int) + 1) = (deep : Int) + 1 := IntWalk.i64_in _ (by omega)
    have HDC := Kp.mk (show ((deep + 1 : Nat) : Int) = (deep : Int) + 1 by omega)
    have x0 := later_cell (show w4.cell? ⟨b8, 0, none⟩ = some (.int .i64 q.x) from HX84.out.cell 0 rfl)
    have x1 := later_cell (show w4.cell? ⟨b8, 1, none⟩ = some (.int .i64 q.y) from HX84.out.cell 1 rfl)
    have x2 := later_cell (show w4.cell? ⟨b8, 2, none⟩ = some (.int .i64 q.w) from HX84.out.cell 2 rfl)
    obtain ⟨s4, HB4⟩ : ∃ s4, Kp (Box w4 b0 #[s4] 92) := by obtain ⟨sa0, cap0, hb0, _⟩ := HK4.out.at_; exact ⟨_, ⟨hb0⟩⟩
    have CF := Kp.mk (fun (x : Later w4) => show Calls Tryz.prog 40 #[pF, .slice (some ⟨pb, po, none⟩) n pcap, .agg #[.int .i64 q.x, .int .i64 q.y, .int .i64 q.w], .int .i64 ((deep : Int) + 1), .int .i64 (many : Int), .pointer (some ⟨b0, 0, none⟩)] x.val (fun e w' => e = .returned (.tuple #[]) ∧ ∃ X', Kp (Best far many (F.pl ++ (m :: S)) X' ∧ HeapF (hlt far) X' X'.length 0) ∧ Kp (KI b0 B far X' w') ∧ Kp (KeepF b0 B w4 w')) from by
      have h := HWY.out.okF pF (deep + 1) (m :: S) X2 x.val (HMF.out.below x.le) (HPS4.out.below x.le) HWY.out.kdF ((List.nodup_append.1 HNDF.out).2.1) HLF.out.1 HWY.out.dF (by rw [HFAR.out]; exact ki_box HK4.out x.le) (by rw [HFAR.out]; exact HB3.out) (by rw [HFAR.out]; exact HH3.out)
      rw [HFAR.out, HDC.out] at h
      refine h.mono ?_
      rintro e w' ⟨h1, X', h2, h3, h4⟩
      exact ⟨h1, X', h2, h3, ⟨(KeepF.below (b0 := b0) (B := B) x.le).trans h4.out⟩⟩)
    clear HK4 HB3 HH3 HBX4 HML4 HMR4 HKD HLl HLr HCQE HCME HGAP HND HLT
    rcases hsel with ⟨hg, HBW⟩ | ⟨hg, HBW⟩
    focus
      have tg : decide (gap > 0) = true := decide_eq_true hg
      have n1 := later_cell (show w4.cell? ⟨b, 2, none⟩ = some pF from HBW.out.cell 2 rfl)
      go_wp2
      refine region_later_tail 12 (by kernel_rfl) (by kernel_rfl) ?_
      simp only [List.take_succ_cons, List.take_zero, List.drop_succ_cons, List.drop_zero]
      iterate 12 (go_big_quiet_step (fail))
      refine wpQuiet_nil ?_
      rintro w5 ⟨xl3, rfl⟩
      have CF5 := Kp.mk (CF.out xl3)
      clear CF n1 tg x0 x1 x2
      go_wp2_with fail
      refine CF5.out.mono ?_
      rintro e w6 ⟨rfl, X3, HB5, HK6, HF6⟩
      have HOC := Kp.mk (show w6.cell? ⟨b, 1, none⟩ = some pO from (HF6.out.box HBW.out (box_box HBW.out HB4.out (by decide)) (by decide)).cell 1 rfl)
      clear CF5 HBW hg
    rotate_left
    focus
      have tg : decide (gap > 0) = false := decide_eq_false hg
      have n1 := later_cell (show w4.cell? ⟨b, 1, none⟩ = some pF from HBW.out.cell 1 rfl)
      go_wp2
      refine region_later_tail 12 (by kernel_rfl) (by kernel_rfl) ?_
      simp only [List.take_succ_cons, List.take_zero, List.drop_succ_cons, List.drop_zero]
      iterate 12 (go_big_quiet_step (fail))
      refine wpQuiet_nil ?_
      rintro w5 ⟨xl3, rfl⟩
      have CF5 := Kp.mk (CF.out xl3)
      clear CF n1 tg x0 x1 x2
      go_wp2_with fail
      refine CF5.out.mono ?_
      rintro e w6 ⟨rfl, X3, HB5, HK6, HF6⟩
      have HOC := Kp.mk (show w6.cell? ⟨b, 2, none⟩ = some pO from (HF6.out.box HBW.out (box_box HBW.out HB4.out (by decide)) (by decide)).cell 2 rfl)
      clear CF5 HBW hg
    rotate_left
    all_goals
      have HX86 := Kp.mk (HF6.out.box HX84.out h8 (by decide))
      have HMO6 := Kp.mk (kmem_keepF HMO.out HB4.out HF6.out)
      have HPS6 := Kp.mk (show SlF ptL 3 w6 (some ⟨pb, po, none⟩) n pcap L from slc_keepF HPS4.out HF6.out HPL.out)
      have HKF6 := Kp.mk (HKF4.out.trans HF6.out)
      clear HX84 HMO HMF HPS4 HKF4 HF6 HB4
      obtain ⟨sa3, cap3, hb6, ho6⟩ := HK6.out.at_
      have hlen := HB5.out.1.len
      obtain ⟨n3, hn3⟩ : ∃ n3, X3.length = n3 := ⟨_, rfl⟩
      have h30 : 0 < n3 := by rw [← hn3, hlen]; simp; omega
      have h3m : n3 ≤ many := by rw [← hn3, hlen]; exact Nat.min_le_left _ _
      have HN3 := Kp.mk hn3
      rw [hn3] at hb6 ho6
      obtain ⟨g3, rfl, _, _⟩ := own_some ho6 h30
      have c6 : w6.cell? ⟨b0, 0, none⟩ = some (.slice (some ⟨g3, 0, none⟩) n3 cap3) := hb6.cell 0 rfl
      have d6 := (fd_at ho6 hn3 0 h30).1
      have HRM := Kp.mk (root_max (List.Perm.refl X3) rfl HB5.out.2)
      obtain ⟨fr, hfr⟩ : ∃ fr, far (X3.getD 0 0) = fr := ⟨_, rfl⟩
      have HFR := Kp.mk hfr
      rw [hfr, Nat.zero_mul] at d6
      have hg2b := sq_le gap hgb.1 hgb.2
      obtain ⟨g2, hg2⟩ : ∃ g2, gap * gap = g2 := ⟨_, rfl⟩
      have HG2 := Kp.mk hg2
      rw [hg2] at hg2b
      have e2 : IntKind.i64.wrap (gap * gap) = g2 := by rw [hg2]; exact IntWalk.i64_in _ (by omega)
      have CL := Kp.mk (klen_any (some ⟨g3, 0, none⟩) n3 cap3 w6)
      have hcz : n3 ≤ cap3 := (own_slc ho6).le
      clear hlen hn3 hb6 ho6 hfr hg2 hg2b
      rcases (show (n3 < many ∧ Kp True) ∨ (¬ n3 < many ∧ g2 ≤ fr ∧ Kp (n3 = many)) ∨ (¬ n3 < many ∧ ¬ g2 ≤ fr ∧ Kp (n3 = many)) from by
        by_cases h3 : n3 < many
        · exact .inl ⟨h3, ⟨trivial⟩⟩
        · by_cases h4 : g2 ≤ fr
          · exact .inr (.inl ⟨h3, h4, ⟨by omega⟩⟩)
          · exact .inr (.inr ⟨h3, h4, ⟨by omega⟩⟩)) with ⟨h3, HEM⟩ | ⟨h3, h4, HEM⟩ | ⟨h3, h4, HEM⟩
      rotate_left
      rotate_left
      · have t3 : decide ((n3 : Int) < many) = false := decide_eq_false (by omega)
        have t4 : decide (g2 ≤ fr) = false := decide_eq_false h4
        have HFIN := Kp.mk (show Best far many ((KT.node m l r).pl ++ S) X3 from by
          refine (Hp.best_skip HB5.out.1 (by rw [HN3.out]; exact HEM.out) (Y := O.pl) (fun y hy t ht => ?_)).perm2 (ways_perm HWY.out.perm)
          have h5 := HWY.out.far y hy
          rw [HG2.out, ← HFI.out] at h5
          have h6 := HRM.out t ht
          rw [Hp.nlt_not, HFR.out] at h6
          rw [nlt_iff]
          omega)
        have HHF := Kp.mk HB5.out.2
        clear HB5 HWY HMO6 HPS6 HX86 HOC HRM
        go_wp2_with (first
          | (go_at_call 75; refine CL.out.mono ?_; rintro e w' ⟨rfl, rfl⟩)
          | fail)
        go_end0
        exact ⟨rfl, X3, ⟨HFIN.out, HHF.out⟩, HK6, HKF6⟩
      all_goals
        obtain ⟨s6, HB6⟩ : ∃ s6, Kp (Box w6 b0 #[s6] 92) := by obtain ⟨sa0, cap0, hb0, _⟩ := HK6.out.at_; exact ⟨_, ⟨hb0⟩⟩
        have x0 := later_cell (show w6.cell? ⟨b8, 0, none⟩ = some (.int .i64 q.x) from HX86.out.cell 0 rfl)
        have x1 := later_cell (show w6.cell? ⟨b8, 1, none⟩ = some (.int .i64 q.y) from HX86.out.cell 1 rfl)
        have x2 := later_cell (show w6.cell? ⟨b8, 2, none⟩ = some (.int .i64 q.w) from HX86.out.cell 2 rfl)
        have n2 := later_cell HOC.out
        have CO := Kp.mk (fun (x : Later w6) => show Calls Tryz.prog 40 #[pO, .slice (some ⟨pb, po, none⟩) n pcap, .agg #[.int .i64 q.x, .int .i64 q.y, .int .i64 q.w], .int .i64 ((deep : Int) + 1), .int .i64 (many : Int), .pointer (some ⟨b0, 0, none⟩)] x.val (fun e w' => e = .returned (.tuple #[]) ∧ ∃ X', Kp (Best far many (O.pl ++ (F.pl ++ (m :: S))) X' ∧ HeapF (hlt far) X' X'.length 0) ∧ Kp (KI b0 B far X' w') ∧ Kp (KeepF b0 B w6 w')) from by
          have h := HWY.out.okO pO (deep + 1) (F.pl ++ (m :: S)) X3 x.val (HMO6.out.below x.le) (HPS6.out.below x.le) HWY.out.kdO HNDF.out HLF.out.2 HWY.out.dO (by rw [HFAR.out]; exact ki_box HK6.out x.le) (by rw [HFAR.out]; exact HB5.out.1) (by rw [HFAR.out]; exact HB5.out.2)
          rw [HFAR.out, HDC.out] at h
          refine h.mono ?_
          rintro e w' ⟨h1, X', h2, h3, h4⟩
          exact ⟨h1, X', h2, h3, ⟨(KeepF.below (b0 := b0) (B := B) x.le).trans h4.out⟩⟩)
        have HWP := Kp.mk HWY.out.perm
        clear HWY HMO6 HPS6 HX86 HOC HRM HB5 HK6 HB6 HEM
        go_wp2_with (first
          | (go_at_call 75; refine CL.out.mono ?_; rintro e w' ⟨rfl, rfl⟩)
          | fail)
        refine region_later_tail 13 (by kernel_rfl) (by kernel_rfl) ?_
        simp only [List.take_succ_cons, List.take_zero, List.drop_succ_cons, List.drop_zero]
        iterate 13 (go_big_quiet_step (fail))
        refine wpQuiet_nil ?_
        rintro w7 ⟨xl7, rfl⟩
        have CO7 := Kp.mk (CO.out xl7)
        clear CO CL n2 x0 x1 x2 c6 d6
        go_wp2_with fail
        refine CO7.out.mono ?_
        rintro e w8 ⟨rfl, X4, HB8, HK8, HF8⟩
        have HFIN := Kp.mk (show Best far many ((KT.node m l r).pl ++ S) X4 from HB8.out.1.perm2 (ways_perm HWP.out))
        have HHF := Kp.mk HB8.out.2
        have HKW := Kp.mk (HKF6.out.trans HF8.out)
        clear CO7 HB8 HF8
        go_wp2
        go_end0
        exact ⟨rfl, X4, ⟨HFIN.out, HHF.out⟩, HK8, HKW⟩

theorem nsearch_any (b0 B : Nat) (pa : Option Addr) (n pcap many : Nat) (L : List Pt) (q : Pt) (hn : L.length = n) (hn1 : n ≤ 200) (hmany : 0 < many) (hmany2 : many ≤ 200) (hNL : ∀ p ∈ L, NearXY p) (hNq : NearXY q) (hpl : ∀ k, blk pa = some k → k < B ∧ k ≠ b0) : ∀ T : KT, SearchOk b0 B pa n pcap many L q T
  | .nil => search_nil b0 B pa n pcap many L q
  | .node m l r => search_node b0 B pa n pcap many L q hn hn1 hmany hmany2 hNL hNq hpl m l r (nsearch_any b0 B pa n pcap many L q hn hn1 hmany hmany2 hNL hNq hpl l) (nsearch_any b0 B pa n pcap many L q hn hn1 hmany hmany2 hNL hNq hpl r)

end Go.Proofs.YteeeikninigeoaaGreatDoor

