import Derived.Test.YtedchegejalolaaGreatDoorMb0
import Derived.Test.YtedchegejalolaaGreatDoorMb4
import Derived.Test.YtedchegejalolaaGreatDoorMb1
import Derived.Test.YtedchegejalolaaGreatDoorMb3
import Derived.RangeFuncNested
import Derived.RangeFuncBound
import Derived.RangeFuncLeaves
import Derived.RangeFuncBox
import Derived.OwnWalkIn
import Derived.TacticsInMore
import Derived.LoopNIn
import Derived.LoopIn
import Derived.OrdersIn
/- A range over a function whose rounds come in a known order: the rule for the loop, out of the iterator's contract and one walk of the body. -/
namespace Go.Proofs.YtedchegejalolaaGreatDoor
set_option linter.unusedVariables false
open Go.RowKit

/-- What an iterator does: rounds 0 to n - 1, round k with the values encs k; Kp is what a round keeps for it. -/
def Gives (P : Program) (g : Nat) (lb : Array Value) (encs : Nat → Array Value) (Kp : World → World → Prop) (n : Nat) (w : World) : Prop :=
  ∀ (l : Nat) (J : Nat → World → Prop) (W : World), Below w.heap.size w W → AbidesFrom W.heap.size J →
    (∀ k W1, k < n → J k W1 → YieldAt Fence.wide 1 P l (encs k) W1 fun e W' => e = .returned (.bool true) ∧ J (k + 1) W' ∧ Kp W1 W') →
    J 0 W → CallsIn Fence.wide 2 P g (#[.func (.yield l) #[] #[]] ++ lb) W fun e W' => (∃ v, e = .returned v) ∧ J n W'

/-- How the body of a round is left. -/
def roundEnd (B : Nat) (Kp : World → World → Prop) (I : Nat → World → Prop) (k : Nat) (W : World) : Exit → Act → World → Prop
  | .normal, _, W' => KeepsFrom B W W' ∧ Kp W W' ∧ I (k + 1) W'
  | _, _, _ => False

theorem range_law {P : Program} {g : Operand} {ps : Array Tmp} {assign body : Code} {Q : Exit → Act → World → Prop} {a : Act} {w : World}
    {gf : Nat} {lb : Array Value} (hg : a.eval g = .func (.func gf) #[] lb) (eg : ∀ args w, (callFunc gf args).run P w = .ok (.enter gf args) w)
    {encs : Nat → Array Value} {Kp : World → World → Prop} {N : Nat} {w0 : World} (hseq : Gives P gf lb encs Kp N w0)
    (hKt : ∀ {A B C : World}, Kp A B → Kp B C → Kp A C) (hKb : ∀ (W : World) (l : Nat) (o o' : Obj), w.heap.size ≤ l → W.heap[l]? = some o → o.isCells = false → Kp W (W.putObj l o'))
    (hb0 : Below w0.heap.size w0 w) (hps : ∀ k, (encs k).size = ps.size)
    (I : Nat → World → Prop) (hI : OwnFrom w.heap.size I) (h0 : I 0 w) (Ax : Nat → Act → World → Prop) (hAx : ∀ k a', OwnFrom w.heap.size (fun (_ : Unit) W => Ax k a' W))
    (hassign : ∀ (l k : Nat) (W : World) (K : Act → World → Prop), k < N → w.heap.size ≤ W.heap.size → I k W → (∀ a' W', KeepsFrom w.heap.size W W' → Kp W W' → I k W' → Ax k a' W' → K a' W') →
      assign.wpIn (Fence.wide.inRound l) 1 P (Exit.then K (fun _ _ _ => False)) { tmps := (ps.zip (encs k)).foldl (fun t (p, v) => t.setIfInBounds p v) a.tmps, defers := [] } W)
    (hbody : ∀ (l k : Nat) (a' : Act) (W : World), k < N → w.heap.size ≤ W.heap.size → I k W → Ax k a' W → body.wpIn (Fence.wide.inRound l) 1 P (roundEnd w.heap.size Kp I k W) a' W)
    (hdone : ∀ (D : Nat) (W : World), w.heap.size ≤ D → I N W → W.heap[D]? = some (.deferred (some [])) → Q .normal { a with defers := { target := .collected D, args := #[] } :: a.defers } W) :
    (Code.rangeFunc g ps assign body).wpIn Fence.wide 3 P Q a w := by
  refine wpIn_rangeFunc fun fn hfn => ?_
  rw [show Fence.wide.round = none from rfl]
  let rc : LoopState → Loop := fun st => { state := st, pending := none, fn, tmps := a.tmps, params := ps, assign, body, defers := w.heap.size }
  have hz : (w.alloc (.deferred (some []))).heap.size = w.heap.size + 1 := alloc_size _ _
  -- the loop's record and the block for what is deferred
  let Bk : LoopState → World → Prop := fun st W => W.heap[w.heap.size + 1]? = some (.loop (rc st)) ∧ W.heap[w.heap.size]? = some (.deferred (some []))
  have hB1 : Bk .ready ((w.alloc (.deferred (some []))).alloc (.loop (rc .ready))) := by
    refine ⟨?_, ?_⟩
    · have := World.alloc_heap_new (w.alloc (.deferred (some []))) (.loop (rc .ready)); rwa [hz] at this
    · exact (Below.heap_alloc _ _ _ (by rw [hz]; omega)).trans (World.alloc_heap_new w _)
  have hput : ∀ (st st' : LoopState) (W : World), Bk st W → Bk st' (W.putObj (w.heap.size + 1) (.loop (rc st'))) := fun st st' W h =>
    ⟨World.putObj_heap_same (Array.getElem?_eq_some_iff.1 h.1).1, (World.putObj_heap_other (by omega)).trans h.2⟩
  have hkeep : ∀ (st : LoopState) (W W' : World), Bk st W → KeepsFrom w.heap.size W W' → Bk st W' := fun st W W' h hk => ⟨hk.same _ _ (by omega) h.1 rfl, hk.same _ _ (Nat.le_refl _) h.2 rfl⟩
  have hle : ∀ (st : LoopState) (W : World), Bk st W → w.heap.size ≤ W.heap.size := fun st W h => by have := (Array.getElem?_eq_some_iff.1 h.2).1; omega
  refine ⟨w.heap.size + 1, [{ target := .collected w.heap.size, args := #[] }], (w.alloc (.deferred (some []))).alloc (.loop (rc .ready)), { target := .fn (.func gf) lb, args := #[.func (.yield (w.heap.size + 1)) #[] #[]] }, (w.alloc (.deferred (some []))).alloc (.loop (rc .ready)), gf, #[.func (.yield (w.heap.size + 1)) #[] #[]] ++ lb, (w.alloc (.deferred (some []))).alloc (.loop (rc .ready)),
    run_enterLoop_outer fn a.tmps ps assign body, ?_, fun _ _ => trivial, ?_, fun h => by simp [Fence.wide] at h, ?_⟩
  · simp only [resolve, hg]; simp [go_sem]
  · simp [invoke, go_sem, eg]
  refine (hseq (w.heap.size + 1) (fun k W => I k W ∧ Bk .ready W) _ ?_ ?_ ?_ ⟨hI.alloc _ (hI.alloc _ h0), hB1⟩).mono ?_
  · exact hb0.trans ((((Below.refl _ w).alloc (Nat.le_refl _) _).alloc (by rw [hz]; omega) _).mono hb0.size)
  · intro k X Y row hs hgr hr
    have hr' : ∀ r, row = some r → w.heap.size ≤ r ∧ ∃ o : Obj, X.heap[r]? = some o ∧ o.isCells = false := fun r e => by
      obtain ⟨h1, o, ho, hw⟩ := hr r e
      rw [alloc_size, alloc_size] at h1
      exact ⟨by omega, o, ho, Obj.not_cells_of_walk hw⟩
    exact ⟨hI k X Y row hs.1 hgr hr', (grownBy_keeps hgr (fun r e => (hr r e).2) hs.2.1 rfl).trans hs.2.1, (grownBy_keeps hgr (fun r e => (hr r e).2) hs.2.2 rfl).trans hs.2.2⟩
  · rintro k W hk ⟨hi, hB⟩
    refine ⟨fn, _, assign, body, run_yield hB.1 (hps k), roundIn_of_wpIn hfn (hassign _ k W _ hk (hle _ _ hB) hi ?_)⟩
    intro a' Wa hka hpa hia hax
    have hBa := hkeep _ _ _ hB hka
    refine ⟨_, run_beginRound hBa.1 rfl, ?_⟩
    have hBb := hput .ready .busy Wa hBa
    have hpb : Kp Wa (Wa.putObj (w.heap.size + 1) (.loop (rc .busy))) := hKb _ _ _ _ (by omega) hBa.1 rfl
    refine wpIn_mono (hbody _ k a' _ hk (hle _ _ hBb) (hI.putObj _ hia (by omega) hBa.1 rfl) ((hAx k a').putObj (s := ()) _ hax (by omega) hBa.1 rfl)) ?_
    rintro e a3 W3 hp
    cases e with
    | normal =>
      obtain ⟨hk3, hp3, hi3⟩ := hp
      have hB3 := hkeep _ _ _ hBb hk3
      refine ⟨_, _, run_endRound none hB3.1, rfl, ⟨hI.putObj _ hi3 (by omega) hB3.1 rfl, hput .busy .ready W3 hB3⟩, hKt hpa (hKt (hKt hpb hp3) (hKb _ _ _ _ (by omega) hB3.1 rfl))⟩
    | _ => exact hp.elim
  · rintro e W2 ⟨⟨v, rfl⟩, hi, hB⟩
    exact ⟨none, _, run_endLoop hB.1 (by simp [rc]), hdone _ _ (Nat.le_refl _) (hI.putObj _ hi (by omega) hB.1 rfl) ((World.putObj_heap_other (by omega)).trans hB.2)⟩

end Go.Proofs.YtedchegejalolaaGreatDoor

/- A region in the body of a loop over a function is walked as anywhere else. -/
namespace Go.Proofs.YtedchegejalolaaGreatDoor
set_option linter.unusedVariables false
open Go.RowKit

/-- Only the way on counts. -/
def Ahead (Q : Exit → Act → World → Prop) : Exit → Act → World → Prop
  | .normal, a, w => Q .normal a w
  | _, _, _ => False
theorem Ahead.intro {Q : Exit → Act → World → Prop} {a : Act} {w : World} (h : Q .normal a w) : Ahead Q .normal a w := h
theorem not_lets (Q : Exit → Act → World → Prop) : ¬ LetsOut (Ahead Q) := fun ⟨_, _, h⟩ => h
section
variable {P : Program} {l m : Nat} {Q : Exit → Act → World → Prop}
theorem lift_op {o : Oper} {a : Act} {w : World} {K : Act → World → Prop} (hd : ∀ c, o.op ≠ .defer c) (h : o.wp P a w K (Ahead Q)) : o.wpIn (Fence.wide.inRound l) m P a w K Q := by
  refine ⟨fun _ _ => trivial, ?_⟩
  rw [Oper.semAt_eq _ _ _ hd]
  unfold Oper.wp at h
  generalize (execOp a.eval o).run P w = r at h ⊢
  cases r with
  | ok n w' =>
    cases n with
    | value v => exact h
    | skip => exact h
    | defer d => exact h
    | enter f args =>
      refine ⟨fun h => by simp [Fence.wide, Fence.inRound] at h, ?_⟩
      refine CallsIn.inRound l (callsIn_wide.2 (Calls.mono h fun e w'' he => ?_))
      cases e with
      | returned v => exact he
      | panicked c => exact he.elim
      | outgrown => exact (not_lets _ he).elim
    | row row args =>
      refine ⟨fun h => by simp [Fence.wide, Fence.inRound] at h, fun c cs _ => ?_⟩
      obtain ⟨v, w'', hr, hs⟩ := h c cs
      exact ⟨v, w'', hr, stepsIn_wide.2 hs⟩
    | _ => exact h.elim
  | halt x w' => cases x <;> exact h.elim

end

end Go.Proofs.YtedchegejalolaaGreatDoor

/- slices.Values, Collect, Sorted at ints. -/
namespace Go.Proofs.YtedchegejalolaaGreatDoor
set_option linter.unusedVariables false
open Go.RowKit
attribute [local go_sem] Oper.semAt_some

def nth (l : List Int) (k : Nat) : Int := l.getD k 0
theorem nth_eq (l : List Int) (k : Nat) (h : k < l.length) : nth l k = l[k] := getD_at _ _ h
attribute [irreducible] nth
/-- What is below n0 is kept, and one box. -/
structure KpV (n0 bs : Nat) (W W' : World) : Prop where
  bel : Below n0 W W'
  box : ∀ v, W.cell? ⟨bs, 0, none⟩ = some v → W'.cell? ⟨bs, 0, none⟩ = some v
theorem KpV.refl (n0 bs : Nat) (W : World) : KpV n0 bs W W := ⟨Below.refl _ _, fun _ h => h⟩
theorem KpV.trans {n0 bs : Nat} {A B C : World} (h : KpV n0 bs A B) (k : KpV n0 bs B C) : KpV n0 bs A C := ⟨h.bel.trans k.bel, fun v e => k.box v (h.box v e)⟩
theorem KpV.put {n0 bs : Nat} {w : World} (hn : n0 ≤ w.heap.size) (W : World) (l : Nat) (o o' : Obj) (hl : w.heap.size ≤ l) (h : W.heap[l]? = some o) (ho : o.isCells = false) : KpV n0 bs W (W.putObj l o') :=
  ⟨(Below.refl n0 W).grown (grownBy_putObj' W l o') (by have := (Array.getElem?_eq_some_iff.1 h).1; omega) (fun k e => by cases e; omega), fun v e => (grownBy_putObj' W l o').cell e (fun he => by
    simp only [Option.some.injEq] at he
    simp only [World.cell?] at e
    rw [he, h] at e
    cases o <;> first | (cases ho; done) | (simp at e; done))⟩

theorem values_any (a : Option Addr) (n c : Nat) (w : World) :
    Calls Tryz.prog 127 #[.slice a n c] w fun e w' => e = .returned (.func (.func 157) #[] #[.pointer (some ⟨w.heap.size, 0, none⟩)]) ∧ w.alloc (.cells #[.slice a n c] 33) = w' := by
  go_enter Tryz.func127, Tryz.ntmps127
  go_wp2
  go_ret
  exact ⟨rfl, rfl⟩

set_option maxRecDepth 100000 in
set_option maxHeartbeats 1000000 in
theorem values_gives (a : Option Addr) (c n bs : Nat) (l : List Int) (w0 w : World) (hs : SlI w0 a c l) (hl : l.length = n) (hn : n ≤ 1000000) (hb : Below w0.heap.size w0 w) (hc : w.cell? ⟨bs, 0, none⟩ = some (.slice a n c)) :
    Gives Tryz.prog 157 #[.pointer (some ⟨bs, 0, none⟩)] (fun k => #[.int .i64 (nth l k)]) (KpV w0.heap.size bs) n w := by
  intro lp J W hW hJ hY h0
  have hcW : W.cell? ⟨bs, 0, none⟩ = some (.slice a n c) := by
    rw [hW.cell (p := ⟨bs, 0, none⟩) (World.block_lt_of_cell? w _ hc)]; exact hc
  have HS := Kp.mk (fun i (hi : i < l.length) (wr : World) (hk : KpV w0.heap.size bs W wr) => show ∃ b off, a = some ⟨b, off, none⟩ ∧ wr.cell? ⟨b, off + i, none⟩ = some (.int .i64 (nth l i)) from by
    obtain ⟨b, off, ha, hc0⟩ := hs.at i hi
    refine ⟨b, off, ha, ?_⟩
    rw [((hb.trans (hW.mono hb.size)).trans hk.bel).cell (p := ⟨b, off + i, none⟩) (World.block_lt_of_cell? w0 _ hc0), nth_eq _ _ hi]
    exact hc0)
  have HL := Kp.mk hl
  have HY := Kp.mk hY
  clear hs hY hc
  refine callsIn_of_wp Tryz.func157 rfl trivial ?_ rfl
  simp only [Tryz.ntmps157, List.size_toArray, List.length_cons, List.length_nil, Nat.reduceAdd, Nat.reduceSub, Array.replicate_succ, Array.replicate_zero, List.push_toArray, List.append_toArray, List.nil_append, List.cons_append]
  gi_wp2
  gi_loopw [7] (fun i wr => ∃ k : Nat, k ≤ n ∧ i = .int .i64 k ∧ J k wr ∧ Kp (KpV w0.heap.size bs W wr)) (fun i _ => n - (intOf i).toNat)
  case atStart => exact ⟨0, Nat.zero_le _, by simp, h0, ⟨KpV.refl _ _ _⟩⟩
  case round =>
    obtain ⟨k, hk, rfl, hJs, HK⟩ := hrel
    by_cases hlt : k < n
    · obtain ⟨b, off, rfl, ci⟩ := HS.out k (by rw [HL.out]; exact hlt) wr HK.out
      obtain ⟨fn, tmps, assign, body, hy, hR⟩ := HY.out k wr hlt hJs
      generalize nth l k = u at *
      gi_wp2
      refine hR.mono ?_
      rintro e W3 ⟨rfl, hJ3, hk3⟩
      gi_wp2
      go_roundw
      case rel => exact ⟨k + 1, by omega, by go_num, hJ3, ⟨HK.out.trans hk3⟩⟩
      case measure => simp [intOf]; omega
    · obtain rfl : k = n := by omega
      gi_wp2
      go_end0
      exact ⟨⟨_, rfl⟩, hJs⟩

theorem listIn_step {P : Program} {l m : Nat} {Q : Exit → Act → World → Prop} {ops : Array Oper} {o : Oper} {rest : List Oper} {a : Act} {W : World} (hgd : o.guard = none) (hd : ∀ c, o.op ≠ .defer c)
    (h : ∀ K : Act → World → Prop, (∀ a' w', wpListIn (Fence.wide.inRound l) m P ops Q rest a' w' → K a' w') → if Region.wanted o (yielded ops a.tmps) = true then Oper.wp P o a W K (Ahead Q) else True) : wpListIn (Fence.wide.inRound l) m P ops Q (o :: rest) a W := by
  have hw : Region.wanted o (yielded ops a.tmps) = true := by simp [Region.wanted, hgd]
  have h' := h _ (fun _ _ h => h)
  rw [if_pos hw] at h'
  unfold wpListIn
  rw [if_pos hw]
  exact lift_op hd h'
theorem own_rest {W W' : World} {B e size n : Nat} {v : Value} {xs : List Value} {row : Option Nat} (h : W.ownsRow B e size v n xs) (hg : W.grownBy W' row) (hr : ∀ r, row = some r → ∃ o : Obj, W.heap[r]? = some o ∧ o.isCells = false) : W'.ownsRow B e size v n xs := by
  refine ⟨h.1, ?_⟩
  rcases h.2 with h | ⟨g, cap, cur, hv, hB, hgb, h1, h2, h3, h4⟩
  · exact .inl h
  · refine .inr ⟨g, cap, cur, hv, hB, ?_, h1, h2, h3, h4⟩
    rw [hg.block g (Array.getElem?_eq_some_iff.1 hgb).1 (fun e => ?_)]
    · exact hgb
    · obtain ⟨o, ho, hc⟩ := hr g e.symm
      rw [hgb] at ho
      cases ho
      cases hc
theorem keeps_own {W W' : World} {B C e size n c : Nat} {a : Option Addr} {xs : List Value} (h : W.ownsRow B e size (.slice a n c) n xs) (hg : W.grownBy W' (blk a)) : KeepsFrom C W W' :=
  ⟨hg.size, fun j o _ hj ho => by
    refine (hg.block j (Array.getElem?_eq_some_iff.1 hj).1 (fun e => ?_)).trans hj
    rcases h.2 with ⟨hv, _⟩ | ⟨g, cap, cur, hv, _, hgb, _⟩
    · simp only [Value.slice.injEq] at hv
      rw [hv.1] at e
      cases e
    · simp only [Value.slice.injEq] at hv
      rw [hv.1] at e
      simp only [blk, Option.map_some, Option.some.injEq] at e
      rw [e, hgb] at hj
      cases hj
      cases ho⟩
/-- The memory of AppendSeq within its loop. -/
structure SeqMem (n0 bo : Nat) (W0 W : World) (l : List Int) (k : Nat) (oa : Option Addr) (oc : Nat) : Prop where
  low : Below n0 W0 W
  bxo : W.ownsRow n0 33 1 (.slice (some ⟨bo, 0, none⟩) 1 1) 1 [.slice oa k oc]
  row : W.ownsRow n0 3 1 (.slice oa k oc) k (ints (l.take k))

set_option maxRecDepth 100000 in
set_option maxHeartbeats 2000000 in
theorem appendSeq_any (a : Option Addr) (c n bs : Nat) (l : List Int) (w0 w : World) (hs : SlI w0 a c l) (hl : l.length = n) (hn : n ≤ 100000) (hb : Below w0.heap.size w0 w) (hc : w.cell? ⟨bs, 0, none⟩ = some (.slice a n c)) :
    Calls Tryz.prog 177 #[.slice none 0 0, .func (.func 157) #[] #[.pointer (some ⟨bs, 0, none⟩)]] w fun e w' => ∃ ra rc, e = .returned (.slice ra n rc) ∧ Kp (w'.ownsRow w.heap.size 3 1 (.slice ra n rc) n (ints l)) ∧ Kp (Below w.heap.size w w') := by
  refine (callsIn_wide (n := 3)).1 ?_
  refine callsIn_of_wp_marks Tryz.func177 rfl trivial ?_ rfl
  simp only [Tryz.ntmps177, List.size_toArray, List.length_cons, List.length_nil, Nat.reduceAdd, Nat.reduceSub, Array.replicate_succ, Array.replicate_zero, List.push_toArray, List.append_toArray, List.nil_append, List.cons_append]
  refine wpIn_wide.2 ?_
  go_wp2
  have hbsl := World.block_lt_of_cell? w _ hc
  have hlow := below_alloc (Nat.le_refl w.heap.size) (.cells #[.slice none 0 0] 33)
  have hown := World.ownsRow_lit (base := w.heap.size) (size := 1) (e := 33) w #[.slice none 0 0] 1 (Nat.le_refl _) (by decide) rfl
  have hsz : (w.alloc (.cells #[.slice none 0 0] 33)).heap.size = w.heap.size + 1 := alloc_size _ _
  have hcs : (w.alloc (.cells #[.slice none 0 0] 33)).cell? ⟨bs, 0, none⟩ = some (.slice a n c) := (hlow.cell (p := ⟨bs, 0, none⟩) hbsl).trans hc
  have hbl : Below w0.heap.size w0 (w.alloc (.cells #[.slice none 0 0] 33)) := hb.trans (hlow.mono hb.size)
  have hbz := hb.size
  have HL := Kp.mk hl
  obtain ⟨W0, hW0⟩ : ∃ W0, w.alloc (.cells #[.slice none 0 0] 33) = W0 := ⟨_, rfl⟩
  rw [hW0] at hown hsz hlow hcs hbl ⊢
  clear hW0 hc hl
  obtain ⟨bo, hbo⟩ : ∃ bo, bo = w.heap.size := ⟨_, rfl⟩
  rw [← hbo] at hown hlow hsz hbz ⊢
  have HBO := Kp.mk hbo
  have hbsl : bs < bo := by rw [hbo]; exact hbsl
  clear hbo
  refine (wpIn_wide (n := 3)).1 ?_
  refine range_law (gf := 157) (lb := #[.pointer (some ⟨bs, 0, none⟩)]) rfl (enters_of Tryz.func157 (by kernel_rfl) rfl)
    (values_gives a c n bs l w0 W0 hs HL.out (by omega) hbl hcs) (fun h k => h.trans k) (fun W l o o' => KpV.put (by omega) W l o o') (Below.refl _ _) (fun _ => rfl)
    (fun k W => ∃ xa xc, Kp (SeqMem bo bo w W l k xa xc)) ?own ?start
    (fun k a' W => a' = { tmps := #[.slice none 0 0, .func (.func 157) #[] #[.pointer (some ⟨bs, 0, none⟩)], .pointer (some ⟨bo, 0, none⟩), undef, .slice none 0 0, .int .i64 (nth l k), .func (.func 157) #[] #[.pointer (some ⟨bs, 0, none⟩)], .int .i64 (nth l k), undef, undef, undef, undef, undef], defers := [] })
    ?ownA ?assign ?body ?done
  case own =>
    rintro k X Y row ⟨xa, xc, HM⟩ hgr hr
    have hr' : ∀ q, row = some q → ∃ o : Obj, X.heap[q]? = some o ∧ o.isCells = false := fun q e => (hr q e).2
    refine ⟨xa, xc, ⟨HM.out.low.grown hgr (by have := HM.out.low.size; have := HBO.out; omega) (fun q e => by have := (hr q e).1; omega), own_rest HM.out.bxo hgr hr', own_rest HM.out.row hgr hr'⟩⟩
  case start => exact ⟨none, 0, ⟨hlow, hown, World.ownsRow_nil _ _ _ _⟩⟩
  case ownA =>
    rintro k a' _ X Y row h hgr hr
    exact h
  case assign =>
    intro lp k W K hk hle ⟨xa, xc, HM⟩ hK
    gi_wp2
    exact hK _ _ (KeepsFrom.refl _ _) (KpV.refl _ _ _) ⟨xa, xc, HM⟩ rfl
  case body =>
    rintro lp k a' W hk hle ⟨xa, xc, HM⟩ rfl
    have c6 : W.cell? ⟨bo, 0, none⟩ = some (.slice xa k xc) := HM.out.bxo.cellAt 0 (by omega)
    have f6 := HM.out.bxo.frozenAt 0
    have HTK := Kp.mk (show l.take (k + 1) = l.take k ++ [nth l k] from by
      rw [nth_eq _ _ (by rw [HL.out]; exact hk), List.take_succ_eq_append_getElem])
    generalize nth l k = u at *
    have hsW : bo ≤ W.heap.size := by omega
    gi_wp2_with (first
      | (gi_at_builtin; refine listIn_step rfl (fun c h => by cases h) (fun K hK => ?_); refine step_push tInts (by rfl) _ _ (by rfl) bo xa k xc _ (by rfl) (HM.out.row.alloc _) 1 W.heap.size _ (heap_alloc_new W _) (by rfl) (by rfl) (by simp [Value.oneCell']) (by omega) (by omega) (by omega) (by rw [alloc_size]; omega) ?_; intro sa sc w3 ho3 hgr3 hno3; refine hK _ _ ?_; have hbx3 := own_keep (HM.out.bxo.alloc _) hgr3 (fun q hq => row_row HM.out.row HM.out.bxo (by decide) q hq); have c63 : w3.cell? ⟨bo, 0, none⟩ = some (.slice xa k xc) := hbx3.cellAt 0 (by omega); have f63 := hbx3.frozenAt 0)
      | gi_in)
    have hg := grownBy_of_alloc hgr3
    have hb3 : Below bo W (w3.setCell ⟨bo, 0, none⟩ (.slice sa (k + 1) sc)) := (below_of_grown hg hsW (fun q hq => (own_lt HM.out.row q hq).1)).setCell (p := ⟨bo, 0, none⟩) (Nat.le_refl _) _
    refine ⟨(keeps_own HM.out.row hg).trans ((KeepsOthers.setCell _ _ _).from _), ⟨hb3.mono hbz, fun v e => ?_⟩, sa, sc, ⟨HM.out.low.trans hb3, ?_, ?_⟩⟩
    · exact (hb3.cell (p := ⟨bs, 0, none⟩) hbsl).trans e
    · have := (hbx3.stored 0 (.slice sa (k + 1) sc)).1
      simpa using this
    · rw [HTK.out, ints_append]
      exact own_keep ho3 (grown_set w3 bo 0 _) (fun q hq => by simp at hq; subst hq; exact fun e => row_row ho3 hbx3 (by decide) _ e rfl)
  case done =>
    rintro D W hD ⟨xa, xc, HM⟩ hK
    have c6 : W.cell? ⟨bo, 0, none⟩ = some (.slice xa n xc) := HM.out.bxo.cellAt 0 (by omega)
    have hWs := HM.out.low.size
    go_wp2
    have hob := own_rest HM.out.row (grownBy_putObj' W D (.deferred none)) (fun q e => by cases e; exact ⟨_, hK, rfl⟩)
    refine ⟨by simp, .inl ⟨_, _, rfl, run_takeDeferred hK, ?_⟩⟩
    refine ⟨.slice xa n xc, by simp [results, Tryz.results177, go_sem], xa, xc, rfl, ⟨?_⟩, ⟨?_⟩⟩
    · rw [← HBO.out]
      rwa [List.take_of_length_le (by rw [HL.out]; exact Nat.le_refl _)] at hob
    · rw [← HBO.out]
      have := belowK_b (w := W0) (n₀ := bo) (by omega) W D (.deferred (some [])) (.deferred none) hD hK rfl rfl
      exact HM.out.low.trans this

end Go.Proofs.YtedchegejalolaaGreatDoor

/- An element is taken out of a slice of the call's own. -/
namespace Go.Proofs.YtedchegejalolaaGreatDoor
set_option linter.unusedVariables false
open Go.RowKit

theorem own_setCells {B e g n cap : Nat} : ∀ (vs : List Value) (o : Nat) (w : World) (xs : List Value), w.ownsRow B e 1 (.slice (some ⟨g, 0, none⟩) n cap) n xs → o + vs.length ≤ n →
    (w.setCells g o vs).ownsRow B e 1 (.slice (some ⟨g, 0, none⟩) n cap) n (xs.take o ++ vs ++ xs.drop (o + vs.length)) ∧ w.grownBy (w.setCells g o vs) (some g)
  | [], o, w, xs, h, hl => by
    refine ⟨?_, grown_refl _ _⟩
    simp only [List.append_nil, List.length_nil, Nat.add_zero, List.take_append_drop]
    exact h
  | v :: vs, o, w, xs, h, hl => by
    have hxl : xs.length = n := by rw [h.1, Nat.mul_one]
    have h1 := (h.stored o v).1
    obtain ⟨h2, h3⟩ := own_setCells vs (o + 1) (w.setCell ⟨g, o, none⟩ v) _ h1 (by simp at hl; omega)
    refine ⟨?_, grown_trans (grown_set w g o v) h3⟩
    have e : (xs.set o v).take (o + 1) ++ vs ++ (xs.set o v).drop (o + 1 + vs.length) = xs.take o ++ (v :: vs) ++ xs.drop (o + (v :: vs).length) := by
      have ho : o < xs.length := by simp at hl; omega
      rw [List.drop_set_of_lt (by omega), List.take_set]
      rw [List.take_succ_eq_append_getElem ho, List.set_append_right _ _ (by simp; omega)]
      simp [Nat.min_eq_left (Nat.le_of_lt ho), Nat.add_assoc, Nat.add_comm 1]
    rw [← e]
    exact h2
theorem own_front {w : World} {B e g n m cap : Nat} {xs : List Value} (h : w.ownsRow B e 1 (.slice (some ⟨g, 0, none⟩) n cap) n xs) (hm : m ≤ n) : w.ownsRow B e 1 (.slice (some ⟨g, 0, none⟩) m cap) m (xs.take m) := by
  have hxl : xs.length = n := by rw [h.1, Nat.mul_one]
  refine ⟨by rw [List.length_take, hxl]; omega, ?_⟩
  rcases h.2 with ⟨hv, _⟩ | ⟨g', cap', cur, hv, hB, hg, h1, h2, h3, h4⟩
  · cases hv
  · simp only [Value.slice.injEq, Option.some.injEq, Addr.mk.injEq, and_true, true_and] at hv
    obtain ⟨rfl, rfl⟩ := hv
    refine .inr ⟨g, cap, cur, rfl, hB, hg, by omega, h2, h3, ?_⟩
    rw [← h4, Nat.mul_one, Nat.mul_one, List.take_take, Nat.min_eq_left hm]
end Go.Proofs.YtedchegejalolaaGreatDoor

