/- Spans of raw numbers; package stab: Check, Stab. -/
import Derived.Test.YtlmdlholmlbcbaaNumP
import Derived.Test.YtlmdlholmlbcbaaFlat
import Derived.Shelf.Abstract
namespace Go.Proofs.Ytlmdlholmlbcbaa
set_option linter.unusedVariables false
open Go.RowKit

/-- A span. -/
structure Spn where
  lo : Int
  hi : Int
abbrev sp0 : Spn := ⟨0, 0⟩
def spL (s : Spn) : List Value := [.int .i64 s.lo, .int .i64 s.hi]
theorem spL_len (s : Spn) : (spL s).length = 2 := rfl
theorem spL_one (s : Spn) : ∀ u ∈ spL s, u.oneCell' = true := by simp [spL, Value.oneCell']
def Spn.Ok (s : Spn) : Prop := -1048576 ≤ s.lo ∧ s.lo ≤ s.hi ∧ s.hi ≤ 1048576
/-- The span of a raw number. -/
def spOf (bound x : Int) : Spn := ⟨pick x bound, pick x bound + pick (x.tdiv 1000) 12⟩
def spsOf (l : List Int) (n : Nat) (bound : Int) : List Spn := (l.take n).map (spOf bound)
theorem spsOf_length (l : List Int) (n : Nat) (bound : Int) : (spsOf l n bound).length = min n l.length := by simp [spsOf]
theorem spsOf_succ (l : List Int) (k : Nat) (bound : Int) (h : k < l.length) : spsOf l (k + 1) bound = spsOf l k bound ++ [spOf bound l[k]] := by
  rw [spsOf, List.take_succ_eq_append_getElem h, List.map_append]; rfl
theorem spsOf_bd (l : List Int) (n : Nat) (bound : Int) (h : 0 < bound) : ∀ s ∈ spsOf l n bound, 0 ≤ s.lo ∧ s.lo < bound ∧ s.lo ≤ s.hi ∧ s.hi < s.lo + 12 := by
  intro s hs
  obtain ⟨x, _, rfl⟩ := List.mem_map.1 hs
  have h1 := pick_bd x bound h
  have h2 := pick_bd (x.tdiv 1000) 12 (by omega)
  unfold spOf
  dsimp only
  omega
attribute [irreducible] spsOf
theorem info_sp : (Try.prog.info? 26).map (fun i => (i.zero, i.size, i.bytes)) = some (some (.agg #[.int .i64 0, .int .i64 0]), 2, 16) := by kernel_rfl
theorem tSps : ElemTy Try.prog 23 26 2 16 (.agg #[.int .i64 0, .int .i64 0]) :=
  ⟨Try.underlying23, by obtain ⟨i0, hi, h0, h1, h2⟩ := info_parts info_sp; exact ⟨i0, hi, h0, h1, h2⟩, rfl, by decide⟩
theorem sp_at {w : World} {a : Option Addr} {n cap : Nat} {L : List Spn} (h : SlF spL 2 w a n cap L) (i : Nat) (hi : i < n) :
    ∃ b off, a = some ⟨b, off, none⟩ ∧ w.cell? ⟨b, off + i * 2, none⟩ = some (.int .i64 (L.getD i sp0).lo) ∧ w.cell? ⟨b, off + i * 2 + 1, none⟩ = some (.int .i64 (L.getD i sp0).hi) := by
  have hl := h.len spL_len (by omega)
  obtain ⟨b, off, ha, hb, hc⟩ := h.at spL_len (by omega) i (by omega)
  rw [← getD_at L sp0 (by omega)] at hc
  exact ⟨b, off, ha, hc 0 (by omega), hc 1 (by omega)⟩

set_option maxRecDepth 100000 in
set_option maxHeartbeats 2000000 in
theorem spans_any (a : Option Addr) (cap m n : Nat) (bound : Int) (l : List Int) (w : World) (h : SlI w a cap l) (hml : l.length = m) (hm : m ≤ 9223372036854775807) (hn : n ≤ 1000) (h0 : 0 < bound) (h1 : bound ≤ 1000000) (hw : ∀ x ∈ l, (Lit.int .i64 x).wf = true) :
    Calls Try.prog 15 #[.slice a m cap, .int .i64 n, .int .i64 bound] w (fun e w' => ∃ oa oc r, e = .returned (.slice oa r oc) ∧ Kp ((spsOf l n bound).length = r) ∧ Kp (w'.ownsRow w.heap.size 26 2 (.slice oa r oc) r (flat spL (spsOf l n bound))) ∧ Below w.heap.size w w') := by
  have H := Kp.mk h
  have HW := Kp.mk hw
  have HML := Kp.mk hml
  obtain ⟨B, hB⟩ : ∃ B, B = w.heap.size := ⟨_, rfl⟩
  have HB := Kp.mk hB
  clear h hw hml hB
  go_enter Try.func15, Try.ntmps15
  go_wp2
  go_loopw [7, 8] (fun v i wr => ∃ (k : Nat) (sa : Option Addr) (sc : Nat), k ≤ m ∧ k ≤ n ∧ i = .int .i64 k ∧ v = .slice sa k sc ∧ Kp (wr.ownsRow B 26 2 (.slice sa k sc) k (flat spL (spsOf l k bound))) ∧ Kp (Below B w wr)) (fun _ i _ => m - (intOf i).toNat)
  case atStart => exact ⟨0, none, 0, Nat.zero_le _, Nat.zero_le _, rfl, rfl, ⟨by unfold spsOf; simp [flat, World.ownsRow_nil]⟩, ⟨Below.refl _ _⟩⟩
  case round =>
    obtain ⟨k, sa, sc, hkm, hkn, rfl, rfl, HO, HBL⟩ := hrel
    by_cases hgo : k < m ∧ k < n
    · obtain ⟨hlt, hltn⟩ := hgo
      obtain ⟨b, off, rfl, cl⟩ := (H.out.below (HB.out ▸ HBL.out)).at k (by rw [HML.out]; exact hlt)
      have HSU := Kp.mk (spsOf_succ l k bound (by rw [HML.out]; exact hlt))
      obtain ⟨i1, i2⟩ := wf_bd (HW.out _ (List.getElem_mem (show k < l.length by rw [HML.out]; exact hlt)))
      generalize l[k]'(by rw [HML.out]; exact hlt) = x at *
      obtain ⟨d1, d2⟩ := tdiv_bd x 1000 (by omega) i1 i2
      obtain ⟨q1, h1', l1⟩ : ∃ q, pick x bound = q ∧ 0 ≤ q ∧ q < bound := ⟨_, rfl, pick_bd x bound h0⟩
      obtain ⟨q2, h2', l2⟩ : ∃ q, pick (x.tdiv 1000) 12 = q ∧ 0 ≤ q ∧ q < 12 := ⟨_, rfl, pick_bd (x.tdiv 1000) 12 (by omega)⟩
      have HOP := Kp.mk (show spOf bound x = ⟨q1, q1 + q2⟩ from by simp only [spOf, h1', h2'])
      have C1 := Kp.mk (fun W => h1' ▸ picked_any x bound W h0 (by omega) i1 i2)
      have C2 := Kp.mk (fun W => h2' ▸ picked_any (x.tdiv 1000) 12 W (by omega) (by omega) d1 d2)
      have hBw : B ≤ wr.heap.size := by rw [HB.out]; exact HBL.out.size
      have e1 : IntKind.i64.wrap (q1 + q2) = q1 + q2 := IntWalk.i64_in _ (by omega)
      have e2 : IntKind.i64.wrap (x.tdiv 1000) = x.tdiv 1000 := IntWalk.i64_in _ (by omega)
      clear h1' h2'
      go_wp2_with fail
      refine (C1.out _).mono ?_
      rintro e w' ⟨rfl, rfl⟩
      go_wp2_with fail
      refine (C2.out _).mono ?_
      rintro e w' ⟨rfl, rfl⟩
      go_wp2_with (at_builtin; refine wpList_push tSps rfl _ _ rfl B sa k sc _ rfl HO.out 1 1 _ rfl rfl ?c1 (by decide) ?c2 (by decide) hBw ?c4)
      case c1 => simp [Value.oneCell']
      case c2 => omega
      case c4 =>
        intro sa' cap' w' hown' hbel'
        have HO7 := Kp.mk (show w'.ownsRow B 26 2 (.slice sa' (k + 1) cap') (k + 1) (flat spL (spsOf l (k + 1) bound)) from by
          rw [HSU.out, flat_append, HOP.out]
          have e : flat spL [(⟨q1, q1 + q2⟩ : Spn)] = [.int .i64 q1, .int .i64 (q1 + q2)] := by simp [flat, spL]
          rw [e]; exact hown')
        have HB7 := Kp.mk (HBL.out.trans hbel')
        clear hown' hbel' cl
        go_wp2
        go_roundw
        case rel => exact ⟨k + 1, sa', cap', by omega, by omega, by go_num, rfl, HO7, HB7⟩
        case measure => simp [intOf]; omega
    · have hfin : Kp (spsOf l n bound = spsOf l k bound ∧ (spsOf l k bound).length = k) := by
        refine ⟨?_, by rw [spsOf_length, HML.out]; omega⟩
        unfold spsOf
        by_cases h : k < m
        · rw [show k = n by omega]
        · rw [List.take_of_length_le (by rw [HML.out]; omega), List.take_of_length_le (by rw [HML.out]; omega)]
      have hor : (k < m ∧ ¬ k < n) ∨ ¬ k < m := by
        by_cases h1 : k < m
        · exact .inl ⟨h1, fun h2 => hgo ⟨h1, h2⟩⟩
        · exact .inr h1
      clear hgo
      rcases hor with ⟨hlt, hm60⟩ | hlt
      all_goals
        go_wp2
        go_ret
        refine ⟨sa, sc, k, rfl, ⟨by rw [hfin.out.1]; exact hfin.out.2⟩, ⟨?_⟩, ?_⟩
        · rw [hfin.out.1, ← HB.out]; exact HO.out
        · rw [← HB.out]; exact HBL.out

theorem snear_any (x : Int) (w : World) (h1 : -1048576 ≤ x) (h2 : x ≤ 1048576) :
    Calls Try.prog 85 #[.int .i64 x] w fun e w' => e = .returned (.bool true) ∧ w = w' := by
  have h1' : decide (-1048576 ≤ x) = true := decide_eq_true h1
  have h2' : decide (x ≤ 1048576) = true := decide_eq_true h2
  go_enter Try.func85, Try.ntmps85
  go_wp2
  go_ret
  exact ⟨rfl, rfl⟩
theorem sodd_any (s : Spn) (w : World) (h : s.Ok) :
    Calls Try.prog 84 #[.agg #[.int .i64 s.lo, .int .i64 s.hi]] w fun e w' => e = .returned (.bool false) ∧ w.alloc (.cells #[.int .i64 s.lo, .int .i64 s.hi] 26) = w' := by
  obtain ⟨x, y⟩ := s
  obtain ⟨a1, a2, a3⟩ := h
  dsimp only at a1 a2 a3
  have C1 := Kp.mk (fun W => snear_any x W a1 (by omega))
  have C2 := Kp.mk (fun W => snear_any y W (by omega) a3)
  have t1 : decide (y < x) = false := decide_eq_false (by omega)
  have t2 : ¬ y < x := by omega
  clear a1 a2 a3
  dsimp only
  go_enter Try.func84, Try.ntmps84
  go_wp2_with (go_at_call 85; (first | (with_reducible refine (C1.out _).mono ?_) | (with_reducible refine (C2.out _).mono ?_)); rintro e w' ⟨rfl, rfl⟩)
  go_ret
  exact ⟨rfl, rfl⟩
set_option maxHeartbeats 1000000 in
theorem snoOdd_any (a : Option Addr) (cap n : Nat) (L : List Spn) (w : World) (h : SlF spL 2 w a n cap L) (hn : n ≤ 1000000) (hN : ∀ p ∈ L, p.Ok) :
    Calls Try.prog 127 #[.slice a n cap, .func (.func 84) #[] #[]] w fun e w' => e = .returned (.int .i64 (-1)) ∧ Kp (Below w.heap.size w w') := by
  have HLn := Kp.mk (h.len spL_len (by omega))
  have H := Kp.mk h
  have HN := Kp.mk hN
  have eg : ∀ args w, (callFunc 84 args).run Try.prog w = .ok (.enter 84 args) w := enters_of Try.func84 (by kernel_rfl) rfl
  clear h hN
  go_enter Try.func127, Try.ntmps127
  go_wp2
  go_loopw [8] (fun i wr => ∃ k : Nat, k ≤ n ∧ i = .int .i64 k ∧ Kp (Below w.heap.size w wr)) (fun i _ => n - (intOf i).toNat)
  case atStart => exact ⟨0, Nat.zero_le _, rfl, ⟨Below.refl _ _⟩⟩
  case round =>
    obtain ⟨k, hk, rfl, HB⟩ := hrel
    by_cases hlt : k < n
    · obtain ⟨b, off, rfl, o0, o1⟩ := sp_at (SlF.below H.out HB.out) k hlt
      have hm := HN.out (L.getD k sp0) (by rw [getD_at _ _ (by rw [HLn.out]; exact hlt)]; exact List.getElem_mem _)
      generalize L.getD k sp0 = p at *
      have C := Kp.mk (sodd_any p wr hm)
      clear hm
      go_wp2_with (go_at_fn 84; refine C.out.mono ?_; rintro e w' ⟨rfl, rfl⟩)
      have HB2 := Kp.mk (HB.out.alloc (by exact HB.out.size) (.cells #[.int .i64 p.lo, .int .i64 p.hi] 26))
      go_roundw
      case rel => exact ⟨k + 1, by omega, by go_num, HB2⟩
      case measure => simp [intOf]; omega
    · go_wp2
      go_ret
      exact ⟨rfl, HB⟩
theorem snoneOdd_any (a : Option Addr) (cap n : Nat) (L : List Spn) (w : World) (h : SlF spL 2 w a n cap L) (hn : n ≤ 1000000) (hN : ∀ p ∈ L, p.Ok) :
    Calls Try.prog 83 #[.slice a n cap, .func (.func 84) #[] #[]] w fun e w' => e = .returned (.bool false) ∧ Kp (Below w.heap.size w w') := by
  have C := Kp.mk (snoOdd_any a cap n L w h hn hN)
  clear h hN
  go_enter Try.func83, Try.ntmps83
  go_wp2_with fail
  refine C.out.mono ?_
  rintro e w1 ⟨rfl, HB⟩
  go_wp2
  go_ret
  exact ⟨rfl, HB⟩
theorem scheck_any (a : Option Addr) (cap n : Nat) (L : List Spn) (w : World) (h : SlF spL 2 w a n cap L) (hn : n ≤ 100) (hN : ∀ p ∈ L, p.Ok) :
    Calls Try.prog 42 #[.slice a n cap] w fun e w' => e = .returned (.int .i64 0) ∧ Kp (Below w.heap.size w w') := by
  have C := Kp.mk (snoneOdd_any a cap n L w h (by omega) hN)
  have hn' : ¬ (100 < (n : Int)) := by omega
  clear h hN
  go_enter Try.func42, Try.ntmps42
  go_wp2_with fail
  refine C.out.mono ?_
  rintro e w1 ⟨rfl, HB⟩
  go_wp2
  go_ret
  exact ⟨rfl, HB⟩

/-- Among the first k spans those that have a number. -/
def hitK (L : List Spn) (x : Int) (k : Nat) : List Nat := (List.range k).filter fun i => decide ((L.getD i sp0).lo ≤ x ∧ x ≤ (L.getD i sp0).hi)
theorem hitK_succ (L : List Spn) (x : Int) (k : Nat) : hitK L x (k + 1) = if (L.getD k sp0).lo ≤ x ∧ x ≤ (L.getD k sp0).hi then hitK L x k ++ [k] else hitK L x k := by
  unfold hitK
  rw [List.range_succ, List.filter_append]
  have e : ∀ (p : Nat → Bool), [k].filter p = if p k = true then [k] else [] := fun p => by
    cases hp : p k <;> simp [hp]
  rw [e]
  by_cases h : (L.getD k sp0).lo ≤ x ∧ x ≤ (L.getD k sp0).hi
  · rw [if_pos h, if_pos (decide_eq_true h)]
  · rw [if_neg h, if_neg (by rw [decide_eq_true_eq]; exact h), List.append_nil]
theorem hitK_zero (L : List Spn) (x : Int) : hitK L x 0 = [] := rfl
theorem hitK_le (L : List Spn) (x : Int) (k : Nat) : (hitK L x k).length ≤ k := by
  unfold hitK
  exact Nat.le_trans (List.length_filter_le _ _) (by simp)
theorem hitK_count (L : List Spn) (x : Int) : (hitK L x L.length).length = L.countP fun s => decide (s.lo ≤ x ∧ x ≤ s.hi) := by
  have key : ∀ k, k ≤ L.length → (hitK L x k).length = (L.take k).countP fun s => decide (s.lo ≤ x ∧ x ≤ s.hi) := by
    intro k
    induction k with
    | zero => intro _; rfl
    | succ k ih =>
      intro hk
      rw [hitK_succ, List.take_succ_eq_append_getElem (by omega), List.countP_append, ← ih (by omega), getD_at L sp0 (by omega)]
      split
      · rename_i h; simp [h]
      · rename_i h; simp [h]
  have := key L.length (Nat.le_refl _)
  rwa [List.take_length] at this
attribute [irreducible] hitK

set_option maxRecDepth 100000 in
set_option maxHeartbeats 2000000 in
theorem stab_any (a : Option Addr) (cap n : Nat) (L : List Spn) (x : Int) (w : World) (h : SlF spL 2 w a n cap L) (hn : n ≤ 100) (hN : ∀ p ∈ L, p.Ok) :
    Calls Try.prog 22 #[.slice a n cap, .int .i64 x] w fun e w' => ∃ ra rc r, e = .returned (.tuple #[.slice ra r rc, .int .i64 0]) ∧ Kp ((hitK L x n).length = r) ∧ Kp (w'.ownsRow w.heap.size 3 1 (.slice ra r rc) r (ints ((hitK L x n).map Int.ofNat))) ∧ Below w.heap.size w w' := by
  have HLn := Kp.mk (h.len spL_len (by omega))
  have H := Kp.mk h
  have CC := Kp.mk (scheck_any a cap n L w h hn hN)
  clear h hN
  go_enter Try.func22, Try.ntmps22
  go_wp2_with fail
  refine CC.out.mono ?_
  rintro e w1 ⟨rfl, HB1⟩
  have H1 := Kp.mk (SlF.below H.out HB1.out)
  obtain ⟨wo, rfl⟩ : ∃ wo : World, wo = w1 := ⟨_, rfl⟩
  clear CC H
  go_wp2
  go_loopw [7, 17] (fun v i wr => ∃ (k : Nat) (ra : Option Addr) (r rc : Nat), k ≤ n ∧ i = .int .i64 k ∧ v = .slice ra r rc ∧ Kp ((hitK L x k).length = r) ∧ Kp (wr.ownsRow wo.heap.size 3 1 (.slice ra r rc) r (ints ((hitK L x k).map Int.ofNat))) ∧ Kp (Below wo.heap.size wo wr)) (fun _ i _ => n - (intOf i).toNat)
  case atStart => exact ⟨0, none, 0, 0, Nat.zero_le _, rfl, rfl, ⟨by rw [hitK_zero]; rfl⟩, ⟨by rw [hitK_zero]; exact World.ownsRow_nil _ _ _ _⟩, ⟨Below.refl _ _⟩⟩
  case round =>
    obtain ⟨k, ra, r, rc, hk, rfl, rfl, HR, HO, HB⟩ := hrel
    by_cases hlt : k < n
    · obtain ⟨b, off, rfl, o0, o1⟩ := sp_at (SlF.below H1.out HB.out) k hlt
      have HS := Kp.mk (hitK_succ L x k)
      have hrl := hitK_le L x k
      rw [HR.out] at hrl
      generalize L.getD k sp0 = s at *
      have hbel : Below wr.heap.size wr (wr.alloc (.cells #[.int .i64 s.lo, .int .i64 s.hi] 26)) := below_alloc (Nat.le_refl _) _
      have hnew := Box.new wr #[.int .i64 s.lo, .int .i64 s.hi] 26
      have c0 : (wr.alloc (.cells #[.int .i64 s.lo, .int .i64 s.hi] 26)).cell? ⟨wr.heap.size, 0, none⟩ = some (.int .i64 s.lo) := hnew.cell 0 rfl
      have c1 : (wr.alloc (.cells #[.int .i64 s.lo, .int .i64 s.hi] 26)).cell? ⟨wr.heap.size, 1, none⟩ = some (.int .i64 s.hi) := hnew.cell 1 rfl
      have HOA := Kp.mk (own_below HO.out hbel)
      have HBA := Kp.mk (HB.out.trans (hbel.mono HB.out.size))
      generalize hWA : wr.alloc (.cells #[.int .i64 s.lo, .int .i64 s.hi] 26) = WA at *
      clear hbel hnew
      have hor : (s.lo ≤ x ∧ x ≤ s.hi) ∨ (s.lo ≤ x ∧ ¬ x ≤ s.hi) ∨ ¬ s.lo ≤ x := by omega
      rcases hor with ⟨t1, t2⟩ | ⟨t1, t2⟩ | t1
      · have HE := Kp.mk (show hitK L x (k + 1) = hitK L x k ++ [k] from by rw [HS.out, if_pos ⟨t1, t2⟩])
        have u1 : decide (s.lo ≤ x) = true := decide_eq_true t1
        have u2 : decide (x ≤ s.hi) = true := decide_eq_true t2
        have hsz := HBA.out.size
        go_wp2_with (at_builtin; refine wpList_push tInts rfl _ _ rfl wo.heap.size ra r rc _ rfl HOA.out 1 1 _ rfl rfl ?d1 (by decide) ?d2 (by decide) hsz ?d4)
        case d1 => simp [Value.oneCell']
        case d2 => omega
        case d4 =>
          intro ya yc w4 ho4 hb4
          have HO4 := Kp.mk (show w4.ownsRow wo.heap.size 3 1 (.slice ya (r + 1) yc) (r + 1) (ints ((hitK L x (k + 1)).map Int.ofNat)) from by
            rw [HE.out, List.map_append, ints_append]; exact ho4)
          have HR4 := Kp.mk (show (hitK L x (k + 1)).length = r + 1 by rw [HE.out, List.length_append, HR.out]; rfl)
          have HB4 := Kp.mk (HBA.out.trans hb4)
          clear ho4 hb4 c0 c1 hWA
          go_wp2
          go_roundw
          case rel => exact ⟨k + 1, ya, r + 1, yc, by omega, by go_num, rfl, HR4, HO4, HB4⟩
          case measure => simp [intOf]; omega
      · have HE := Kp.mk (show hitK L x (k + 1) = hitK L x k from by rw [HS.out, if_neg (fun h => t2 h.2)])
        have u1 : decide (s.lo ≤ x) = true := decide_eq_true t1
        have u2 : decide (x ≤ s.hi) = false := decide_eq_false t2
        go_wp2
        go_roundw
        case rel => exact ⟨k + 1, ra, r, rc, by omega, by go_num, rfl, by rw [HE.out]; exact HR, by rw [HE.out]; exact HOA, HBA⟩
        case measure => simp [intOf]; omega
      · have HE := Kp.mk (show hitK L x (k + 1) = hitK L x k from by rw [HS.out, if_neg (fun h => t1 h.1)])
        have u1 : decide (s.lo ≤ x) = false := decide_eq_false t1
        go_wp2
        go_roundw
        case rel => exact ⟨k + 1, ra, r, rc, by omega, by go_num, rfl, by rw [HE.out]; exact HR, by rw [HE.out]; exact HOA, HBA⟩
        case measure => simp [intOf]; omega
    · obtain rfl : k = n := by omega
      have HOF := Kp.mk (own_base HO.out HB1.out.size)
      have HBF := Kp.mk (below_step HB1.out HB.out)
      go_wp2
      refine bodyPost_ret (v := .tuple #[.slice ra r rc, .int .i64 0]) (by simp [results, Try.results22, go_sem]) rfl ?_
      exact ⟨ra, rc, r, rfl, HR, HOF, HBF.out⟩

end Go.Proofs.Ytlmdlholmlbcbaa
