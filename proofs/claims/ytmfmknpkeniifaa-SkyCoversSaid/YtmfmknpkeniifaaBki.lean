/- slices.Backward on a slice of int. -/
import Derived.Test.YtmfmknpkeniifaaBkw
namespace Go.Proofs.Ytmfmknpkeniifaa
set_option linter.unusedVariables false
open Go.RowKit
attribute [local go_sem] Oper.semAt_some

theorem bki_any (a : Option Addr) (n c : Nat) (w : World) :
    Calls Try.prog 63 #[.slice a n c] w fun e w' => e = .returned (.func (.func 99) #[] #[.pointer (some ⟨w.heap.size, 0, none⟩)]) ∧ w.alloc (.cells #[.slice a n c] 38) = w' := by
  go_enter Try.func63, Try.ntmps63
  go_wp2
  go_ret
  exact ⟨rfl, rfl⟩

set_option maxRecDepth 100000 in
set_option maxHeartbeats 1000000 in
theorem bki_gives (a : Option Addr) (c n bs : Nat) (cs : List Value) (w0 w : World) (hs : SlC w0 a n c 1 cs) (hn : n ≤ 1000000) (hb : Below w0.heap.size w0 w) (hc : w.cell? ⟨bs, 0, none⟩ = some (.slice a n c)) (us : Nat → Value) (hu : ∀ k, k < n → us k = cs.getD (n - 1 - k) undef) :
    Gives Try.prog 99 #[.pointer (some ⟨bs, 0, none⟩)] (fun k => #[.int .i64 ((n : Int) - 1 - k), us k]) (KpB w0.heap.size bs) n w := by
  intro l J W hW hJ hY h0
  have hcW : W.cell? ⟨bs, 0, none⟩ = some (.slice a n c) := by
    rw [hW.cell (p := ⟨bs, 0, none⟩) (World.block_lt_of_cell? w _ hc)]; exact hc
  have HS := Kp.mk (fun i (hi : i < cs.length) (wr : World) (hk : KpB w0.heap.size bs W wr) => show ∃ b off, a = some ⟨b, off, none⟩ ∧ wr.cell? ⟨b, off + i, none⟩ = some cs[i] from by
    obtain ⟨b, off, ha, hc0⟩ := hs.cell i hi
    refine ⟨b, off, ha, ?_⟩
    rw [((hb.trans (hW.mono hb.size)).trans hk.bel).cell (p := ⟨b, off + i, none⟩) (World.block_lt_of_cell? w0 _ hc0)]
    exact hc0)
  have HL := Kp.mk hs.hlen
  have HY := Kp.mk hY
  have HU := Kp.mk hu
  clear hs hY hc hu
  refine callsIn_of_wp Try.func99 rfl trivial ?_ rfl
  simp only [Try.ntmps99, List.size_toArray, List.length_cons, List.length_nil, Nat.reduceAdd, Nat.reduceSub, Array.replicate_succ, Array.replicate_zero, List.push_toArray, List.append_toArray, List.nil_append, List.cons_append]
  gi_wp2
  gi_loopw [3] (fun i wr => ∃ k : Nat, k ≤ n ∧ i = .int .i64 ((n : Int) - 1 - k) ∧ J k wr ∧ Kp (KpB w0.heap.size bs W wr)) (fun i _ => (intOf i + 1).toNat)
  case atStart => exact ⟨0, Nat.zero_le _, by simp, h0, ⟨KpB.refl _ _ _⟩⟩
  case round =>
    obtain ⟨k, hk, rfl, hJs, HK⟩ := hrel
    have hcr := HK.out.box _ hcW
    by_cases hlt : k < n
    · have hge : 0 ≤ (n : Int) - 1 - k := by omega
      obtain ⟨b, off, rfl, ci⟩ := HS.out (n - 1 - k) (by rw [HL.out]; omega) wr HK.out
      rw [← getD_at cs undef (by rw [HL.out]; omega)] at ci
      obtain ⟨fn, tmps, assign, body, hy, hR⟩ := HY.out k wr hlt hJs
      have hu := HU.out k hlt
      rw [← hu] at ci
      clear hu
      generalize us k = u at *
      obtain ⟨q, hq⟩ : ∃ q : Nat, n - 1 - k = q := ⟨_, rfl⟩
      have hqz : (n : Int) - 1 - k = q := by omega
      rw [hq] at ci
      rw [hqz] at hy hge
      rw [hqz]
      have HQ := Kp.mk hqz
      have hqn : q < n := by omega
      clear hq hqz
      gi_wp2
      refine hR.mono ?_
      rintro e W3 ⟨rfl, hJ3, hk3⟩
      gi_wp2
      go_roundw
      case rel => exact ⟨k + 1, by omega, by rw [show ((n : Int) - 1 - ((k + 1 : Nat) : Int)) = q - 1 by have := HQ.out; omega], hJ3, ⟨HK.out.trans hk3⟩⟩
      case measure => simp [intOf]
    · obtain rfl : k = n := by omega
      gi_wp2
      go_end0
      exact ⟨⟨_, rfl⟩, hJs⟩

/-- What is kept while the call's own boxes (bo, bo + 1) change: what is older, what lies between them and n0, and one box. -/
structure KpS (bo n0 bs : Nat) (W W' : World) : Prop where
  bel : Below bo W W'
  mid : ∀ j, bo + 2 ≤ j → j < n0 → W'.heap[j]? = W.heap[j]?
  box : ∀ v, W.cell? ⟨bs, 0, none⟩ = some v → W'.cell? ⟨bs, 0, none⟩ = some v
theorem KpS.refl (bo n0 bs : Nat) (W : World) : KpS bo n0 bs W W := ⟨Below.refl _ _, fun _ _ _ => rfl, fun _ h => h⟩
theorem KpS.trans {bo n0 bs : Nat} {A B C : World} (h : KpS bo n0 bs A B) (k : KpS bo n0 bs B C) : KpS bo n0 bs A C := ⟨h.bel.trans k.bel, fun j h1 h2 => (k.mid j h1 h2).trans (h.mid j h1 h2), fun v e => k.box v (h.box v e)⟩
theorem KpS.put {bo n0 bs : Nat} {w : World} (hb : bo ≤ n0) (hn : n0 ≤ w.heap.size) (W : World) (l : Nat) (o o' : Obj) (hl : w.heap.size ≤ l) (h : W.heap[l]? = some o) (ho : o.isCells = false) : KpS bo n0 bs W (W.putObj l o') :=
  ⟨(Below.refl bo W).grown (grownBy_putObj' W l o') (by have := (Array.getElem?_eq_some_iff.1 h).1; omega) (fun k e => by cases e; omega), fun j h1 h2 => World.putObj_heap_other (by omega), fun v e => (grownBy_putObj' W l o').cell e (fun he => by
    simp only [Option.some.injEq] at he
    simp only [World.cell?] at e
    rw [he, h] at e
    cases o <;> first | (cases ho; done) | (simp at e; done))⟩

set_option maxRecDepth 100000 in
set_option maxHeartbeats 1000000 in
theorem bks_gives (a : Option Addr) (c n bs bo n0 : Nat) (cs : List Value) (w : World) (hs : SlC w a n c 1 cs) (hn : n ≤ 1000000) (hblk : ∀ k, blk a = some k → bo + 2 ≤ k ∧ k < n0) (hc : w.cell? ⟨bs, 0, none⟩ = some (.slice a n c)) (us : Nat → Value) (hu : ∀ k, k < n → us k = cs.getD (n - 1 - k) undef) :
    Gives Try.prog 99 #[.pointer (some ⟨bs, 0, none⟩)] (fun k => #[.int .i64 ((n : Int) - 1 - k), us k]) (KpS bo n0 bs) n w := by
  intro l J W hW hJ hY h0
  have hcW : W.cell? ⟨bs, 0, none⟩ = some (.slice a n c) := by
    rw [hW.cell (p := ⟨bs, 0, none⟩) (World.block_lt_of_cell? w _ hc)]; exact hc
  have HS := Kp.mk (fun i (hi : i < cs.length) (wr : World) (hk : KpS bo n0 bs W wr) => show ∃ b off, a = some ⟨b, off, none⟩ ∧ wr.cell? ⟨b, off + i, none⟩ = some cs[i] from by
    obtain ⟨b, off, ha, hc0⟩ := hs.cell i hi
    refine ⟨b, off, ha, ?_⟩
    obtain ⟨h1, h2⟩ := hblk b (by rw [ha]; rfl)
    have h3 := (hW.cell (p := ⟨b, off + i, none⟩) (World.block_lt_of_cell? w _ hc0)).trans hc0
    have h4 := hk.mid b h1 h2
    simp only [World.cell?] at h3 ⊢
    rw [h4]
    exact h3)
  have HL := Kp.mk hs.hlen
  have HY := Kp.mk hY
  have HU := Kp.mk hu
  clear hs hY hc hu
  refine callsIn_of_wp Try.func99 rfl trivial ?_ rfl
  simp only [Try.ntmps99, List.size_toArray, List.length_cons, List.length_nil, Nat.reduceAdd, Nat.reduceSub, Array.replicate_succ, Array.replicate_zero, List.push_toArray, List.append_toArray, List.nil_append, List.cons_append]
  gi_wp2
  gi_loopw [3] (fun i wr => ∃ k : Nat, k ≤ n ∧ i = .int .i64 ((n : Int) - 1 - k) ∧ J k wr ∧ Kp (KpS bo n0 bs W wr)) (fun i _ => (intOf i + 1).toNat)
  case atStart => exact ⟨0, Nat.zero_le _, by simp, h0, ⟨KpS.refl _ _ _ _⟩⟩
  case round =>
    obtain ⟨k, hk, rfl, hJs, HK⟩ := hrel
    have hcr := HK.out.box _ hcW
    by_cases hlt : k < n
    · have hge : 0 ≤ (n : Int) - 1 - k := by omega
      obtain ⟨b, off, rfl, ci⟩ := HS.out (n - 1 - k) (by rw [HL.out]; omega) wr HK.out
      rw [← getD_at cs undef (by rw [HL.out]; omega)] at ci
      obtain ⟨fn, tmps, assign, body, hy, hR⟩ := HY.out k wr hlt hJs
      have hu := HU.out k hlt
      rw [← hu] at ci
      clear hu
      generalize us k = u at *
      obtain ⟨q, hq⟩ : ∃ q : Nat, n - 1 - k = q := ⟨_, rfl⟩
      have hqz : (n : Int) - 1 - k = q := by omega
      rw [hq] at ci
      rw [hqz] at hy hge
      rw [hqz]
      have HQ := Kp.mk hqz
      have hqn : q < n := by omega
      clear hq hqz
      gi_wp2
      refine hR.mono ?_
      rintro e W3 ⟨rfl, hJ3, hk3⟩
      gi_wp2
      go_roundw
      case rel => exact ⟨k + 1, by omega, by rw [show ((n : Int) - 1 - ((k + 1 : Nat) : Int)) = q - 1 by have := HQ.out; omega], hJ3, ⟨HK.out.trans hk3⟩⟩
      case measure => simp [intOf]
    · obtain rfl : k = n := by omega
      gi_wp2
      go_end0
      exact ⟨⟨_, rfl⟩, hJs⟩

end Go.Proofs.Ytmfmknpkeniifaa
