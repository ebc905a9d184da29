/- Package rmq: Make: the tops of all ranges of 2^k places. -/
import Derived.Test.YtnieacfleabikaaTixP
import Derived.Test.YtnieacfleabikaaHdr
namespace Go.Proofs.Ytnieacfleabikaa
set_option linter.unusedVariables false
open Go.RowKit

set_option maxHeartbeats 400000 in
theorem top_any (a : Option Addr) (cap n x y : Nat) (l : List Int) (w : World) (h : SlI w a cap l) (hl : l.length = n) (hn : n ≤ 9223372036854775806) (hx : x < n) (hy : y < n) :
    Calls Try.prog 51 #[.slice a n cap, .int .i64 x, .int .i64 y] w fun e w' => e = .returned (.int .i64 (if at0 l x < at0 l y then y else x : Nat)) ∧ Drew w w' := by
  have hx' : x < l.length := by omega
  have hy' : y < l.length := by omega
  obtain ⟨b, off, rfl, cx⟩ := h.at x hx'
  obtain ⟨b', off', hb, cy⟩ := h.at y hy'
  simp only [Option.some.injEq, Addr.mk.injEq, and_true] at hb
  obtain ⟨rfl, rfl⟩ := hb
  rw [← at0_get hx'] at cx
  rw [← at0_get hy'] at cy
  have hxi : (x : Int) < n := by omega
  have hyi : (y : Int) < n := by omega
  clear h hl hx' hy'
  by_cases hc : at0 l x < at0 l y
  · rw [if_pos hc]
    have d1 := decide_eq_true hc
    clear hc
    generalize at0 l x = u at *
    generalize at0 l y = v at *
    go_enter Try.func51, Try.ntmps51
    go_wp2
    go_quiet (fail)
    go_wp2
    go_ret
    exact ⟨rfl, _, rfl⟩
  · rw [if_neg hc]
    have d1 := decide_eq_false hc
    clear hc
    generalize at0 l x = u at *
    generalize at0 l y = v at *
    go_enter Try.func51, Try.ntmps51
    go_wp2
    go_quiet (fail)
    go_wp2
    go_ret
    exact ⟨rfl, _, rfl⟩

/-- Rows, one behind the other, in blocks of their own. -/
structure RwsMem (B r : Nat) (w wr : World) (so : Option Addr) (sc : Nat) (L : List (Option Addr × Nat × List Int)) (D : List (List Int)) : Prop where
  len : L.length = r
  ls : lists L = D
  own : wr.ownsRow B 35 1 (.slice so r sc) r (hdr L)
  facts : Facts wr L
  apart : ∀ k, blk so = some k → ∀ x ∈ L, blk x.1 ≠ some k
  ne : ∀ x ∈ L, x.2.2 ≠ []
  hb : Below B w wr
theorem RwsMem.nil {B : Nat} {w wr : World} (h : Below B w wr) : RwsMem B 0 w wr none 0 [] [] :=
  ⟨rfl, rfl, World.ownsRow_nil _ _ _ _, Facts.nil _, (fun k hk => by cases hk), (fun x hx => by cases hx), h⟩
theorem RwsMem.keep {B r : Nat} {w wr wr' : World} {so : Option Addr} {sc : Nat} {L : List (Option Addr × Nat × List Int)} {D : List (List Int)} (h : RwsMem B r w wr so sc L D) (hb : Below wr.heap.size wr wr') (hB : B ≤ wr.heap.size) : RwsMem B r w wr' so sc L D :=
  ⟨h.len, h.ls, own_below h.own hb, h.facts.below hb, h.apart, h.ne, h.hb.trans (hb.mono hB)⟩
theorem RwsMem.dlen {B r : Nat} {w wr : World} {so : Option Addr} {sc : Nat} {L : List (Option Addr × Nat × List Int)} {D : List (List Int)} (h : RwsMem B r w wr so sc L D) : D.length = r := by
  rw [← h.ls, ← h.len]; simp [lists]
theorem RwsMem.rows {B r : Nat} {w wr : World} {so : Option Addr} {sc : Nat} {L : List (Option Addr × Nat × List Int)} {D : List (List Int)} (h : RwsMem B r w wr so sc L D) : RowsI wr so r sc D :=
  ⟨L, h.ls, own_slc h.own, h.facts⟩
/-- A row of its own is put behind the others. -/
theorem RwsMem.push {B r n : Nat} {w w2 w3 : World} {so so' : Option Addr} {sc sc' g cg : Nat} {L : List (Option Addr × Nat × List Int)} {D : List (List Int)} {x : List Int} (h : RwsMem B r w w2 so sc L D) (hx : SlI w2 (some ⟨g, 0, none⟩) cg x) (hxl : x.length = n) (hxn : 0 < n)
    (hso : ∀ k, blk so = some k → k ≠ g) (hB : B ≤ w2.heap.size)
    (hown : w3.ownsRow B 35 1 (.slice so' (r + 1) sc') (r + 1) (hdr L ++ [.slice (some ⟨g, 0, none⟩) n cg])) (hg : w2.grownBy w3 (blk so)) (hno : NewOr w2 so so') :
    RwsMem B (r + 1) w w3 so' sc' (L ++ [(some ⟨g, 0, none⟩, cg, x)]) (D ++ [x]) := by
  have hgl : g < w2.heap.size := by
    obtain ⟨k, hk, hlt⟩ := SlC.lt hx (by rw [ints_length]; omega)
    simp [blk] at hk; omega
  have hlt := facts_lt h.facts h.ne
  refine ⟨by rw [List.length_append, h.len]; rfl, by rw [lists_append, h.ls]; rfl, ?_, ?_, ?_, ?_, h.hb.trans (below_of_grown hg hB (fun k hk => (own_lt h.own k hk).1))⟩
  · rw [hdr_append]
    have : hdr [((some ⟨g, 0, none⟩ : Option Addr), cg, x)] = [.slice (some ⟨g, 0, none⟩) n cg] := by simp [hdr, hxl]
    rw [this]; exact hown
  · intro y hy
    rcases List.mem_append.1 hy with hy | hy
    · exact facts_keep h.facts hg h.apart y hy
    · rw [List.mem_singleton.1 hy]
      exact SlC.keep hx hg (fun k hk he => by simp [blk] at he; exact hso k hk he.symm)
  · intro k hk y hy
    have hyb : ∀ q, blk y.1 = some q → q < w2.heap.size ∧ ∀ k', blk so = some k' → q ≠ k' := fun q hq => by
      rcases List.mem_append.1 hy with hy | hy
      · exact ⟨hlt y hy q hq, fun k' hk' e => h.apart k' hk' y hy (by rw [hq, e])⟩
      · rw [List.mem_singleton.1 hy] at hq
        simp [blk] at hq
        exact ⟨by omega, fun k' hk' e => hso k' hk' (by omega)⟩
    intro he
    obtain ⟨h1, h2⟩ := hyb k he
    rcases hno with e | ⟨q, hq, hge⟩
    · rw [hk] at e; exact h2 k e.symm rfl
    · rw [hk] at hq
      simp only [Option.some.injEq] at hq
      omega
  · intro y hy
    rcases List.mem_append.1 hy with hy | hy
    · exact h.ne y hy
    · rw [List.mem_singleton.1 hy]
      intro e
      rw [show x = [] from e] at hxl
      simp at hxl
      omega

end Go.Proofs.Ytnieacfleabikaa
