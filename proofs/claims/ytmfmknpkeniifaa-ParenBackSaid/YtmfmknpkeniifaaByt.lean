/- Slices of bytes: rows of a call's own, what is written into them. -/
import Derived.Test.YtmfmknpkeniifaaSum
import Derived.Test.YtmfmknpkeniifaaBit
namespace Go.Proofs.Ytmfmknpkeniifaa
set_option linter.unusedVariables false
open Go.RowKit

theorem info_byte : (Try.prog.info? 5).map (fun i => (i.zero, i.size, i.bytes)) = some (some (.int .u8 0), 1, 1) := by kernel_rfl
theorem tBytes : ElemTy Try.prog 27 5 1 1 (.int .u8 0) :=
  ⟨Try.underlying27, by obtain ⟨i0, hi, h0, h1, h2⟩ := info_parts info_byte; exact ⟨i0, hi, h0, h1, h2⟩, rfl, by decide⟩
theorem byts_append (a b : List Nat) : byts (a ++ b) = byts a ++ byts b := by simp [byts]
theorem byts_one (l : List Nat) : ∀ u ∈ byts l, u.oneCell' = true := by simp [byts, Value.oneCell']
theorem byts_take (l : List Nat) (n : Nat) : (byts l).take n = byts (l.take n) := by simp [byts]
theorem byts_set (l : List Nat) (i x : Nat) : (byts l).set i (.int .u8 (x : Int)) = byts (l.set i x) := by simp [byts, List.map_set]
theorem own_slb {w : World} {B n c : Nat} {a : Option Addr} {l : List Nat} (h : w.ownsRow B 5 1 (.slice a n c) n (byts l)) : SlB w a n c l := own_slc h
theorem SlB.len {w : World} {a : Option Addr} {n cap : Nat} {l : List Nat} (h : SlB w a n cap l) : l.length = n := by
  have := SlC.hlen h
  rw [byts_length, Nat.mul_one] at this; exact this
theorem SlB.below {w w' : World} {a : Option Addr} {n cap : Nat} {l : List Nat} (h : SlB w a n cap l) (hb : Below w.heap.size w w') : SlB w' a n cap l := SlC.below h hb
theorem byte_cell {w : World} {a : Option Addr} {n cap : Nat} {l : List Nat} (h : SlB w a n cap l) (i : Nat) (hi : i < n) : ∃ b off, a = some ⟨b, off, none⟩ ∧ w.cell? ⟨b, off + i, none⟩ = some (.int .u8 ((l.getD i 0 : Nat) : Int)) := by
  have hl := h.len
  obtain ⟨b, off, ha, hc⟩ := h.at i (by omega)
  exact ⟨b, off, ha, by rw [hc, getD_at _ _ (by omega)]⟩
/-- A slice from place k on. -/
theorem SlB.drop {w : World} {b off n cap k : Nat} {l : List Nat} (h : SlB w (some ⟨b, off, none⟩) n cap l) (hk : k ≤ n) : SlB w (some ⟨b, off + k, none⟩) (n - k) (cap - k) (l.drop k) := by
  have hl := h.len
  refine ⟨by rw [byts_length, List.length_drop]; omega, by have := SlC.le h; omega, by have := SlC.capm h; omega, (fun h => by cases h), fun i hi => ?_⟩
  rw [byts_length, List.length_drop] at hi
  obtain ⟨b', off', e, hc⟩ := h.at (k + i) (by omega)
  cases e
  refine ⟨b, off + k, rfl, ?_⟩
  rw [show off + k + i = off + (k + i) by omega, hc]
  simp [byts]
/-- A row that is a's, or lies in a block that was made since. -/
def Since (w : World) (a ra : Option Addr) : Prop := blk ra = blk a ∨ ∀ k, blk ra = some k → w.heap.size ≤ k
theorem Since.refl (w : World) (a : Option Addr) : Since w a a := .inl rfl
theorem Since.next {w wr : World} {a ra ra' : Option Addr} (h : Since w a ra) (hle : w.heap.size ≤ wr.heap.size) (hn : NewOr wr ra ra') : Since w a ra' := by
  unfold Since at *
  rcases hn with e | ⟨g, e, hg⟩
  · rw [e]; exact h
  · refine .inr fun k hk => ?_
    rw [e] at hk
    cases hk
    omega
theorem grown_since {w wr w' : World} {a ra : Option Addr} (h : w.grownBy wr (blk a)) (hs : Since w a ra) (k : wr.grownBy w' (blk ra)) : w.grownBy w' (blk a) :=
  ⟨k.os.trans h.os, k.tape.trans h.tape, k.output.trans h.output, Nat.le_trans h.size k.size, fun i hi hr => (k.block i (Nat.lt_of_lt_of_le hi h.size) (fun e => by
    rcases hs with hs | hs
    · rw [hs] at e; exact hr e
    · have := hs i e.symm; omega)).trans (h.block i hi hr)⟩
theorem u8w (a : Nat) (h : a < 256) : IntKind.u8.wrap (a : Int) = (a : Int) := by rw [IntKind.wrap_u8']; omega

/-- 'append(s, x..)' where s has no room left: whoever owns it. -/
theorem wpList_pushFull {P : Program} {t e : TypeId} {size bytes : Nat} {z : Value} (T : ElemTy P t e size bytes z)
    {ops : Array Oper} {rest : List Oper} {o : Oper} {a : Act} {Q : Exit → Act → World → Prop} {w : World} (hgd : o.guard = none) (s x : Operand)
    (ho : o.op = .call { callee := .builtin .append, args := #[s, x], argTypes := #[t, t] })
    (B : Nat) (sa : Option Addr) (n : Nat) (xs : List Value) (hs : a.eval s = .slice sa n n) (hsl : SlC w sa n n size xs)
    (m : Nat) (cs : Array Value) (hx : a.eval x = .slice (some ⟨w.heap.size, 0, none⟩) m m) (hl : cs.size = m * size) (h1 : ∀ u ∈ cs.toList, u.oneCell' = true) (hm : 0 < m)
    (hbytes : (n + m) * bytes ≤ 140737488355328) (hbp : 0 < bytes) (hB : B ≤ w.heap.size)
    (h : ∀ sa' cap' w', w'.ownsRow B e size (.slice sa' (n + m) cap') (n + m) (xs ++ cs.toList) → Below B w w' → wpList P ops Q rest (a.put o.dst (.slice sa' (n + m) cap')) w') :
    wpList P ops Q (o :: rest) a (w.alloc (.cells cs e)) := by
  obtain ⟨i, hi, hz, hsz, hby⟩ := T.info
  have hnm : n + m ≤ maxLen := by
    have : n + m ≤ (n + m) * bytes := Nat.le_mul_of_pos_right _ hbp
    simp only [maxLen]; omega
  have hba : Below w.heap.size w (w.alloc (.cells cs e)) := below_alloc (Nat.le_refl _) _
  have hsl2 := hsl.below hba
  refine wpList_append_grows (w.alloc (.cells cs e)) hgd s x t ho e i z size bytes T.und hi hz hsz hby T.zs T.pos sa n n xs hs (fun h => by have := hsl2.nil h; omega) hsl.hlen ?_ ⟨w.heap.size, 0, none⟩ m m cs.toList hx (by simpa using hl) (cells_new w cs e) h1 (by omega) hnm hbytes ?_
  · intro b hb
    subst hb
    exact hsl2.news
  · intro v' w' hown' hg
    have hv : ∃ sa' cap', v' = .slice sa' (n + m) cap' := by
      rcases hown'.2 with ⟨h, h0⟩ | ⟨g, cap, cur, hv, hgs, _⟩
      · omega
      · exact ⟨_, _, hv⟩
    obtain ⟨sa', cap', rfl⟩ := hv
    refine h sa' cap' w' (own_base hown' (by simp; omega)) ((hba.mono hB).trans (grown_below hg (by simp; omega) (fun k hk => by cases hk)))

end Go.Proofs.Ytmfmknpkeniifaa
