/- The small functions that many laws call: Picked. -/
import Derived.Test.YtakabjkhcdkkjaaDoorMem
namespace Go.Proofs.YtakabjkhcdkkjaaDoor
set_option linter.unusedVariables false
open Go.RowKit

theorem info_int : (Tryd.prog.info? 3).map (fun i => (i.zero, i.size, i.bytes)) = some (some (.int .i64 0), 1, 8) := by kernel_rfl
theorem tInts : ElemTy Tryd.prog 22 3 1 8 (.int .i64 0) :=
  ⟨Tryd.underlying22, by obtain ⟨i0, hi, h0, h1, h2⟩ := info_parts info_int; exact ⟨i0, hi, h0, h1, h2⟩, rfl, by decide⟩

/-- A list of integers as cells. -/
def ints (l : List Int) : List Value := l.map (.int .i64)
theorem ints_length (l : List Int) : (ints l).length = l.length := by simp [ints]
theorem ints_append (l m : List Int) : ints (l ++ m) = ints l ++ ints m := by simp [ints]
theorem ints_get (l : List Int) (i : Nat) (h : i < (ints l).length) : (ints l)[i] = .int .i64 (l[i]'(by simpa [ints] using h)) := by simp [ints]
theorem ints_one (l : List Int) : ∀ u ∈ ints l, u.oneCell' = true := by simp [ints, Value.oneCell']
theorem ints_inj {l m : List Int} (h : ints l = ints m) : l = m := by
  unfold ints at h
  exact (List.map_inj_right (by intro a b h; simpa using h)).1 h
theorem ints_set (l : List Int) (i : Nat) (x : Int) : (ints l).set i (.int .i64 x) = ints (l.set i x) := by simp [ints, List.map_set]

/-- A slice of int that reads as l. -/
def SlI (w : World) (a : Option Addr) (cap : Nat) (l : List Int) : Prop := SlC w a l.length cap 1 (ints l)
/-- A slice of int of the call's own. -/
def OwnI (B : Nat) (w : World) (a : Option Addr) (cap : Nat) (l : List Int) : Prop := w.ownsRow B 3 1 (.slice a l.length cap) l.length (ints l)

theorem SlI.at {w : World} {a : Option Addr} {cap : Nat} {l : List Int} (h : SlI w a cap l) (i : Nat) (hi : i < l.length) : ∃ b off, a = some ⟨b, off, none⟩ ∧ w.cell? ⟨b, off + i, none⟩ = some (.int .i64 l[i]) := by
  obtain ⟨b, off, ha, hc⟩ := SlC.cell h i (by rw [ints_length]; exact hi)
  exact ⟨b, off, ha, by rw [hc, ints_get]⟩
theorem SlI.below {w w' : World} {a : Option Addr} {cap : Nat} {l : List Int} (h : SlI w a cap l) (hb : Below w.heap.size w w') : SlI w' a cap l := SlC.below h hb
theorem OwnI.below {B : Nat} {w w' : World} {a : Option Addr} {cap : Nat} {l : List Int} (h : OwnI B w a cap l) (hb : Below w.heap.size w w') : OwnI B w' a cap l := own_below h hb
theorem OwnI.sl {B : Nat} {w : World} {a : Option Addr} {cap : Nat} {l : List Int} (h : OwnI B w a cap l) : SlI w a cap l := own_slc h
theorem OwnI.base {B B' : Nat} {w : World} {a : Option Addr} {cap : Nat} {l : List Int} (h : OwnI B' w a cap l) (hB : B ≤ B') : OwnI B w a cap l := own_base h hB
theorem OwnI.nil (B : Nat) (w : World) : OwnI B w none 0 [] := World.ownsRow_nil w B _ 1

/-- What a call hands back: a slice of int of its own, nothing old turned. -/
def RetI (w : World) (l : List Int) (e : Ending) (w' : World) : Prop := ∃ a cap, e = .returned (.slice a l.length cap) ∧ OwnI w.heap.size w' a cap l ∧ Below w.heap.size w w'
/-- The same, its length by another name, and only to be read. -/
def RetS (w : World) (n : Nat) (l : List Int) (e : Ending) (w' : World) : Prop := ∃ a cap, e = .returned (.slice a n cap) ∧ SlI w' a cap l ∧ Below w.heap.size w w'

theorem sl_len {w : World} {a : Option Addr} {c n : Nat} {l : List Int} (h : SlC w a n c 1 (ints l)) (hn : l.length = n) : SlI w a c l := by subst hn; exact h
theorem own_sl_len {w : World} {B n c : Nat} {a : Option Addr} {l : List Int} (h : w.ownsRow B 3 1 (.slice a n c) n (ints l)) (hn : l.length = n) : SlI w a c l := by subst hn; exact own_slc h

/-- Several slices of int that read as lists. -/
def Facts (w : World) (L : List (Option Addr × Nat × List Int)) : Prop := ∀ x ∈ L, SlI w x.1 x.2.1 x.2.2
theorem Facts.below {w w' : World} {L : List (Option Addr × Nat × List Int)} (h : Facts w L) (hb : Below w.heap.size w w') : Facts w' L := fun x hx => (h x hx).below hb
theorem Facts.cons {w : World} {L : List (Option Addr × Nat × List Int)} {a : Option Addr} {c : Nat} {l : List Int} (h : SlI w a c l) (hL : Facts w L) : Facts w ((a, c, l) :: L) := by
  intro x hx
  rcases List.mem_cons.1 hx with rfl | hx
  · exact h
  · exact hL x hx
theorem Facts.nil (w : World) : Facts w [] := fun _ h => by cases h
theorem Facts.get {w : World} {L : List (Option Addr × Nat × List Int)} (h : Facts w L) (i : Nat) {a : Option Addr} {c : Nat} {l : List Int} (hi : L[i]? = some (a, c, l)) : SlI w a c l := h _ (List.mem_of_getElem? hi)

/-- What a law is told of a slice of integers that came in. -/
def IsRow (k : IntKind) (w : World) (a : Option Addr) (len cap : Nat) (zs : List Int) : Prop :=
  (a = none ∧ len = 0 ∧ cap = 0 ∧ zs = []) ∨
  ∃ x, a = some x ∧ len ≤ cap ∧ cap ≤ maxLen ∧ zs.length = cap ∧ (∀ i, i < zs.length → w.cell? (x.add i) = some (.int k (zs.getD i 0))) ∧ ∀ n ∈ zs, (Lit.int k n).wf = true

/-- What came in reads as a list. -/
theorem row_slc {k : IntKind} {w : World} {a : Option Addr} {len cap : Nat} {zs : List Int} (h : IsRow k w a len cap zs) :
    ∃ l : List Int, len = l.length ∧ SlC w a l.length cap 1 (l.map (.int k)) ∧ (∀ x ∈ l, (Lit.int k x).wf = true) ∧ l.length ≤ maxLen := by
  rcases h with ⟨rfl, rfl, rfl, rfl⟩ | ⟨x, rfl, hl, hm, hz, hc, hw⟩
  · exact ⟨[], rfl, ⟨rfl, Nat.le_refl _, Nat.zero_le _, (fun _ => rfl), fun i hi => by simp at hi⟩, by simp, Nat.zero_le _⟩
  · have hlen : len = (zs.take len).length := by simp; omega
    refine ⟨zs.take len, hlen, ⟨by simp, by omega, hm, (fun h => by cases h), fun i hi => ?_⟩, fun y hy => hw y (List.mem_of_mem_take hy), by omega⟩
    have hi' : i < len ∧ i < zs.length := by simp only [List.length_map, List.length_take] at hi; omega
    have h1 := hc i hi'.2
    obtain ⟨b, off, spot⟩ := x
    have hspot : spot = none := by
      have := World.cell?_spot (hc 0 (by omega))
      simpa [Addr.add] using this
    subst hspot
    rw [add_none] at h1
    refine ⟨b, off, rfl, ?_⟩
    rw [h1]
    simp [hi'.2]
theorem row_sl {w : World} {a : Option Addr} {len cap : Nat} {zs : List Int} (h : IsRow .i64 w a len cap zs) :
    ∃ l : List Int, len = l.length ∧ SlI w a cap l ∧ (∀ x ∈ l, (Lit.int .i64 x).wf = true) ∧ l.length ≤ maxLen := row_slc h

def pick (a n : Int) : Int := if a.tmod n < 0 then a.tmod n + n else a.tmod n
theorem tmod_bd (a n : Int) (h : 0 < n) : -n < a.tmod n ∧ a.tmod n < n :=
  ⟨by have := Int.lt_tmod_of_pos a h; omega, Int.tmod_lt_of_pos a h⟩
theorem pick_bd (a n : Int) (h : 0 < n) : 0 ≤ pick a n ∧ pick a n < n := by
  have := tmod_bd a n h
  unfold pick; split <;> omega

theorem wf_bd {x : Int} (h : (Lit.int .i64 x).wf = true) : -9223372036854775808 ≤ x ∧ x ≤ 9223372036854775807 := by
  simpa [Lit.wf, IntKind.min, IntKind.max, IntKind.signed, IntKind.bits] using h
theorem tdiv_bd (x c : Int) (hc : 0 < c) (h1 : -9223372036854775808 ≤ x) (h2 : x ≤ 9223372036854775807) : -9223372036854775808 ≤ x.tdiv c ∧ x.tdiv c ≤ 9223372036854775807 := by
  by_cases h : 0 ≤ x
  · rw [Int.tdiv_eq_ediv_of_nonneg h]
    have h3 : x / c ≤ x := Int.ediv_le_self c h
    have h4 : 0 ≤ x / c := Int.ediv_nonneg h (by omega)
    omega
  · have h3 : x.tdiv c = -((-x) / c) := by
      rw [← Int.tdiv_eq_ediv_of_nonneg (show 0 ≤ -x by omega), Int.neg_tdiv, Int.neg_neg]
    rw [h3]
    have h4 : (-x) / c ≤ -x := Int.ediv_le_self c (by omega)
    have h5 : 0 ≤ (-x) / c := Int.ediv_nonneg (by omega) (by omega)
    omega
theorem ret_int {k : IntKind} {a b : Int} (h : a = b) : Ending.returned (.int k a) = .returned (.int k b) := by rw [h]
theorem ret_bool {a b : Bool} (h : a = b) : Ending.returned (.bool a) = .returned (.bool b) := by rw [h]

set_option maxHeartbeats 400000 in
theorem picked_any (a n : Int) (w : World) (h0 : 0 < n) (h1 : n ≤ 9223372036854775807) (_ : -9223372036854775808 ≤ a) (_ : a ≤ 9223372036854775807) :
    Calls Tryd.prog 5 #[.int .i64 a, .int .i64 n] w fun e w' => e = .returned (.int .i64 (pick a n)) ∧ w = w' := by
  have hb := tmod_bd a n h0
  obtain ⟨hb1, hb2⟩ := hb
  by_cases h : a.tmod n < 0
  · have hp := Lib.hid (show pick a n = a.tmod n + n by rw [pick, if_pos h])
    go_enter Tryd.func5, Tryd.ntmps5
    go_wp2
    go_ret
    exact ⟨ret_int hp.out.symm, rfl⟩
  · have hp := Lib.hid (show pick a n = a.tmod n by rw [pick, if_neg h])
    go_enter Tryd.func5, Tryd.ntmps5
    go_wp2
    go_ret
    exact ⟨ret_int hp.out.symm, rfl⟩

theorem drewN_below {B : Nat} {w : World} (n : Nat) : Below B w (w.drewN n) := below_drewN (Below.refl B w) n

end Go.Proofs.YtakabjkhcdkkjaaDoor
