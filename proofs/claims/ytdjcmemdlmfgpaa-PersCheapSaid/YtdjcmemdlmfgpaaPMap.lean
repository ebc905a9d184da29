/- A map whose keys are pointers to nodes: it is asked and grows, by hand. -/
import Derived.Test.YtdjcmemdlmfgpaaPersY
import Derived.LaidEqlPtr
import Derived.MapKept
namespace Go.Proofs.Ytdjcmemdlmfgpaa
set_option linter.unusedVariables false
open Go.RowKit

def pkey (b : Nat) : Value := .pointer (some ⟨b, 0, none⟩)
def IsCells (w : World) (b : Nat) : Prop := ∃ cs t, w.heap[b]? = some (.cells cs t (0, 0))
/-- A set of nodes as a map. -/
structure PMap (w : World) (mb : Nat) (K : List Nat) : Prop where
  at_ : ∃ es clock, w.heap[mb]? = some (.map es clock) ∧ es.toList.map (·.key) = K.map pkey ∧ ∀ e ∈ es.toList, e.val = .agg #[]
  cells : ∀ b ∈ K, IsCells w b

theorem run_equal_ptr {w : World} {k b : Nat} (hk : IsCells w k) (hb : IsCells w b) : (Op.equal 42 (pkey k) (pkey b)).run Try.prog w = .ok (decide (k = b)) w := by
  obtain ⟨c1, t1, h1⟩ := hk
  obtain ⟨c2, t2, h2⟩ := hb
  obtain ⟨j, hj, hsz⟩ : ∃ j, Try.prog.info? 52 = some j ∧ j.size = 3 := by
    have h : (Try.prog.info? 52).map (fun i => i.size) = some 3 := by kernel_rfl
    cases hi : Try.prog.info? 52 with
    | none => rw [hi] at h; cases h
    | some j => rw [hi] at h; exact ⟨j, rfl, by simpa using h⟩
  by_cases e : k = b
  · subst e
    have h : ∀ d : Nat, (Op.equalIn (d + 1) 42 (pkey k) (pkey k)).run Try.prog w = .ok true w := fun d => by
      simp [pkey, Op.equalIn, run_underlying Try.underlying42, sizeOf, typeInfo, hj, run_sameAddr_same]
    simp only [Op.equal, Op.maxDepth]
    rw [h 9999]; simp
  · have h : ∀ d : Nat, (Op.equalIn (d + 1) 42 (pkey k) (pkey b)).run Try.prog w = .ok false w := fun d => by
      have hne : (⟨k, 0, none⟩ : Addr) ≠ ⟨b, 0, none⟩ := fun h => e (congrArg Addr.block h)
      simp [pkey, Op.equalIn, run_underlying Try.underlying42, sizeOf, typeInfo, hj, hsz, run_sameAddr_other w hne h1 h2]
    simp only [Op.equal, Op.maxDepth]
    rw [h 9999]; simp [e]

theorem run_asking {w : World} {k : Nat} (hk : IsCells w k) : ∀ (es : List MapEntry) (K : List Nat) (i : Nat), es.map (·.key) = K.map pkey → (∀ e ∈ es, e.val = .agg #[]) → (∀ b ∈ K, IsCells w b) →
    (k ∉ K → (Instr.findAsking 42 (pkey k) es i).run Try.prog w = .ok none w) ∧ (k ∈ K → ∃ j, (Instr.findAsking 42 (pkey k) es i).run Try.prog w = .ok (some (j, .agg #[])) w)
  | [], K, i, h1, h2, h3 => by
    have : K = [] := by simp at h1; exact h1
    subst this
    exact ⟨fun _ => rfl, fun h => absurd h (by simp)⟩
  | e :: es, [], i, h1, h2, h3 => by simp at h1
  | e :: es, b :: K, i, h1, h2, h3 => by
    simp only [List.map_cons, List.cons.injEq] at h1
    obtain ⟨he, h1⟩ := h1
    have heq := run_equal_ptr hk (h3 b (by simp))
    obtain ⟨i1, i2⟩ := run_asking hk es K (i + 1) h1 (fun e he => h2 e (by simp [he])) (fun b hb => h3 b (by simp [hb]))
    unfold Instr.findAsking
    simp only [Sem.run_bind, he, heq, Result.andThen_ok]
    by_cases hkb : k = b
    · subst hkb
      refine ⟨fun h => absurd (by simp) h, fun _ => ⟨i, ?_⟩⟩
      simp [h2 e (by simp)]
    · simp only [hkb, decide_false, Bool.false_eq_true, if_false]
      exact ⟨fun h => i1 (fun hc => h (by simp [hc])), fun h => i2 (by simpa [hkb] using h)⟩

theorem run_findKey {w : World} {k : Nat} (hk : IsCells w k) (es : List MapEntry) (K : List Nat) (h1 : es.map (·.key) = K.map pkey) (h2 : ∀ e ∈ es, e.val = .agg #[]) (h3 : ∀ b ∈ K, IsCells w b) :
    (k ∉ K → (Instr.findKey 42 (pkey k) es).run Try.prog w = .ok none w) ∧ (k ∈ K → ∃ j, (Instr.findKey 42 (pkey k) es).run Try.prog w = .ok (some (j, .agg #[])) w) := by
  have ha := run_asking hk es K 0 h1 h2 h3
  cases es with
  | nil =>
    have : K = [] := by simpa using h1.symm
    subst this
    refine ⟨fun _ => ?_, fun h => absurd h (by simp)⟩
    simp [Instr.findKey, Instr.findNow, run_underlying Try.underlying42]
  | cons e es =>
    have e1 : (Instr.findKey 42 (pkey k) (e :: es)).run Try.prog w = (Instr.findAsking 42 (pkey k) (e :: es) 0).run Try.prog w := by
      simp [Instr.findKey, Instr.findNow, run_underlying Try.underlying42, Instr.sameNow]
    rw [e1]
    exact ha

theorem run_check (b : Bool) (n k : Nat) (w : World) : (Instr.checkKey b (n + 1) 42 (pkey k)).run Try.prog w = .ok () w := by
  simp [Instr.checkKey, pkey, run_underlying Try.underlying42]
theorem run_look {w : World} {mb k : Nat} {K : List Nat} (h : PMap w mb K) (hk : IsCells w k) : (Instr.lookup 41 (.map (some mb)) (pkey k) true).run Try.prog w = .ok (.tuple #[.agg #[], .bool (decide (k ∈ K))]) w := by
  obtain ⟨es, clock, hb, h1, h2⟩ := h.at_
  obtain ⟨f1, f2⟩ := run_findKey hk es.toList K h1 h2 h.cells
  have hck : ∀ b, (Instr.checkKey b 10000 42 (pkey k)).run Try.prog w = .ok () w := fun b => run_check b 9999 k w
  unfold Instr.lookup
  by_cases hin : k ∈ K
  · obtain ⟨j, hj⟩ := f2 hin
    simp [run_underlying Try.underlying41, MapKept.run_getObj_map hb, hck, hj, Result.andThen, hin]
  · have hj := f1 hin
    have hz : (zeroValue 48).run Try.prog w = .ok (.agg #[]) w := by kernel_rfl
    simp [run_underlying Try.underlying41, MapKept.run_getObj_map hb, hck, hj, Result.andThen, hin, hz]

theorem run_put {w : World} {mb k : Nat} {K : List Nat} (h : PMap w mb K) (hk : IsCells w k) (hin : k ∉ K) : ∃ w', (Instr.mapUpdate 41 (.map (some mb)) (pkey k) (.agg #[])).run Try.prog w = .ok () w' ∧ PMap w' mb (K ++ [k]) ∧ w.grownBy w' (some mb) := by
  obtain ⟨es, clock, hb, h1, h2⟩ := h.at_
  obtain ⟨f1, f2⟩ := run_findKey hk es.toList K h1 h2 h.cells
  have hck : ∀ b, (Instr.checkKey b 10000 42 (pkey k)).run Try.prog w = .ok () w := fun b => run_check b 9999 k w
  have hj := f1 hin
  have hmb : ∀ b, IsCells w b → b ≠ mb := fun b ⟨cs, t, hc⟩ e => by subst e; rw [hb] at hc; cases hc
  refine ⟨{ w with heap := w.heap.setIfInBounds mb (.map (es.push { key := pkey k, val := .agg #[], born := clock }) (clock + 1)) }, ?_, ?_, ?_⟩
  · unfold Instr.mapUpdate
    simp [run_underlying Try.underlying41, MapKept.run_getObj_map hb, MapKept.run_setObj_map _ hb, hck, hj, Result.andThen]
  · refine ⟨⟨es.push { key := pkey k, val := .agg #[], born := clock }, clock + 1, ?_, ?_, ?_⟩, ?_⟩
    · have hlt : mb < w.heap.size := (Array.getElem?_eq_some_iff.1 hb).1
      simp [hlt]
    · simp [h1]
    · intro e he
      simp only [Array.toList_push, List.mem_append, List.mem_singleton] at he
      rcases he with he | rfl
      · exact h2 e he
      · rfl
    · intro b hb2
      have hc : IsCells w b := by
        rcases List.mem_append.1 hb2 with h3 | h3
        · exact h.cells b h3
        · rw [List.mem_singleton.1 h3]; exact hk
      have hne := hmb b hc
      obtain ⟨cs, t, hc⟩ := hc
      exact ⟨cs, t, by rw [← hc]; simp [Ne.symm hne]⟩
  · exact ⟨rfl, rfl, rfl, by simp, fun i hi hne => by
      have : mb ≠ i := fun e => hne (by rw [e])
      simp [this]⟩

end Go.Proofs.Ytdjcmemdlmfgpaa
