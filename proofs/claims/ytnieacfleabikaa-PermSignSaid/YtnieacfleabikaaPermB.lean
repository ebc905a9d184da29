/- Package perm at orders that may be: Check, Inverse, Then. -/
import Derived.Test.YtnieacfleabikaaPerm
namespace Go.Proofs.Ytnieacfleabikaa
set_option linter.unusedVariables false
open Go.RowKit

/-- An order of so many things. -/
def Order (l : List Int) : Prop := l.Nodup ∧ ∀ x ∈ l, 0 ≤ x ∧ x < l.length

theorem info_mark : (Try.prog.info? 86).map (fun i => (i.zero, i.size, i.bytes)) = some (some (.agg #[.bool false]), 1, 1) := by kernel_rfl
theorem tMarks : ElemTy Try.prog 85 86 1 1 (.agg #[.bool false]) :=
  ⟨Try.underlying85, by obtain ⟨i0, hi, h0, h1, h2⟩ := info_parts info_mark; exact ⟨i0, hi, h0, h1, h2⟩, rfl, by decide⟩

/-- Which numbers are marked: those of a list. -/
def marks (n : Nat) (l : List Int) : List Value := (List.range n).map fun (j : Nat) => .bool (decide ((j : Int) ∈ l))
theorem marks_length (n : Nat) (l : List Int) : (marks n l).length = n := by simp [marks]
theorem marks_nil (n : Nat) : List.replicate n (.bool false) = marks n [] := by
  apply List.ext_getElem?
  intro i
  by_cases h : i < n <;> simp [marks, h]
theorem marks_set (n : Nat) (l : List Int) (j : Nat) : (marks n l).set j (.bool true) = marks n (l ++ [(j : Int)]) := by
  apply List.ext_getElem?
  intro i
  rw [List.getElem?_set]
  by_cases h : j = i
  · subst h
    by_cases hn : j < n <;> simp [marks, hn]
  · rw [if_neg h]
    by_cases hn : i < n
    · simp [marks, hn]
      intro h'; omega
    · simp [marks, hn]
theorem marks_cell {w : World} {B e g n cap k : Nat} {o : List Int} (h : w.ownsRow B e 1 (.slice (some ⟨g, 0, none⟩) n cap) n (marks n o)) (hk : k < n) :
    w.cell? ⟨g, k, none⟩ = some (.bool (decide ((k : Int) ∈ o))) := by
  rw [h.cellAt k (by omega)]
  simp [marks, hk]

set_option maxHeartbeats 400000 in
theorem check_any (a : Option Addr) (cap : Nat) (l : List Int) (w : World) (h : SlI w a cap l) (hl : l.length ≤ 300) (hp : Order l) :
    Calls Try.prog 37 #[.slice a l.length cap] w (fun e w' => e = .returned (.int .i64 0) ∧ Below w.heap.size w w') := by
  have H := Lib.hid h
  have HP := Lib.hid hp
  clear h hp
  obtain ⟨B, hB⟩ : ∃ B, B = w.heap.size := ⟨_, rfl⟩
  rw [← hB]
  have HB := Lib.hid hB
  clear hB
  go_enter Try.func37, Try.ntmps37
  go_wp2_with (at_make; refine wpList_mk1 tMarks rfl rfl _ _ rfl B l.length rfl rfl ?c1 (by decide) ?c2 ?c3)
  case c1 => omega
  case c2 => rw [HB.out]; exact Nat.le_refl _
  case c3 =>
    intro sa cap1 w1 hown hbel
    rw [marks_nil] at hown
    go_wp2
    go_loopw [14] (fun i wr => ∃ (k : Nat), k ≤ l.length ∧ i = .int .i64 k ∧ wr.ownsRow B 86 1 (.slice sa l.length cap1) l.length (marks l.length (l.take k)) ∧ Below B w wr) (fun i _ => l.length - (intOf i).toNat)
    case atStart => exact ⟨0, Nat.zero_le _, rfl, hown, hbel⟩
    case round =>
      clear hown hbel
      obtain ⟨k, hk, rfl, hown, hbel⟩ := hrel
      have hO := Lib.hid hown
      by_cases hlt : k < l.length
      · obtain ⟨g, rfl, hg, hg2⟩ := own_some hown (by omega)
        clear hown
        obtain ⟨b, off, rfl, cl⟩ := (H.out.below (HB.out ▸ hbel)).at k hlt
        have hx := HP.out.2 l[k] (List.getElem_mem hlt)
        obtain ⟨j, hj⟩ : ∃ j : Nat, l[k] = (j : Int) := ⟨_, (Int.toNat_of_nonneg hx.1).symm⟩
        have hjl : j < l.length := by omega
        have hnew : ¬ (j : Int) ∈ l.take k := by
          intro hm
          obtain ⟨i, hi, he⟩ := List.mem_take_iff_getElem.1 hm
          exact List.pairwise_iff_getElem.1 HP.out.1 i k (by omega) hlt (by omega) (by rw [he, hj])
        have c1 : wr.cell? ⟨g, j, none⟩ = some (.bool false) := by
          rw [marks_cell hO.out hjl, decide_eq_false hnew]
        have f1 : wr.frozen? ⟨g, j, none⟩ = false := hO.out.frozenAt j
        have hst : Hid ((wr.setCell ⟨g, j, none⟩ (.bool true)).ownsRow B 86 1 (.slice (some ⟨g, 0, none⟩) l.length cap1) l.length (marks l.length (l.take (k + 1)))) := by
          have := (hO.out.stored j (.bool true)).1
          rw [marks_set, ← hj, ← List.take_succ_eq_append_getElem hlt] at this
          exact this
        rw [hj] at cl
        have HJ := Lib.hid hj
        clear hj hx hnew
        go_wp2
        go_roundw
        case rel => exact ⟨k + 1, by omega, by go_num, hst.out, hbel.setCell (p := ⟨g, j, none⟩) hg _⟩
        case measure => simp [intOf]; omega
      · go_wp2
        go_ret
        exact ⟨rfl, hbel⟩

end Go.Proofs.Ytnieacfleabikaa
