/- klee.Check: rectangles that are good. -/
import Derived.Test.YtlmdlholmlbcbaaKlP
import Derived.Test.YtlmdlholmlbcbaaFlat
import Derived.Shelf.Abstract
namespace Go.Proofs.Ytlmdlholmlbcbaa
set_option linter.unusedVariables false
open Go.RowKit
open Pick (Rc Boxed)

def rcL (r : Rc) : List Value := [.int .i64 r.x0, .int .i64 r.y0, .int .i64 r.x1, .int .i64 r.y1]
theorem rcL_len (r : Rc) : (rcL r).length = 4 := rfl
structure RcOk (r : Rc) : Prop where
  a : -1000 ≤ r.x0 ∧ r.x0 ≤ 1000
  b : -1000 ≤ r.x1 ∧ r.x1 ≤ 1000
  c : -1000 ≤ r.y0 ∧ r.y0 ≤ 1000
  d : -1000 ≤ r.y1 ∧ r.y1 ≤ 1000
  e : r.x0 ≤ r.x1
  f : r.y0 ≤ r.y1

theorem knear_any (x : Int) (w : World) (h1 : -1000 ≤ x) (h2 : x ≤ 1000) :
    Calls Try.prog 150 #[.int .i64 x] w fun e w' => e = .returned (.bool true) ∧ w = w' := by
  have h1' : decide (-1048576 ≤ x) = true := decide_eq_true (by omega)
  have h2' : decide (x ≤ 1048576) = true := decide_eq_true (by omega)
  go_enter Try.func150, Try.ntmps150
  go_wp2
  go_ret
  exact ⟨rfl, rfl⟩

set_option maxHeartbeats 1000000 in
theorem kodd_any (r : Rc) (w : World) (h : RcOk r) :
    Calls Try.prog 108 #[.agg #[.int .i64 r.x0, .int .i64 r.y0, .int .i64 r.x1, .int .i64 r.y1]] w fun e w' => e = .returned (.bool false) ∧ w.alloc (.cells #[.int .i64 r.x0, .int .i64 r.y0, .int .i64 r.x1, .int .i64 r.y1] 65) = w' := by
  obtain ⟨x0, y0, x1, y1⟩ := r
  obtain ⟨⟨a1, a2⟩, ⟨b1, b2⟩, ⟨c1, c2⟩, ⟨d1, d2⟩, e, f⟩ := h
  dsimp only at *
  have C1 := Kp.mk (fun W => knear_any x0 W a1 a2)
  have C2 := Kp.mk (fun W => knear_any x1 W b1 b2)
  have C3 := Kp.mk (fun W => knear_any y0 W c1 c2)
  have C4 := Kp.mk (fun W => knear_any y1 W d1 d2)
  have t1 : decide (x1 < x0) = false := decide_eq_false (by omega)
  have t2 : decide (y1 < y0) = false := decide_eq_false (by omega)
  have t3 : ¬ (x1 < x0) := by omega
  have t4 : ¬ (y1 < y0) := by omega
  clear a1 a2 b1 b2 c1 c2 d1 d2 e f
  go_enter Try.func108, Try.ntmps108
  go_wp2_with (go_at_call 150; (first | (with_reducible refine (C1.out _).mono ?_) | (with_reducible refine (C2.out _).mono ?_) | (with_reducible refine (C3.out _).mono ?_) | (with_reducible refine (C4.out _).mono ?_)); rintro e w' ⟨rfl, rfl⟩)
  go_ret
  exact ⟨by simp, rfl⟩

set_option maxHeartbeats 1000000 in
theorem knoOdd_any (a : Option Addr) (cap n : Nat) (L : List Rc) (w : World) (h : SlF rcL 4 w a n cap L) (hn : n ≤ 1000000) (hN : ∀ p ∈ L, RcOk p) :
    Calls Try.prog 149 #[.slice a n cap, .func (.func 108) #[] #[]] w fun e w' => e = .returned (.int .i64 (-1)) ∧ Kp (Below w.heap.size w w') := by
  have HLn := Kp.mk (h.len rcL_len (by omega))
  have H := Kp.mk h
  have HN := Kp.mk hN
  have eg : ∀ args w, (callFunc 108 args).run Try.prog w = .ok (.enter 108 args) w := enters_of Try.func108 (by kernel_rfl) rfl
  clear h hN
  go_enter Try.func149, Try.ntmps149
  go_wp2
  go_loopw [8] (fun i wr => ∃ k : Nat, k ≤ n ∧ i = .int .i64 k ∧ Kp (Below w.heap.size w wr)) (fun i _ => n - (intOf i).toNat)
  case atStart => exact ⟨0, Nat.zero_le _, rfl, ⟨Below.refl _ _⟩⟩
  case round =>
    obtain ⟨k, hk, rfl, HB⟩ := hrel
    by_cases hlt : k < n
    · obtain ⟨b, off, rfl, hbw, co⟩ := (H.out.below HB.out).at rcL_len (by omega) k (by rw [HLn.out]; exact hlt)
      have hm := HN.out _ (List.getElem_mem (show k < L.length by rw [HLn.out]; exact hlt))
      generalize L[k]'(by rw [HLn.out]; exact hlt) = p at *
      have C := Kp.mk (kodd_any p wr hm)
      have o0 : wr.cell? ⟨b, off + k * 4, none⟩ = some (.int .i64 p.x0) := co 0 (by omega)
      have o1 : wr.cell? ⟨b, off + k * 4 + 1, none⟩ = some (.int .i64 p.y0) := co 1 (by omega)
      have o2 : wr.cell? ⟨b, off + k * 4 + 2, none⟩ = some (.int .i64 p.x1) := co 2 (by omega)
      have o3 : wr.cell? ⟨b, off + k * 4 + 3, none⟩ = some (.int .i64 p.y1) := co 3 (by omega)
      clear co hm
      go_wp2_with (go_at_fn 108; refine C.out.mono ?_; rintro e w' ⟨rfl, rfl⟩)
      have HB2 := Kp.mk (HB.out.alloc (by exact HB.out.size) (.cells #[.int .i64 p.x0, .int .i64 p.y0, .int .i64 p.x1, .int .i64 p.y1] 65))
      go_roundw
      case rel => exact ⟨k + 1, by omega, by go_num, HB2⟩
      case measure => simp [intOf]; omega
    · go_wp2
      go_ret
      exact ⟨rfl, HB⟩

theorem knoneOdd_any (a : Option Addr) (cap n : Nat) (L : List Rc) (w : World) (h : SlF rcL 4 w a n cap L) (hn : n ≤ 1000000) (hN : ∀ p ∈ L, RcOk p) :
    Calls Try.prog 107 #[.slice a n cap, .func (.func 108) #[] #[]] w fun e w' => e = .returned (.bool false) ∧ Kp (Below w.heap.size w w') := by
  have C := Kp.mk (knoOdd_any a cap n L w h hn hN)
  clear h hN
  go_enter Try.func107, Try.ntmps107
  go_wp2_with fail
  refine C.out.mono ?_
  rintro e w1 ⟨rfl, HB⟩
  go_wp2
  go_ret
  exact ⟨rfl, HB⟩

theorem kcheck_any (a : Option Addr) (cap n : Nat) (L : List Rc) (w : World) (h : SlF rcL 4 w a n cap L) (hn : n ≤ 40) (hN : ∀ p ∈ L, RcOk p) :
    Calls Try.prog 70 #[.slice a n cap] w fun e w' => e = .returned (.int .i64 0) ∧ Kp (Below w.heap.size w w') := by
  have C := Kp.mk (knoneOdd_any a cap n L w h (by omega) hN)
  have hn' : ¬ (40 < (n : Int)) := by omega
  clear h hN
  go_enter Try.func70, Try.ntmps70
  go_wp2_with fail
  refine C.out.mono ?_
  rintro e w1 ⟨rfl, HB⟩
  go_wp2
  go_ret
  exact ⟨rfl, HB⟩

end Go.Proofs.Ytlmdlholmlbcbaa
