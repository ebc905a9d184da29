/- Package fano: width, Make. -/
import Derived.Test.YtjicgndahpffbaaFanP
import Derived.Test.YtjicgndahpffbaaFanH
import Derived.Test.YtjicgndahpffbaaBool
import Derived.Test.YtjicgndahpffbaaPackA
import Derived.Test.YtjicgndahpffbaaTwo
import Derived.Test.YtjicgndahpffbaaSel
import Derived.Test.YtjicgndahpffbaaBit
namespace Go.Proofs.Ytjicgndahpffbaa
set_option linter.unusedVariables false
open Go.RowKit

set_option maxRecDepth 100000 in
set_option maxHeartbeats 1000000 in
theorem width_any (bound n : Nat) (w : World) (hb : bound ≤ 1048576) (hn : n ≤ 300) :
    Calls Try.prog 58 #[.int .i64 bound, .int .i64 n] w fun e w' => e = .returned (.int .i64 (wdN bound n)) ∧ w = w' := by
  have HW := Kp.mk (show wFrom bound n 30 0 = wdN bound n from by unfold wdN; rfl)
  generalize wdN bound n = R at *
  go_enter Try.func58, Try.ntmps58
  go_wp2
  go_loopw [5] (fun i wr => ∃ f k : Nat, k + f = 30 ∧ k ≤ 20 ∧ i = .int .i64 k ∧ wr = w ∧ Kp (wFrom bound n f k = R)) (fun i _ => 30 - (intOf i).toNat)
  case atStart => exact ⟨30, 0, rfl, by omega, rfl, rfl, HW⟩
  case round =>
    obtain ⟨f, k, hkf, hk, rfl, rfl, HF⟩ := hrel
    obtain ⟨f', rfl⟩ : ∃ f', f = f' + 1 := ⟨f - 1, by omega⟩
    have HF2 := HF
    rw [wFrom_succ] at HF2
    obtain ⟨q, hq⟩ : ∃ q, q = k + 1 := ⟨_, rfl⟩
    have e0 : IntKind.i64.wrap ((k : Int) + 1) = (q : Int) := by rw [hq]; exact IntWalk.i64_in _ (by omega)
    rw [← hq] at HF2
    have hp : n * 2 ^ q ≤ 300 * 2 ^ 21 := Nat.mul_le_mul hn (Nat.pow_le_pow_right (by omega) (by omega))
    have ez : (n : Int) * 2 ^ q = ((n * 2 ^ q : Nat) : Int) := by push_cast; rfl
    have e1 : IntKind.i64.wrap ((n : Int) * 2 ^ q) = ((n * 2 ^ q : Nat) : Int) := by rw [ez]; exact IntWalk.i64_in _ (by omega)
    have HQ := Kp.mk hq
    have HLE := Kp.mk (show 0 < n → n * 2 ^ q ≤ bound → q ≤ 20 from fun h0 h => by rw [hq] at h ⊢; exact wFrom_le bound n f' k hb h0 h)
    clear hq ez hp
    generalize n * 2 ^ q = Y at *
    have hq0 : q ≤ 21 := by have := HQ.out; omega
    by_cases h0 : 0 < n
    · by_cases hle : Y ≤ bound
      · have t1 : (Y : Int) ≤ bound := by omega
        have HN := Kp.mk (show wFrom bound n f' q = R from by have := HF2.out; rwa [if_pos ⟨h0, hle⟩] at this)
        have hq20 := HLE.out h0 hle
        go_wp2
        go_roundw
        case rel => exact ⟨f', q, by have := HQ.out; omega, hq20, rfl, trivial, HN⟩
        case measure => simp [intOf]; have := HQ.out; omega
      · have t1 : ¬ (Y : Int) ≤ bound := by omega
        have t2 : decide ((Y : Int) ≤ bound) = false := decide_eq_false t1
        have HN := Kp.mk (show k = R from by have := HF2.out; rwa [if_neg (fun h => hle h.2)] at this)
        go_wp2
        go_ret
        exact ⟨by rw [← HN.out]; rfl, rfl⟩
    · have HN := Kp.mk (show k = R from by have := HF2.out; rwa [if_neg (fun h => h0 h.1)] at this)
      go_wp2
      go_ret
      exact ⟨by rw [← HN.out]; rfl, rfl⟩

/-- The words of an encoded list. -/
def loN (bound : Nat) (l : List Nat) : Nat := packN (wdN bound l.length) (lowL (wdN bound l.length) l) l.length
def hnN (bound : Nat) (l : List Nat) : Nat := if 0 < l.length then bound / 2 ^ wdN bound l.length + l.length + 1 else 0
def hiN (bound : Nat) (l : List Nat) : Nat := bitsN (hiK (wdN bound l.length) (hnN bound l) l l.length) (hnN bound l)
/-- An encoded list in memory. -/
structure IsFan (w : World) (B bound n wd hn : Nat) (la ha : Option Addr) (lc hc : Nat) (l : List Nat) : Prop where
  len : l.length = n
  ewd : wd = wdN bound n
  ehn : hn = hnN bound l
  low : w.ownsRow B 154 1 (.slice la (wordsN n wd) lc) (wordsN n wd) (wds (wordsOf (loN bound l) (wordsN n wd)))
  high : w.ownsRow B 154 1 (.slice ha (bwN hn) hc) (bwN hn) (wds (wordsOf (hiN bound l) (bwN hn)))
theorem IsFan.below {w w' : World} {B bound n wd hn : Nat} {la ha : Option Addr} {lc hc : Nat} {l : List Nat} (h : IsFan w B bound n wd hn la ha lc hc l) (hb : Below w.heap.size w w') : IsFan w' B bound n wd hn la ha lc hc l :=
  ⟨h.len, h.ewd, h.ehn, own_below h.low hb, own_below h.high hb⟩
abbrev fanV (bound n wd hn : Nat) (la ha : Option Addr) (lc hc : Nat) : Value := .agg #[.int .i64 bound, .int .i64 n, .int .i64 wd, .slice la (wordsN n wd) lc, .int .i64 hn, .slice ha (bwN hn) hc]

set_option maxRecDepth 100000 in
set_option maxHeartbeats 2000000 in
theorem fmake_any (a : Option Addr) (cap bound n : Nat) (l : List Nat) (w : World) (h : SlI w a cap (l.map Int.ofNat)) (hl : l.length = n) (hn : n ≤ 300) (hb : bound ≤ 1048576) (hr : Ris l) (hx : ∀ i, i < n → l.getD i 0 ≤ bound) :
    Calls Try.prog 24 #[.int .i64 bound, .slice a n cap] w fun e w' => ∃ wd hn la ha lc hc, e = .returned (.tuple #[fanV bound n wd hn la ha lc hc, .int .i64 0]) ∧ Kp (IsFan w' w.heap.size bound n wd hn la ha lc hc l) ∧ Kp (Below w.heap.size w w') := by
  have H := Kp.mk h
  have HL := Kp.mk hl
  have HR := Kp.mk hr
  have HX := Kp.mk hx
  have hml : (l.map Int.ofNat).length = n := by rw [List.length_map, hl]
  have hgd : ∀ i, i < n → (l.map Int.ofNat).getD i 0 = ((l.getD i 0 : Nat) : Int) := fun i hi => by
    rw [getD_at _ _ (by rw [hml]; exact hi), getD_at _ _ (by rw [hl]; exact hi)]; simp
  have CI := Kp.mk (fun (W : World) (hb : Below w.heap.size w W) => isSorted_any a cap n (l.map Int.ofNat) W (h.below hb) hml (by omega) (fun i hi => by
    rw [hgd i (by omega), hgd (i + 1) hi]
    have := hr i (i + 1) (by omega) (by rw [hl]; exact hi)
    omega))
  have HML := Kp.mk hml
  have t1 : decide ((300 : Int) < n) = false := decide_eq_false (by omega)
  have t1b : decide (300 < n) = false := decide_eq_false (by omega)
  have t2 : decide ((1048576 : Int) < bound) = false := decide_eq_false (by omega)
  have t2b : decide (1048576 < bound) = false := decide_eq_false (by omega)
  have t3 : decide ((bound : Int) < 0) = false := decide_eq_false (by omega)
  by_cases hn0 : n = 0
  · subst hn0
    obtain rfl : l = [] := List.length_eq_zero_iff.1 hl
    have HW0 := Kp.mk (show wdN bound 0 = 0 from wdN_zero bound)
    clear h hl hr hx hml hgd
    go_enter Try.func24, Try.ntmps24
    go_wp2_with fail
    have hal := below_alloc (Nat.le_refl w.heap.size) (.cells #[.int .i64 0, .int .i64 0, .int .i64 0, .slice none 0 0, .int .i64 0, .slice none 0 0] 44)
    have HRB := Kp.mk (Box.new w #[.int .i64 0, .int .i64 0, .int .i64 0, .slice none 0 0, .int .i64 0, .slice none 0 0] 44)
    refine (CI.out _ hal).mono ?_
    rintro e w1 ⟨rfl, hb1⟩
    have HB1 := Kp.mk (hal.trans (hb1.mono (by rw [alloc_size]; omega)))
    have HR1 := Kp.mk (HRB.out.below hb1)
    obtain ⟨r, hr⟩ : ∃ r, r = w.heap.size := ⟨_, rfl⟩
    have HRE := Kp.mk hr
    rw [← hr] at HR1 ⊢
    obtain ⟨B, hB⟩ : ∃ B, B = w1.heap.size := ⟨_, rfl⟩
    have HBE := Kp.mk hB
    have hrB : r < B := by rw [hB]; exact HR1.out.lt
    clear hal hb1 HRB CI hr hB
    go_wp2_with fail
    refine (width_any bound 0 _ hb (by omega)).mono ?_
    rintro e w' ⟨rfl, rfl⟩
    rw [HW0.out]
    have hsB : B ≤ w1.heap.size := Nat.le_of_eq HBE.out
    go_wp2_with (at_make; refine wpList_mk1 tInts rfl rfl _ _ rfl B 0 rfl rfl ?c1 (by decide) hsB ?c2)
    case c1 => omega
    case c2 =>
    intro ka kc w3 hok hbk
    have HK := Kp.mk (show w3.ownsRow B 3 1 (.slice ka 0 kc) 0 (ints []) from hok)
    have hb1r : Below w1.heap.size w1 w3 := by rw [← HBE.out]; exact hbk
    have hBw : B ≤ w3.heap.size := Nat.le_trans hsB hb1r.size
    obtain ⟨wr, rfl⟩ : ∃ wr : World, wr = w3 := ⟨_, rfl⟩
    clear hok hbk
    have HKo := HK
    have HBro := Kp.mk hb1r
    clear HK hb1r hBw
    go_wp2
    go_loopw [71] (fun i w' => i = .int .i64 0 ∧ w' = wr) (fun i _ => 0)
    case atStart => exact ⟨rfl, rfl⟩
    case round =>
      obtain ⟨rfl, rfl⟩ := hrel
      have HK := HKo
      have hb1r := HBro.out
      have hBw : B ≤ wr.heap.size := Nat.le_trans hsB hb1r.size
      have HRR := Kp.mk (HR1.out.below hb1r)
      have HBR := Kp.mk (HB1.out.trans (hb1r.mono HB1.out.size))
      have HBX := Kp.mk (Box.new wr #[.int .i64 bound, .int .i64 0, .int .i64 0, .slice none 0 0, .int .i64 0, .slice none 0 0] 44)
      have hal := below_alloc (Nat.le_refl wr.heap.size) (.cells #[.int .i64 bound, .int .i64 0, .int .i64 0, .slice none 0 0, .int .i64 0, .slice none 0 0] 44)
      have HK4 := Kp.mk (own_below HK.out hal)
      have HR4 := Kp.mk (HRR.out.below hal)
      have HB4 := Kp.mk (HBR.out.trans (hal.mono HBR.out.size))
      obtain ⟨x, hx⟩ : ∃ x, x = wr.heap.size := ⟨_, rfl⟩
      go_upto_region 19 with (fail)
      rw [← hx] at HBX ⊢
      have hxr : r < x := by rw [hx]; exact HRR.out.lt
      have hs4 : B ≤ (wr.alloc (.cells #[.int .i64 bound, .int .i64 0, .int .i64 0, .slice none 0 0, .int .i64 0, .slice none 0 0] 44)).heap.size := by rw [alloc_size]; omega
      have hr4 : r ≤ (wr.alloc (.cells #[.int .i64 bound, .int .i64 0, .int .i64 0, .slice none 0 0, .int .i64 0, .slice none 0 0] 44)).heap.size := by rw [alloc_size]; omega
      clear hal HK HRR HBR hx
      generalize wr.alloc (.cells #[.int .i64 bound, .int .i64 0, .int .i64 0, .slice none 0 0, .int .i64 0, .slice none 0 0] 44) = w4 at *
      go_wp2_with fail
      have hm := make_ok ka kc 0 0 [] w4 (own_sl_len HK4.out rfl) rfl (by omega) (by omega) (fun i hi => by omega)
      unfold PackRet at hm
      refine hm.mono ?_
      clear hm
      rintro e w5 ⟨la, lc, rfl, hlo, hb5⟩
      have b5 := HBX.out.below hb5
      have x1' : w5.cell? ⟨x, 1, none⟩ = some (.int .i64 0) := b5.cell 1 rfl
      have x2' : w5.cell? ⟨x, 2, none⟩ = some (.int .i64 0) := b5.cell 2 rfl
      have x3' : w5.cell? ⟨x, 3, none⟩ = some (.slice none 0 0) := b5.cell 3 rfl
      have y1 := b5.free 1
      have y2 := b5.free 2
      have y3 := b5.free 3
      have HLO5 := Kp.mk hlo
      have HB5 := Kp.mk hb5
      have HBX5 := Kp.mk b5
      clear hlo hb5 b5
      go_wp2_with fail
      have gx := grown_trans (grown_trans (grown_set w5 x 1 (.int .i64 0)) (grown_set _ x 2 (.int .i64 0))) (grown_set _ x 3 (.slice la (wordsN 0 0) lc))
      have HX6 := Kp.mk (show Box (((w5.setCell ⟨x, 1, none⟩ (.int .i64 0)).setCell ⟨x, 2, none⟩ (.int .i64 0)).setCell ⟨x, 3, none⟩ (.slice la (wordsN 0 0) lc)) x #[.int .i64 bound, .int .i64 0, .int .i64 0, .slice la (wordsN 0 0) lc, .int .i64 0, .slice none 0 0] 44 from box_put (box_put (box_put HBX5.out _) _) _)
      have hxs : w4.heap.size ≤ w5.heap.size := HB5.out.size
      have hLO6 := own_keep HLO5.out gx (fun q hq => by simp at hq; subst hq; exact row_box HLO5.out HBX5.out (by decide))
      have hR6 := box_grow (HR4.out.below HB5.out) gx (fun e => by simp at e; omega)
      have hb6 := below_of_grown (B := r) gx (by have := HR4.out.lt; omega) (fun q hq => by simp at hq; omega)
      have HLO6 := Kp.mk hLO6
      have HR6 := Kp.mk hR6
      have HB6 := Kp.mk ((show Below r w w4 from by rw [HRE.out]; exact HB4.out).trans ((HB5.out.mono (by have := HR4.out.lt; omega)).trans hb6))
      have hs6 : w4.heap.size ≤ (((w5.setCell ⟨x, 1, none⟩ (.int .i64 0)).setCell ⟨x, 2, none⟩ (.int .i64 0)).setCell ⟨x, 3, none⟩ (.slice la (wordsN 0 0) lc)).heap.size := by simp only [size_setCell]; exact hxs
      clear gx hLO6 hR6 hb6 HBX5 HLO5 HB5 hxs x1' x2' x3' y1 y2 y3
      generalize ((w5.setCell ⟨x, 1, none⟩ (.int .i64 0)).setCell ⟨x, 2, none⟩ (.int .i64 0)).setCell ⟨x, 3, none⟩ (.slice la (wordsN 0 0) lc) = w6 at *
      refine (bmake_any none 0 0 [] w6 ⟨rfl, Nat.le_refl _, by decide, fun _ => rfl, fun i hi => by simp [bls] at hi⟩ (by omega)).mono ?_
      rintro e w7 ⟨ha, hc, rfl, hhi, hb7⟩
      have HHI := Kp.mk hhi
      have HB7 := Kp.mk hb7
      have HX7 := Kp.mk (HX6.out.below hb7)
      have HR7 := Kp.mk (HR6.out.below hb7)
      have HLO7 := Kp.mk (own_below HLO6.out hb7)
      have z4 := HX7.out.cell 4 rfl
      have z5 := HX7.out.cell 5 rfl
      have f4' := HX7.out.free 4
      have f5' := HX7.out.free 5
      clear hhi hb7 HX6 HR6 HLO6 HK4 HR4 HB4
      go_upto_region 21 with (fail)
      have gx := grown_trans (grown_set w7 x 4 (.int .i64 0)) (grown_set _ x 5 (.slice ha (bwN 0) hc))
      have HX8 := Kp.mk (show Box ((w7.setCell ⟨x, 4, none⟩ (.int .i64 0)).setCell ⟨x, 5, none⟩ (.slice ha (bwN 0) hc)) x #[.int .i64 bound, .int .i64 0, .int .i64 0, .slice la (wordsN 0 0) lc, .int .i64 0, .slice ha (bwN 0) hc] 44 from box_put (box_put HX7.out _) _)
      have HLO8 := Kp.mk (own_keep HLO7.out gx (fun q hq => by simp at hq; subst hq; exact row_box HLO7.out HX7.out (by decide)))
      have HHI8 := Kp.mk (own_keep HHI.out gx (fun q hq => by simp at hq; subst hq; exact row_box HHI.out HX7.out (by decide)))
      have HR8 := Kp.mk (box_grow HR7.out gx (fun e => by simp at e; omega))
      have HB8 := Kp.mk (HB6.out.trans ((HB7.out.mono (by have := HR7.out.lt; have := HB6.out.size; omega)).trans (below_of_grown (B := r) gx (by have := HR7.out.lt; omega) (fun q hq => by simp at hq; omega))))
      clear gx z4 z5 f4' f5' HX7 HR7 HLO7
      generalize (w7.setCell ⟨x, 4, none⟩ (.int .i64 0)).setCell ⟨x, 5, none⟩ (.slice ha (bwN 0) hc) = w8 at *
      have c0 := HX8.out.cell 0 rfl
      have c1 := HX8.out.cell 1 rfl
      have c2 := HX8.out.cell 2 rfl
      have c3 := HX8.out.cell 3 rfl
      have c4 := HX8.out.cell 4 rfl
      have c5 := HX8.out.cell 5 rfl
      have k0 := HR8.out.cell 0 rfl
      have k1 := HR8.out.cell 1 rfl
      have k2 := HR8.out.cell 2 rfl
      have k3 := HR8.out.cell 3 rfl
      have k4 := HR8.out.cell 4 rfl
      have k5 := HR8.out.cell 5 rfl
      have m0 := HR8.out.free 0
      have m1 := HR8.out.free 1
      have m2 := HR8.out.free 2
      have m3 := HR8.out.free 3
      have m4 := HR8.out.free 4
      have m5 := HR8.out.free 5
      go_wp2
      have gr := grown_trans (grown_trans (grown_trans (grown_trans (grown_trans (grown_set w8 r 0 (.int .i64 bound)) (grown_set _ r 1 (.int .i64 0))) (grown_set _ r 2 (.int .i64 0))) (grown_set _ r 3 (.slice la (wordsN 0 0) lc))) (grown_set _ r 4 (.int .i64 0))) (grown_set _ r 5 (.slice ha (bwN 0) hc))
      have hLO := own_keep HLO8.out gr (fun q hq => by simp at hq; subst hq; exact row_box HLO8.out HR8.out (by decide))
      have hHI := own_keep HHI8.out gr (fun q hq => by simp at hq; subst hq; exact row_box HHI8.out HR8.out (by decide))
      have hbr := HB8.out.trans (below_of_grown (B := r) gr (by have := HR8.out.lt; omega) (fun q hq => by simp at hq; omega))
      have HLOF := Kp.mk hLO
      have HHIF := Kp.mk hHI
      have HBF := Kp.mk hbr
      clear gr hLO hHI hbr HLO8 HHI8 HB8 HX8 HR8
      refine bodyPost_ret (v := .tuple #[fanV bound 0 0 0 la ha lc hc, .int .i64 0]) (by
        rw [results_cell_tmp rfl]
        go_simp) rfl ?_
      refine ⟨0, 0, la, ha, lc, hc, rfl, ⟨⟨rfl, HW0.out.symm, rfl, ?_, ?_⟩⟩, ⟨?_⟩⟩
      · have e : loN bound [] = packN 0 [] 0 := by unfold loN; show packN (wdN bound 0) _ 0 = _; rw [HW0.out]; rfl
        rw [e]
        exact own_base HLOF.out (by rw [← HRE.out]; exact hr4)
      · have e : hiN bound [] = bitsN [] 0 := by unfold hiN; rw [show hnN bound [] = 0 from rfl, bitsN_zero, bitsN_zero]
        rw [e]
        exact own_base HHIF.out (by rw [← HRE.out]; exact Nat.le_trans hr4 hs6)
      · rw [← HRE.out]; exact HBF.out
  · have hnp : 0 < n := by omega
    have hnz : (0 : Int) < n := by omega
    obtain ⟨b, off, rfl, c0⟩ := h.at 0 (by rw [hml]; exact hnp)
    obtain ⟨_, _, e2, c1⟩ := h.at (n - 1) (by rw [hml]; omega)
    simp only [Option.some.injEq, Addr.mk.injEq, and_true] at e2
    obtain ⟨rfl, rfl⟩ := e2
    have g0 := hgd 0 hnp
    have g1 := hgd (n - 1) (by omega)
    rw [getD_at _ _ (by rw [hml]; exact hnp)] at g0
    rw [getD_at _ _ (by rw [hml]; omega)] at g1
    rw [g0] at c0
    rw [g1] at c1
    have x1 := hx (n - 1) (by omega)
    generalize l.getD 0 0 = v0 at *
    generalize l.getD (n - 1) 0 = v1 at *
    have t4 : decide ((v0 : Int) < 0) = false := decide_eq_false (by omega)
    have t5 : decide ((bound : Int) < v1) = false := decide_eq_false (by omega)
    have t5b : decide (bound < v1) = false := decide_eq_false (by omega)
    have e1 : IntKind.i64.wrap ((n : Int) - 1) = ((n - 1 : Nat) : Int) := by rw [show (n : Int) - 1 = ((n - 1 : Nat) : Int) by omega]; exact IntWalk.i64_in _ (by omega)
    have hlt0 := World.block_lt_of_cell? _ _ c0
    have HC := Kp.mk (fun (W : World) (hb : Below w.heap.size w W) => show W.cell? ⟨b, off + 0, none⟩ = some (.int .i64 v0) ∧ W.cell? ⟨b, off + (n - 1), none⟩ = some (.int .i64 v1) from ⟨(hb.cell (p := ⟨b, off + 0, none⟩) hlt0).trans c0, (hb.cell (p := ⟨b, off + (n - 1), none⟩) hlt0).trans c1⟩)
    clear h hl hr hx hml hgd g0 g1 x1 c0 c1 hlt0
    go_enter Try.func24, Try.ntmps24
    go_wp2_with fail
    have hal := below_alloc (Nat.le_refl w.heap.size) (.cells #[.int .i64 0, .int .i64 0, .int .i64 0, .slice none 0 0, .int .i64 0, .slice none 0 0] 44)
    have HRB := Kp.mk (Box.new w #[.int .i64 0, .int .i64 0, .int .i64 0, .slice none 0 0, .int .i64 0, .slice none 0 0] 44)
    refine (CI.out _ hal).mono ?_
    rintro e w1 ⟨rfl, hb1⟩
    have HB1 := Kp.mk (hal.trans (hb1.mono (by rw [alloc_size]; omega)))
    have HR1 := Kp.mk (HRB.out.below hb1)
    obtain ⟨r, hr⟩ : ∃ r, r = w.heap.size := ⟨_, rfl⟩
    have HRE := Kp.mk hr
    rw [← hr] at HR1 ⊢
    obtain ⟨c0, c1⟩ := HC.out w1 HB1.out
    rw [Nat.add_zero] at c0
    have hin : (n : Int) - 1 < n := by omega
    have hn1 : ((n - 1 : Nat) : Int) < n := by omega
    have H1 := Kp.mk (H.out.below HB1.out)
    obtain ⟨B, hB⟩ : ∃ B, B = w1.heap.size := ⟨_, rfl⟩
    have HBE := Kp.mk hB
    have hrB : r < B := by rw [hB]; exact HR1.out.lt
    clear hal hb1 HRB CI hr HC hB
    go_wp2_with fail
    refine (width_any bound n _ hb hn).mono ?_
    rintro e w' ⟨rfl, rfl⟩
    have hWl := wdN_le bound n hb
    have hWf := wdN_few bound n hb hnp
    have HHN := Kp.mk (show hnN bound l = bound / 2 ^ wdN bound n + n + 1 from by unfold hnN; rw [HL.out, if_pos hnp])
    have HWD := Kp.mk (rfl : wdN bound n = wdN bound n)
    obtain ⟨W, hW⟩ : ∃ W, W = wdN bound n := ⟨_, rfl⟩
    rw [← hW] at hWl hWf HHN ⊢
    have HWE := Kp.mk hW
    obtain ⟨P, hP⟩ : ∃ P : Nat, P = 2 ^ W := ⟨_, rfl⟩
    have hP0 : 0 < P := by rw [hP]; exact Nat.pow_pos (by omega)
    have hPb : P ≤ 2 ^ 20 := by rw [hP]; exact Nat.pow_le_pow_right (by omega) hWl
    have HPE := Kp.mk hP
    rw [← hP] at hWf HHN
    have hPz : (2 : Int) ^ W = (P : Int) := by rw [hP]; push_cast; rfl
    have d1 : (bound : Int) / (P : Int) = ((bound / P : Nat) : Int) := by push_cast; rfl
    obtain ⟨D, hD⟩ : ∃ D, D = bound / P := ⟨_, rfl⟩
    have hD' := Kp.mk hD
    rw [← hD] at d1 hWf HHN
    have e2 : IntKind.i64.wrap ((D : Int) + n) = (D : Int) + n := IntWalk.i64_in _ (by omega)
    have e3 : IntKind.i64.wrap ((D : Int) + n + 1) = ((D + n + 1 : Nat) : Int) := by rw [show (D : Int) + n + 1 = ((D + n + 1 : Nat) : Int) by omega]; exact IntWalk.i64_in _ (by omega)
    clear HWD hW hP hD c0 c1
    obtain ⟨M, hM⟩ : ∃ M, M = D + n + 1 := ⟨_, rfl⟩
    rw [← hM] at e3 HHN
    have hM9 : M ≤ 900 := by omega
    have HME := Kp.mk hM
    have hM0 : 0 < M := by omega
    clear hM
    go_wp2_with (at_make; refine wpList_mk1 tBools rfl rfl _ _ rfl B M rfl rfl ?c1 (by decide) (Nat.le_of_eq HBE.out) ?c2)
    case c1 => omega
    case c2 =>
    intro ga gc w2 hog hbg
    have hs2 : B ≤ w2.heap.size := by rw [HBE.out]; exact (show Below w1.heap.size w1 w2 from by rw [← HBE.out]; exact hbg).size
    have HG2 := Kp.mk hog
    have HBG2 := Kp.mk hbg
    clear hog hbg
    go_wp2_with (at_make; refine wpList_mk1 tInts rfl rfl _ _ rfl w2.heap.size n rfl rfl ?c1 (by decide) (Nat.le_refl _) ?c2)
    case c1 => omega
    case c2 =>
    intro ka kc w3 hok hbk
    obtain ⟨gg, rfl, hg1, hg2⟩ := own_some HG2.out (by omega)
    obtain ⟨gk, rfl, hk1, hk2⟩ := own_some hok hnp
    have HG3 := Kp.mk (show w3.ownsRow B 4 1 (.slice (some ⟨gg, 0, none⟩) M gc) M (bls (hiK W M l 0)) from by
      have e : bls (hiK W M l 0) = List.replicate M (.bool false) := by unfold hiK; simp [bls]
      rw [e]
      exact own_below HG2.out hbk)
    have HK3 := Kp.mk (show w3.ownsRow B 3 1 (.slice (some ⟨gk, 0, none⟩) n kc) n (ints (loK W l n 0)) from by
      have e : ints (loK W l n 0) = List.replicate n (.int .i64 0) := by unfold loK; simp [ints]
      rw [e]
      exact own_base hok hs2)
    have HB13 := Kp.mk (show Below B w1 w3 from HBG2.out.trans (hbk.mono hs2))
    have hs3 : B ≤ w3.heap.size := Nat.le_trans hs2 hbk.size
    have H3 := Kp.mk (H1.out.below (show Below w1.heap.size w1 w3 from by rw [← HBE.out]; exact HB13.out))
    have hkB : B ≤ gk := Nat.le_trans hs2 hk1
    clear hok hbk HG2 HBG2 hg2 hk2 hs2 H1
    have hgk : gg ≠ gk := fun e => row_row HG3.out HK3.out (by decide) gg rfl (by rw [e]; rfl)
    go_wp2
    go_loopw [71] (fun i wr => ∃ k : Nat, k ≤ n ∧ i = .int .i64 k ∧ Kp (wr.ownsRow B 4 1 (.slice (some ⟨gg, 0, none⟩) M gc) M (bls (hiK W M l k))) ∧ Kp (wr.ownsRow B 3 1 (.slice (some ⟨gk, 0, none⟩) n kc) n (ints (loK W l n k))) ∧ Kp (Below B w1 wr)) (fun i _ => n - (intOf i).toNat)
    case atStart => exact ⟨0, Nat.zero_le _, rfl, HG3, HK3, HB13⟩
    case round =>
      clear HG3 HK3 HB13
      obtain ⟨k, hk, rfl, HG, HK, HBL⟩ := hrel
      have hb1r : Below w1.heap.size w1 wr := by rw [← HBE.out]; exact HBL.out
      have hs1r : B ≤ w1.heap.size := Nat.le_of_eq HBE.out
      by_cases hlt : k < n
      · have hkl : k < l.length := by rw [HL.out]; exact hlt
        obtain ⟨b0, off0, e0, cx⟩ := (H.out.below (HB1.out.trans (hb1r.mono HB1.out.size))).at k (by rw [List.length_map, HL.out]; exact hlt)
        simp only [Option.some.injEq, Addr.mk.injEq, and_true] at e0
        obtain ⟨rfl, rfl⟩ := e0
        have hx0 : (l.map Int.ofNat)[k]'(by rw [List.length_map, HL.out]; exact hlt) = ((l[k] : Nat) : Int) := by simp
        rw [hx0] at cx
        have hxb := HX.out k hlt
        have HPT := Kp.mk (hiP_top (W := W) (bound := bound) (l := l) (by rw [HL.out]; exact HX.out) hkl)
        rw [getD_at _ _ hkl] at hxb
        have HSG := Kp.mk (hiK_succ W M l k)
        have HSK := Kp.mk (loK_succ W l n k)
        have hdx : hiP W l k = l[k] / P + k := by rw [hiP_eq, getD_at _ _ hkl, HPE.out]
        have hmx : l.getD k 0 % 2 ^ W = l[k] % P := by rw [getD_at _ _ hkl, HPE.out]
        rw [hdx] at HPT HSG
        rw [hmx] at HSK
        rw [← HPE.out, HL.out] at HPT
        generalize l[k] = x at *
        obtain ⟨q, hq⟩ : ∃ q, q = x / P := ⟨_, rfl⟩
        obtain ⟨y, hy⟩ : ∃ y, y = x % P := ⟨_, rfl⟩
        have hqx : q ≤ x := by rw [hq]; exact Nat.div_le_self _ _
        have f1 : (x : Int) / (P : Int) = (q : Int) := by rw [hq]; push_cast; rfl
        have f2 : IntKind.i64.wrap ((q : Int) + k) = ((q + k : Nat) : Int) := by rw [show (q : Int) + k = ((q + k : Nat) : Int) by omega]; exact IntWalk.i64_in _ (by omega)
        have f3 : IntKind.i64.wrap (P : Int) = P := IntWalk.i64_in _ (by omega)
        have f4 : IntKind.i64.wrap ((P : Int) - 1) = ((P - 1 : Nat) : Int) := by rw [show (P : Int) - 1 = ((P - 1 : Nat) : Int) by omega]; exact IntWalk.i64_in _ (by omega)
        have f5 : bits .and .i64 (x : Int) ((P - 1 : Nat) : Int) = (y : Int) := by
          rw [i64_and_nat x (P - 1) (by omega) (by omega), hy, HPE.out, Nat.and_two_pow_sub_one_eq_mod]
        rw [← hq] at HPT HSG
        rw [← hy] at HSK
        rw [← hD'.out] at HPT
        have cg := HG.out.cellAt (q + k) (by rw [Nat.mul_one]; rw [HME.out]; exact HPT.out)
        have ck := HK.out.cellAt k (by omega)
        have fk := HK.out.frozenAt k
        have fg := HG.out.frozenAt (q + k)
        rw [List.getElem?_eq_getElem (by rw [ints_length, loK_length]; exact hlt)] at ck
        rw [List.getElem?_eq_getElem (by rw [bls_length, hiK_length, HME.out]; exact HPT.out)] at cg
        generalize (ints (loK W l n k))[k]'(by rw [ints_length, loK_length]; exact hlt) = u1 at *
        generalize (bls (hiK W M l k))[q + k]'(by rw [bls_length, hiK_length, HME.out]; exact HPT.out) = u2 at *
        have hgk' : gk ≠ gg := fun e => hgk e.symm
        have hqM : q + k < M := by rw [HME.out]; exact HPT.out
        have hqMz : ((q + k : Nat) : Int) < M := by omega
        have hqz : (q : Int) + k < M := by omega
        have hq0 : (0 : Int) ≤ (q : Int) + k := by omega
        have HY := Kp.mk hy
        have HQ := Kp.mk hq
        clear hq hy hdx hmx hx0
        go_wp2
        go_roundw
        case rel =>
          have hk1' := (HK.out.stored k (.int .i64 y)).1
          have hg1' := own_keep HG.out (grown_set wr gk k (.int .i64 y)) (fun q' hq' => by simp at hq'; subst hq'; simp [blk]; exact hgk)
          have hg2' := (hg1'.stored (q + k) (.bool true)).1
          have hk2' := own_keep hk1' (grown_set _ gg (q + k) (.bool true)) (fun q' hq' => by simp at hq'; subst hq'; simp [blk]; exact hgk')
          refine ⟨k + 1, by omega, by go_num, ⟨?_⟩, ⟨?_⟩, ⟨?_⟩⟩
          · rw [HSG.out, ← bls_set]; exact hg2'
          · rw [HSK.out, ← ints_set]; exact hk2'
          · exact (HBL.out.trans (below_of_grown (grown_set wr gk k (.int .i64 y)) (Nat.le_trans hs1r hb1r.size) (fun q' hq' => by simp at hq'; omega))).trans (below_of_grown (grown_set _ gg (q + k) (.bool true)) (by rw [size_setCell]; exact Nat.le_trans hs1r hb1r.size) (fun q' hq' => by simp at hq'; omega))
        case measure => simp [intOf]; omega
      · obtain rfl : k = n := by omega
        have HLO := Kp.mk (show loK W l k k = (lowL W l).map Int.ofNat from by rw [← HL.out]; exact loK_end W l)
        have HLL := Kp.mk (show (lowL W l).length = k from by rw [lowL_length, HL.out])
        rw [HLO.out] at HK
        have HLW := Kp.mk (fun i (_ : i < k) => lowL_lt W l i)
        have hBw : B ≤ wr.heap.size := Nat.le_trans hs1r hb1r.size
        have HRR := Kp.mk (HR1.out.below hb1r)
        have HBR := Kp.mk (HB1.out.trans (hb1r.mono HB1.out.size))
        have HBX := Kp.mk (Box.new wr #[.int .i64 bound, .int .i64 0, .int .i64 0, .slice none 0 0, .int .i64 0, .slice none 0 0] 44)
        have hal := below_alloc (Nat.le_refl wr.heap.size) (.cells #[.int .i64 bound, .int .i64 0, .int .i64 0, .slice none 0 0, .int .i64 0, .slice none 0 0] 44)
        have HK4 := Kp.mk (own_below HK.out hal)
        have HG4 := Kp.mk (own_below HG.out hal)
        have HR4 := Kp.mk (HRR.out.below hal)
        have HB4 := Kp.mk (HBR.out.trans (hal.mono HBR.out.size))
        obtain ⟨x, hx⟩ : ∃ x, x = wr.heap.size := ⟨_, rfl⟩
        go_upto_region 19 with (fail)
        rw [← hx] at HBX ⊢
        have hxr : r < x := by rw [hx]; exact HRR.out.lt
        have hs4 : B ≤ (wr.alloc (.cells #[.int .i64 bound, .int .i64 0, .int .i64 0, .slice none 0 0, .int .i64 0, .slice none 0 0] 44)).heap.size := by rw [alloc_size]; omega
        have hgx : x ≠ gg := fun e => row_box HG4.out HBX.out (by decide) (by rw [e]; rfl)
        have hr4 : r ≤ (wr.alloc (.cells #[.int .i64 bound, .int .i64 0, .int .i64 0, .slice none 0 0, .int .i64 0, .slice none 0 0] 44)).heap.size := by rw [alloc_size]; omega
        clear hal HG HK HRR HBR hx
        generalize wr.alloc (.cells #[.int .i64 bound, .int .i64 0, .int .i64 0, .slice none 0 0, .int .i64 0, .slice none 0 0] 44) = w4 at *
        go_wp2_with fail
        have hm := make_ok (some ⟨gk, 0, none⟩) kc W k (lowL W l) w4 (own_sl_len HK4.out (by rw [List.length_map]; exact HLL.out)) HLL.out hn (by omega) HLW.out
        unfold PackRet at hm
        rw [HLL.out] at hm
        refine hm.mono ?_
        clear hm
        rintro e w5 ⟨la, lc, rfl, hlo, hb5⟩
        have b5 := HBX.out.below hb5
        have x1' : w5.cell? ⟨x, 1, none⟩ = some (.int .i64 0) := b5.cell 1 rfl
        have x2' : w5.cell? ⟨x, 2, none⟩ = some (.int .i64 0) := b5.cell 2 rfl
        have x3' : w5.cell? ⟨x, 3, none⟩ = some (.slice none 0 0) := b5.cell 3 rfl
        have y1 := b5.free 1
        have y2 := b5.free 2
        have y3 := b5.free 3
        have HLO5 := Kp.mk hlo
        have HB5 := Kp.mk hb5
        have HBX5 := Kp.mk b5
        clear hlo hb5 b5
        go_wp2_with fail
        have gx := grown_trans (grown_trans (grown_set w5 x 1 (.int .i64 k)) (grown_set _ x 2 (.int .i64 W))) (grown_set _ x 3 (.slice la (wordsN k W) lc))
        have HX6 := Kp.mk (show Box (((w5.setCell ⟨x, 1, none⟩ (.int .i64 k)).setCell ⟨x, 2, none⟩ (.int .i64 W)).setCell ⟨x, 3, none⟩ (.slice la (wordsN k W) lc)) x #[.int .i64 bound, .int .i64 k, .int .i64 W, .slice la (wordsN k W) lc, .int .i64 0, .slice none 0 0] 44 from box_put (box_put (box_put HBX5.out _) _) _)
        have hxs : w4.heap.size ≤ w5.heap.size := HB5.out.size
        have hLO6 := own_keep HLO5.out gx (fun q hq => by simp at hq; subst hq; exact row_box HLO5.out HBX5.out (by decide))
        have HG5 := own_below HG4.out HB5.out
        have hG6 := own_keep HG5 gx (fun q hq => by simp at hq; subst hq; exact row_box HG5 HBX5.out (by decide))
        have hR6 := box_grow (HR4.out.below HB5.out) gx (fun e => by simp at e; omega)
        have hb6 := below_of_grown (B := r) gx (by have := HR4.out.lt; omega) (fun q hq => by simp at hq; omega)
        have HLO6 := Kp.mk hLO6
        have HG6 := Kp.mk hG6
        have HR6 := Kp.mk hR6
        have HB6 := Kp.mk ((show Below r w w4 from by rw [HRE.out]; exact HB4.out).trans ((HB5.out.mono (by have := HR4.out.lt; omega)).trans hb6))
        have hs6 : w4.heap.size ≤ (((w5.setCell ⟨x, 1, none⟩ (.int .i64 k)).setCell ⟨x, 2, none⟩ (.int .i64 W)).setCell ⟨x, 3, none⟩ (.slice la (wordsN k W) lc)).heap.size := by simp only [size_setCell]; exact hxs
        clear gx hLO6 HG5 hG6 hR6 hb6 HBX5 HLO5 HB5 hxs x1' x2' x3' y1 y2 y3
        generalize ((w5.setCell ⟨x, 1, none⟩ (.int .i64 k)).setCell ⟨x, 2, none⟩ (.int .i64 W)).setCell ⟨x, 3, none⟩ (.slice la (wordsN k W) lc) = w6 at *
        refine (bmake_any (some ⟨gg, 0, none⟩) gc M (hiK W M l k) w6 (own_slc HG6.out) (by omega)).mono ?_
        rintro e w7 ⟨ha, hc, rfl, hhi, hb7⟩
        have HHI := Kp.mk hhi
        have HB7 := Kp.mk hb7
        have HX7 := Kp.mk (HX6.out.below hb7)
        have HR7 := Kp.mk (HR6.out.below hb7)
        have HLO7 := Kp.mk (own_below HLO6.out hb7)
        have z4 := HX7.out.cell 4 rfl
        have z5 := HX7.out.cell 5 rfl
        have f4' := HX7.out.free 4
        have f5' := HX7.out.free 5
        clear hhi hb7 HX6 HR6 HLO6 HG6 HK4 HG4 HR4 HB4
        go_upto_region 21 with (fail)
        have gx := grown_trans (grown_set w7 x 4 (.int .i64 M)) (grown_set _ x 5 (.slice ha (bwN M) hc))
        have HX8 := Kp.mk (show Box ((w7.setCell ⟨x, 4, none⟩ (.int .i64 M)).setCell ⟨x, 5, none⟩ (.slice ha (bwN M) hc)) x #[.int .i64 bound, .int .i64 k, .int .i64 W, .slice la (wordsN k W) lc, .int .i64 M, .slice ha (bwN M) hc] 44 from box_put (box_put HX7.out _) _)
        have HLO8 := Kp.mk (own_keep HLO7.out gx (fun q hq => by simp at hq; subst hq; exact row_box HLO7.out HX7.out (by decide)))
        have HHI8 := Kp.mk (own_keep HHI.out gx (fun q hq => by simp at hq; subst hq; exact row_box HHI.out HX7.out (by decide)))
        have HR8 := Kp.mk (box_grow HR7.out gx (fun e => by simp at e; omega))
        have HB8 := Kp.mk (HB6.out.trans ((HB7.out.mono (by have := HR7.out.lt; have := HB6.out.size; omega)).trans (below_of_grown (B := r) gx (by have := HR7.out.lt; omega) (fun q hq => by simp at hq; omega))))
        clear gx z4 z5 f4' f5' HX7 HR7 HLO7
        generalize (w7.setCell ⟨x, 4, none⟩ (.int .i64 M)).setCell ⟨x, 5, none⟩ (.slice ha (bwN M) hc) = w8 at *
        have c0 := HX8.out.cell 0 rfl
        have c1 := HX8.out.cell 1 rfl
        have c2 := HX8.out.cell 2 rfl
        have c3 := HX8.out.cell 3 rfl
        have c4 := HX8.out.cell 4 rfl
        have c5 := HX8.out.cell 5 rfl
        have k0 := HR8.out.cell 0 rfl
        have k1 := HR8.out.cell 1 rfl
        have k2 := HR8.out.cell 2 rfl
        have k3 := HR8.out.cell 3 rfl
        have k4 := HR8.out.cell 4 rfl
        have k5 := HR8.out.cell 5 rfl
        have m0 := HR8.out.free 0
        have m1 := HR8.out.free 1
        have m2 := HR8.out.free 2
        have m3 := HR8.out.free 3
        have m4 := HR8.out.free 4
        have m5 := HR8.out.free 5
        go_wp2
        have gr := grown_trans (grown_trans (grown_trans (grown_trans (grown_trans (grown_set w8 r 0 (.int .i64 bound)) (grown_set _ r 1 (.int .i64 k))) (grown_set _ r 2 (.int .i64 W))) (grown_set _ r 3 (.slice la (wordsN k W) lc))) (grown_set _ r 4 (.int .i64 M))) (grown_set _ r 5 (.slice ha (bwN M) hc))
        have hLO := own_keep HLO8.out gr (fun q hq => by simp at hq; subst hq; exact row_box HLO8.out HR8.out (by decide))
        have hHI := own_keep HHI8.out gr (fun q hq => by simp at hq; subst hq; exact row_box HHI8.out HR8.out (by decide))
        have hbr := HB8.out.trans (below_of_grown (B := r) gr (by have := HR8.out.lt; omega) (fun q hq => by simp at hq; omega))
        have HLOF := Kp.mk hLO
        have HHIF := Kp.mk hHI
        have HBF := Kp.mk hbr
        clear gr hLO hHI hbr HLO8 HHI8 HB8 HX8 HR8
        refine bodyPost_ret (v := .tuple #[fanV bound k W M la ha lc hc, .int .i64 0]) (by
          rw [results_cell_tmp rfl]
          go_simp) rfl ?_
        refine ⟨W, M, la, ha, lc, hc, rfl, ⟨⟨HL.out, HWE.out, HHN.out.symm, ?_, ?_⟩⟩, ⟨?_⟩⟩
        · have e : loN bound l = packN W (lowL W l) k := by unfold loN; rw [HL.out, ← HWE.out]
          rw [e]
          exact own_base HLOF.out (by rw [← HRE.out]; exact hr4)
        · have e : hiN bound l = bitsN (hiK W M l k) M := by unfold hiN; rw [HL.out, ← HWE.out, HHN.out]
          rw [e]
          exact own_base HHIF.out (by rw [← HRE.out]; exact Nat.le_trans hr4 hs6)
        · rw [← HRE.out]; exact HBF.out

end Go.Proofs.Ytjicgndahpffbaa
