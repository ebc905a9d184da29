/- Package wave: At, Rank. -/
import Derived.Test.YtjicgndahpffbaaWav
import Derived.Test.YtjicgndahpffbaaBit
namespace Go.Proofs.Ytjicgndahpffbaa
set_option linter.unusedVariables false
open Go.RowKit

/-- One step of a place down a wave. -/
theorem wat_step (K n k p x : Nat) (l : List Nat) (hl : l.length = n) (hk : k < K) (hp : p < n) (hx : (lst K l k).getD p 0 = x) :
    (rowAt K l k).getD p false = bitB x (K - 1 - k) ∧ dwn (rowAt K l k) p (bitB x (K - 1 - k)) < n ∧ (lst K l (k + 1)).getD (dwn (rowAt K l k) p (bitB x (K - 1 - k))) 0 = x ∧ x / 2 ^ (K - (k + 1)) = 2 * (x / 2 ^ (K - k)) + (if bitB x (K - 1 - k) = true then 1 else 0) := by
  have hL : (lst K l k).length = n := by rw [lst_length, hl]
  have hpL : p < (lst K l k).length := by omega
  rw [getD_at _ _ hpL] at hx
  have h1 := dwn_at (K - 1 - k) (lst K l k) p hpL
  rw [hx] at h1
  have e : lst K l (k + 1) = stepL (K - 1 - k) (lst K l k) := lst_succ K l k
  have e2 : rowAt K l k = rowL (K - 1 - k) (lst K l k) := by unfold rowAt; rfl
  have hlt : dwn (rowAt K l k) p (bitB x (K - 1 - k)) < (stepL (K - 1 - k) (lst K l k)).length := by rw [e2, stepL_length]; exact h1.1
  refine ⟨?_, by rw [e2]; omega, ?_, ?_⟩
  · rw [e2, getD_at _ _ (by rw [rowL_length]; exact hpL)]
    have : ∀ (M : List Bool) (hM : M = (lst K l k).map fun x => bitB x (K - 1 - k)) (h : p < M.length), M[p] = bitB x (K - 1 - k) := by
      intro M hM h
      subst hM
      rw [List.getElem_map, hx]
    exact this _ (by unfold rowL; rfl) _
  · rw [e, getD_at _ _ hlt]
    simp only [e2]
    exact h1.2 (by rw [← e2]; exact hlt)
  · have := div_step x (K - 1 - k)
    rw [show K - 1 - k + 1 = K - k by omega] at this
    rw [show K - (k + 1) = K - 1 - k by omega]
    exact this
theorem wfacts {w : World} {sa : Option Addr} {sc n : Nat} {E : List Bool} (h : BitsIn w sa sc E) (hE : E.length = n) : w.ownsRow 0 154 1 (.slice sa (bwN n) sc) (bwN n) (wds (wordsOf (bitsN E n) (bwN n))) := by
  subst hE; exact h

set_option maxRecDepth 100000 in
set_option maxHeartbeats 2000000 in
theorem wat_any (a : Option Addr) (cap K n i x : Nat) (l : List Nat) (w : World) (h : IsWave w a cap K l) (hl : l.length = n) (hn : n ≤ 300) (hK : 0 < K) (hK2 : K ≤ 21) (hi : i < n) (hx : l.getD i 0 = x) (hx2 : x < 2 ^ K) :
    Calls Try.prog 18 #[.agg #[.slice a K cap], .int .i64 i] w fun e w' => e = .returned (.tuple #[.int .i64 x, .int .i64 0]) ∧ Below w.heap.size w w' := by
  have HA := Kp.mk (below_alloc (Nat.le_refl w.heap.size) (.cells #[.slice a K cap] 27))
  have HBX := Kp.mk (Box.new w #[.slice a K cap] 27)
  have H := Kp.mk (h.below HA.out)
  have HLn := Kp.mk hl
  have HX := Kp.mk (show x / 2 ^ (K - 0) = 0 from by rw [Nat.sub_zero]; exact Nat.div_eq_of_lt hx2)
  have HXI := Kp.mk (show (lst K l 0).getD i 0 = x from by rw [lst_zero]; exact hx)
  have hxm : x < 2097152 := Nat.lt_of_lt_of_le hx2 (Nat.le_trans (Nat.pow_le_pow_right (by omega) hK2) (by decide))
  obtain ⟨bx, hbx⟩ : ∃ bx, bx = w.heap.size := ⟨_, rfl⟩
  have C := Kp.mk (wmay_any a cap K n l _ H.out hl hn hK hK2)
  have d0 : (w.alloc (.cells #[.slice a K cap] 27)).cell? ⟨w.heap.size, 0, none⟩ = some (.slice a K cap) := HBX.out.cell 0 rfl
  have t1 : decide ((i : Int) < 0) = false := decide_eq_false (by omega)
  clear h hl hx hx2
  go_enter Try.func18, Try.ntmps18
  go_wp2_with fail
  refine C.out.mono ?_
  rintro e w1 ⟨rfl, hb⟩
  have HB1 := Kp.mk (below_step HA.out hb)
  have hb1 := Kp.mk (HBX.out.below hb)
  have H1 := Kp.mk (H.out.below hb)
  rw [← hbx] at hb1 ⊢
  have d1 : w1.cell? ⟨bx, 0, none⟩ = some (.slice a K cap) := hb1.out.cell 0 rfl
  clear hb C d0 H HBX HA
  clear hbx
  go_wp2_with fail
  refine (wlen_any a cap K n l w1 H1.out HLn.out hK hK2).mono ?_
  rintro e w2 ⟨rfl, hb⟩
  have HB2 := Kp.mk (below_step HB1.out hb)
  have hb2 := Kp.mk (hb1.out.below hb)
  have H2 := Kp.mk (H1.out.below hb)
  have d2 : w2.cell? ⟨bx, 0, none⟩ = some (.slice a K cap) := hb2.out.cell 0 rfl
  have t2 : decide ((n : Int) ≤ i) = false := decide_eq_false (by omega)
  have t3 : decide (n ≤ i) = false := decide_eq_false (by omega)
  clear hb d1 hb1 H1 HB1
  go_wp2
  go_loopw [1, 6, 27] (fun iv nv kv wr => ∃ (k p y : Nat), k ≤ K ∧ kv = .int .i64 k ∧ iv = .int .i64 p ∧ nv = .int .i64 y ∧ p < n ∧ Kp (x / 2 ^ (K - k) = y) ∧ Kp ((lst K l k).getD p 0 = x) ∧ Kp (Below w2.heap.size w2 wr)) (fun _ _ k _ => K - (intOf k).toNat)
  case atStart => exact ⟨0, i, 0, Nat.zero_le _, rfl, rfl, rfl, hi, HX, HXI, ⟨Below.refl _ _⟩⟩
  case round =>
    obtain ⟨k, p, y, hk, rfl, rfl, rfl, hp, HY, HP, HBL⟩ := hrel
    by_cases hlt : k < K
    · obtain ⟨s1, s2, s3, s4⟩ := wat_step K n k p x l HLn.out hlt hp HP.out
      have hyx : y ≤ x := by rw [← HY.out]; exact Nat.div_le_self _ _
      rw [HY.out] at s4
      obtain ⟨b, off, sa, sc, rfl, hbw, c0, c1, hbi⟩ := (H2.out.below HBL.out).at HLn.out k hlt
      have hE := rowAt_length K l k
      rw [HLn.out] at hE
      generalize rowAt K l k = E at *
      generalize ht : bitB x (K - 1 - k) = t at *
      have HE := Kp.mk hE
      have HBI := Kp.mk hbi
      have HS1 := Kp.mk s1
      have HS3 := Kp.mk s3
      have HS4 := Kp.mk s4
      clear hE hbi s1 s3 s4 ht
      have hba := below_alloc (Nat.le_refl wr.heap.size) (.cells #[.int .i64 n, .slice sa (bwN n) sc] 42)
      have HB3 := Kp.mk (HBL.out.trans (hba.mono HBL.out.size))
      have HBI2 := Kp.mk (HBI.out.below hba)
      have HBox := Kp.mk (Box.new wr #[.int .i64 n, .slice sa (bwN n) sc] 42)
      have C := Kp.mk (bat_ok 0 sa (bwN n) sc n p (bitsN E n) _ rfl (wfacts HBI2.out HE.out) (by omega) hp (bitsN_lt E n))
      rw [bitsN_at E n p hp, HS1.out] at C
      clear hba
      go_wp2_with fail
      refine C.out.mono ?_
      rintro e w3 ⟨rfl, hb⟩
      have HB4 := Kp.mk (HB3.out.trans (hb.mono HB3.out.size))
      have HBI3 := Kp.mk (HBI2.out.below hb)
      have hbox3 := HBox.out.below hb
      have y0 : w3.cell? ⟨wr.heap.size, 0, none⟩ = some (.int .i64 n) := hbox3.cell 0 rfl
      have y1 : w3.cell? ⟨wr.heap.size, 1, none⟩ = some (.slice sa (bwN n) sc) := hbox3.cell 1 rfl
      clear hb hbox3 C HBI2 HBox HB3 c0 c1
      go_wp2_with fail
      refine (down_any sa sc n p t E w3 HBI3.out HE.out hn (by omega)).mono ?_
      rintro e w4 ⟨rfl, hb⟩
      have HB5 := Kp.mk (HB4.out.trans (hb.mono HB4.out.size))
      clear hb y0 y1
      generalize dwn E p t = q at *
      cases t with
      | true =>
        have h4 := Kp.mk (show x / 2 ^ (K - (k + 1)) = 2 * y + 1 from HS4.out)
        go_wp2
        go_roundw
        case rel => exact ⟨k + 1, q, 2 * y + 1, by omega, by go_num, rfl, by congr 1; omega, s2, h4, HS3, HB5⟩
        case measure => simp [intOf]; omega
      | false =>
        have h4 := Kp.mk (show x / 2 ^ (K - (k + 1)) = 2 * y from HS4.out)
        go_wp2
        go_roundw
        case rel => exact ⟨k + 1, q, 2 * y, by omega, by go_num, rfl, by congr 1; omega, s2, h4, HS3, HB5⟩
        case measure => simp [intOf]; omega
    · obtain rfl : k = K := by omega
      have hyx : y = x := by rw [← HY.out, Nat.sub_self, Nat.pow_zero, Nat.div_one]
      have HYX := Kp.mk hyx
      clear hyx
      go_wp2
      go_ret2
      exact ⟨by rw [HYX.out]; rfl, below_step HB2.out HBL.out⟩

set_option maxHeartbeats 1000000 in
theorem wfits_any (a : Option Addr) (cap K x : Nat) (w : World) (hK2 : K ≤ 21) (hx : x ≤ 1000000000) :
    Calls Try.prog 53 #[.agg #[.slice a K cap], .int .i64 x] w fun e w' => e = .returned (.bool (decide (x < 2 ^ K))) ∧ Below w.heap.size w w' := by
  have HA := Kp.mk (below_alloc (Nat.le_refl w.heap.size) (.cells #[.slice a K cap] 27))
  have d0 : (w.alloc (.cells #[.slice a K cap] 27)).cell? ⟨w.heap.size, 0, none⟩ = some (.slice a K cap) := (Box.new w #[.slice a K cap] 27).cell 0 rfl
  have e1 : (x : Int) / 2 ^ K = ((x / 2 ^ K : Nat) : Int) := by push_cast; rfl
  have hd : x / 2 ^ K ≤ x := Nat.div_le_self _ _
  have hp : 0 < 2 ^ K := Nat.pow_pos (by omega)
  by_cases h : x < 2 ^ K
  · have hz : x / 2 ^ K = 0 := Nat.div_eq_of_lt h
    rw [hz] at e1
    have HD := Kp.mk (show decide (x < 2 ^ K) = true from decide_eq_true h)
    clear h hz hp hd
    go_enter Try.func53, Try.ntmps53
    go_wp2
    go_ret
    exact ⟨by rw [HD.out]; rfl, HA.out⟩
  · have hz : 0 < x / 2 ^ K := Nat.div_pos (by omega) hp
    have HD := Kp.mk (show decide (x < 2 ^ K) = false from decide_eq_false h)
    generalize x / 2 ^ K = y at *
    have hb : ((y : Int) == 0) = false := beq_eq_false_iff_ne.2 (by omega)
    clear h hz hp
    go_enter Try.func53, Try.ntmps53
    go_wp2
    go_ret
    exact ⟨by rw [HD.out]; rfl, HA.out⟩

end Go.Proofs.Ytjicgndahpffbaa
