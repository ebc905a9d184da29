/- Package fano: all. -/
import Derived.Test.YtjicgndahpffbaaFanW
namespace Go.Proofs.Ytjicgndahpffbaa
set_option linter.unusedVariables false
open Go.RowKit

theorem IsFan.hnb {w : World} {B bound n wd hn : Nat} {la ha : Option Addr} {lc hc : Nat} {l : List Nat} (h : IsFan w B bound n wd hn la ha lc hc l) (hb : bound ≤ 1048576) : hn ≤ 3 * n + 1 ∧ wd ≤ 20 ∧ (0 < n → hn = bound / 2 ^ wd + n + 1) := by
  have h1 := h.ehn
  have h2 := h.ewd
  have h3 := wdN_le bound n hb
  unfold hnN at h1
  rw [h.len, ← h2] at h1
  by_cases h0 : 0 < n
  · have h4 := wdN_few bound n hb h0
    rw [← h2] at h4
    rw [if_pos h0] at h1
    exact ⟨by omega, by omega, fun _ => h1⟩
  · rw [if_neg h0] at h1
    exact ⟨by omega, by omega, fun h => absurd h h0⟩
theorem lo_lt {bound n wd : Nat} {l : List Nat} (hl : l.length = n) (hw : wd = wdN bound n) : loN bound l < 2 ^ (n * wd) := by
  unfold loN
  rw [hl, ← hw]
  exact packN_lt wd _ n (fun i _ => lowL_lt wd l i)
theorem hi_lt {bound hn : Nat} {l : List Nat} (hh : hn = hnN bound l) : hiN bound l < 2 ^ hn := by
  unfold hiN
  rw [← hh]
  exact bitsN_lt _ _

set_option maxRecDepth 100000 in
set_option maxHeartbeats 2000000 in
theorem fall_any (bound n wd hn B : Nat) (la ha : Option Addr) (lc hc : Nat) (l : List Nat) (w : World) (hF : IsFan w B bound n wd hn la ha lc hc l) (hn3 : n ≤ 300) (hb : bound ≤ 1048576) (hr : Ris l) (hx : ∀ i, i < n → l.getD i 0 ≤ bound) :
    Calls Try.prog 92 #[fanV bound n wd hn la ha lc hc] w fun e w' => ∃ oa oc, e = .returned (.tuple #[.slice oa n oc, .bool true]) ∧ Kp (w'.ownsRow w.heap.size 3 1 (.slice oa n oc) n (ints (l.map Int.ofNat))) ∧ Kp (Below w.heap.size w w') := by
  obtain ⟨h1, h2, h3⟩ := hF.hnb hb
  have HLT := Kp.mk (lo_lt hF.len hF.ewd)
  have HHT := Kp.mk (hi_lt hF.ehn)
  have HF := Kp.mk hF
  have HR := Kp.mk hr
  have HX := Kp.mk hx
  have H3 := Kp.mk h3
  have hal := below_alloc (Nat.le_refl w.heap.size) (.cells #[.int .i64 bound, .int .i64 n, .int .i64 wd, .slice la (wordsN n wd) lc, .int .i64 hn, .slice ha (bwN hn) hc] 44)
  have HBX := Kp.mk (Box.new w #[.int .i64 bound, .int .i64 n, .int .i64 wd, .slice la (wordsN n wd) lc, .int .i64 hn, .slice ha (bwN hn) hc] 44)
  have HA := Kp.mk hal
  have HF1 := Kp.mk (hF.below hal)
  obtain ⟨x, hxx⟩ : ∃ x, x = w.heap.size := ⟨_, rfl⟩
  have HXE := Kp.mk hxx
  clear hF hr hx h3 hal
  go_enter Try.func92, Try.ntmps92
  go_upto_region 1 with (fail)
  rw [← hxx] at HBX ⊢
  have hs1 : x ≤ (w.alloc (.cells #[.int .i64 bound, .int .i64 n, .int .i64 wd, .slice la (wordsN n wd) lc, .int .i64 hn, .slice ha (bwN hn) hc] 44)).heap.size := by rw [alloc_size]; omega
  clear hxx
  generalize w.alloc (.cells #[.int .i64 bound, .int .i64 n, .int .i64 wd, .slice la (wordsN n wd) lc, .int .i64 hn, .slice ha (bwN hn) hc] 44) = w1 at *
  have c1 := HBX.out.cell 1 rfl
  have c2 := HBX.out.cell 2 rfl
  have c3 := HBX.out.cell 3 rfl
  go_wp2_with fail
  refine (may_ok la n wd (wordsN n wd) lc (loN bound l) w1 rfl (own_slc HF1.out.low) hn3 (by omega) HLT.out).mono ?_
  rintro e w2 ⟨rfl, hb2⟩
  have HBX2 := Kp.mk (HBX.out.below hb2)
  have HF2 := Kp.mk (HF1.out.below hb2)
  have HB2 := Kp.mk (HA.out.trans (hb2.mono (by have := HA.out.size; omega)))
  clear c1 c2 c3 hb2 HBX HF1
  have c4 := HBX2.out.cell 4 rfl
  have c5 := HBX2.out.cell 5 rfl
  go_wp2_with fail
  refine (bmay_ok ha hn (bwN hn) hc (hiN bound l) w2 rfl (own_slc HF2.out.high) (by omega) HHT.out).mono ?_
  rintro e w3 ⟨rfl, hb3⟩
  have HBX3 := Kp.mk (HBX2.out.below hb3)
  have HF3 := Kp.mk (HF2.out.below hb3)
  have HB3 := Kp.mk (HB2.out.trans (hb3.mono HB2.out.size))
  clear c4 c5 hb3 HBX2 HF2 HB2
  have c1 := HBX3.out.cell 1 rfl
  obtain ⟨B', hB'⟩ : ∃ B', B' = w3.heap.size := ⟨_, rfl⟩
  have HBE := Kp.mk hB'
  clear hB'
  go_wp2
  clear c1
  go_loopw [4, 23] (fun v i wr => ∃ (k : Nat) (oa : Option Addr) (oc : Nat), k ≤ n ∧ i = .int .i64 k ∧ v = .slice oa k oc ∧ Kp (wr.ownsRow B' 3 1 (.slice oa k oc) k (ints ((l.take k).map Int.ofNat))) ∧ Kp (Below B' w3 wr)) (fun _ i _ => n - (intOf i).toNat)
  case atStart => exact ⟨0, none, 0, Nat.zero_le _, rfl, rfl, ⟨World.ownsRow_nil _ _ _ _⟩, ⟨Below.refl _ _⟩⟩
  case round =>
    obtain ⟨k, oa, oc, hk, rfl, rfl, HO, HBL⟩ := hrel
    have hb3r : Below w3.heap.size w3 wr := by rw [← HBE.out]; exact HBL.out
    by_cases hlt : k < n
    · have HFR := Kp.mk (HF3.out.below hb3r)
      have HBR := Kp.mk (HBX3.out.below hb3r)
      have hBw : B' ≤ wr.heap.size := by rw [HBE.out]; exact hb3r.size
      have hkl : k < l.length := by rw [HF.out.len]; exact hlt
      have hnp : 0 < n := by omega
      have HSEL := Kp.mk (hi_select (W := wd) (hn := hn) (N := hiN bound l) HR.out (by unfold hiN; rw [HF.out.len, ← HF.out.ewd, ← HF.out.ehn]) (fun i hi => by
        rw [H3.out hnp]
        have := hiP_top (W := wd) (bound := bound) (l := l) (by rw [HF.out.len]; exact HX.out) hi
        rw [HF.out.len] at this; exact this) hkl)
      have CS := Kp.mk (bsel_ok true B ha (bwN hn) hc hn k (hiN bound l) (hiN bound l) wr rfl HFR.out.high (by omega) (by omega) HHT.out rfl)
      have c4 := HBR.out.cell 4 rfl
      have c5 := HBR.out.cell 5 rfl
      go_wp2_with fail
      refine CS.out.mono ?_
      rintro e w4 ⟨hb4, hc4⟩
      rcases hc4 with ⟨p, hp, hpb, hpc, rfl⟩ | ⟨hle, _⟩
      rotate_left
      · have := HSEL.out.2; omega
      have hpe := HSEL.out.1 p hp hpb hpc
      have HF4 := Kp.mk (HFR.out.below hb4)
      have HBX4 := Kp.mk (HBR.out.below hb4)
      have HO4 := Kp.mk (own_below HO.out hb4)
      have HBL4 := Kp.mk (HBL.out.trans (hb4.mono hBw))
      have hs4 : B' ≤ w4.heap.size := Nat.le_trans hBw hb4.size
      have hlo : loN bound l = packN wd (lowL wd l) n := by unfold loN; rw [HF.out.len, ← HF.out.ewd]
      have CA := Kp.mk (pat_ok B la (wordsN n wd) lc n k wd (lowL wd l) w4 rfl (by rw [← hlo]; exact HF4.out.low) hn3 (by omega) hlt (fun i _ => lowL_lt wd l i))
      rw [lowL_at wd l k hkl] at CA
      rw [hiP_eq] at hpe
      have HTK := Kp.mk (show (l.take (k + 1)).map Int.ofNat = (l.take k).map Int.ofNat ++ [((l.getD k 0 : Nat) : Int)] from by
        rw [List.take_succ_eq_append_getElem hkl, List.map_append, getD_at _ _ hkl]; rfl)
      have hxb := HX.out k hlt
      generalize l.getD k 0 = y at *
      obtain ⟨q, hq⟩ : ∃ q, q = y / 2 ^ wd := ⟨_, rfl⟩
      obtain ⟨z, hz⟩ : ∃ z, z = y % 2 ^ wd := ⟨_, rfl⟩
      rw [← hq] at hpe
      rw [← hz] at CA
      have hqy : q ≤ y := by rw [hq]; exact Nat.div_le_self _ _
      have hzy : z ≤ y := by rw [hz]; exact Nat.mod_le _ _
      have hqs : q * 2 ^ wd ≤ y := by rw [hq]; exact Nat.div_mul_le_self _ _
      have f1 : IntKind.i64.wrap ((p : Int) - k) = (q : Int) := by rw [show (p : Int) - k = q by omega]; exact IntWalk.i64_in _ (by omega)
      have f2 : IntKind.i64.wrap ((q : Int) * 2 ^ wd) = ((q * 2 ^ wd : Nat) : Int) := by
        rw [show (q : Int) * 2 ^ wd = ((q * 2 ^ wd : Nat) : Int) by push_cast; rfl]; exact IntWalk.i64_in _ (by omega)
      have f3 : bits .or .i64 ((q * 2 ^ wd : Nat) : Int) (z : Int) = (y : Int) := by
        rw [i64_or_nat _ _ (by omega) (by omega), hq, hz, low_high]
      have c1 := HBX4.out.cell 1 rfl
      have c2 := HBX4.out.cell 2 rfl
      have c3 := HBX4.out.cell 3 rfl
      clear hpe hq hz hqs hpb hpc hb4 CS HSEL c4 c5 HFR HBR HO hlo
      generalize q * 2 ^ wd = Y at *
      go_wp2_with fail
      refine CA.out.mono ?_
      rintro e w5 ⟨rfl, hb5⟩
      have HBX5 := Kp.mk (HBX4.out.below hb5)
      have HO5 := Kp.mk (own_below HO4.out hb5)
      have HBL5 := Kp.mk (HBL4.out.trans (hb5.mono hs4))
      have hs5 : B' ≤ w5.heap.size := Nat.le_trans hs4 hb5.size
      clear c1 c2 c3 hb5
      have c2 := HBX5.out.cell 2 rfl
      go_wp2_with (at_builtin; refine wpList_push tInts rfl _ _ rfl B' oa k oc _ rfl HO5.out 1 1 _ rfl rfl ?d1 (by decide) ?d2 (by decide) hs5 ?d4)
      case d1 => simp [Value.oneCell']
      case d2 => omega
      case d4 =>
        intro ya yc w6 ho6 hb6
        have HO6 := Kp.mk (show w6.ownsRow B' 3 1 (.slice ya (k + 1) yc) (k + 1) (ints ((l.take (k + 1)).map Int.ofNat)) from by
          rw [HTK.out, ints_append, List.map_take]; exact ho6)
        have HBL6 := Kp.mk (HBL5.out.trans hb6)
        clear ho6 hb6 c2
        go_wp2
        go_roundw
        case rel => exact ⟨k + 1, ya, yc, by omega, by go_num, rfl, HO6, HBL6⟩
        case measure => simp [intOf]; omega
    · obtain rfl : k = n := by omega
      have HOF := Kp.mk (show wr.ownsRow w.heap.size 3 1 (.slice oa k oc) k (ints (l.map Int.ofNat)) from by
        have := own_base HO.out (show w.heap.size ≤ B' from by rw [HBE.out]; exact HB3.out.size)
        rwa [List.take_of_length_le (by rw [HF.out.len]; omega)] at this)
      have HBF := Kp.mk (HB3.out.trans (hb3r.mono HB3.out.size))
      go_wp2
      refine bodyPost_ret (v := .tuple #[.slice oa k oc, .bool true]) (by simp [results, Try.results92, go_sem]) rfl ?_
      exact ⟨oa, oc, rfl, HOF, HBF⟩

end Go.Proofs.Ytjicgndahpffbaa
