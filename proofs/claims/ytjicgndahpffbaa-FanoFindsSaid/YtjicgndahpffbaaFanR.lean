/- Package fano: read, May, At, Next. -/
import Derived.Test.YtjicgndahpffbaaFanA
namespace Go.Proofs.Ytjicgndahpffbaa
set_option linter.unusedVariables false
open Go.RowKit

set_option maxRecDepth 100000 in
set_option maxHeartbeats 1000000 in
theorem sameBits_same (n : Nat) (a b : Option Addr) (c d m : Nat) (l : List Nat) (w : World) (h1 : SlC w a m c 1 (wds l)) (h2 : SlC w b m d 1 (wds l)) (hm : m ≤ 100000) :
    Calls Try.prog 94 #[.agg #[.int .i64 n, .slice a m c], .agg #[.int .i64 n, .slice b m d]] w fun e w' => e = .returned (.bool true) ∧ Below w.heap.size w w' := by
  have hb1 := below_alloc (Nat.le_refl w.heap.size) (.cells #[.int .i64 n, .slice a m c] 42)
  have hb2 := below_then_alloc hb1 (.cells #[.int .i64 n, .slice b m d] 42)
  have HB := Kp.mk hb2
  have hx := (Box.new w #[.int .i64 n, .slice a m c] 42).alloc (.cells #[.int .i64 n, .slice b m d] 42)
  have hy := Box.new (w.alloc (.cells #[.int .i64 n, .slice a m c] 42)) #[.int .i64 n, .slice b m d] 42
  rw [alloc_size] at hy
  have H1 := Kp.mk (h1.below hb2)
  have H2 := Kp.mk (h2.below hb2)
  have x0 := hx.cell 0 rfl
  have x1 := hx.cell 1 rfl
  have y0 := hy.cell 0 rfl
  have y1 := hy.cell 1 rfl
  clear h1 h2 hb1 hb2 hx hy
  go_enter Try.func94, Try.ntmps94
  go_wp2_with fail
  refine (eqWords_same a b c d m l _ H1.out H2.out (by omega)).mono ?_
  rintro e w1 ⟨rfl, hb3⟩
  have HF := Kp.mk (below_step HB.out hb3)
  clear hb3
  go_wp2
  go_ret
  exact ⟨rfl, HF.out⟩

/-- What is told of an encoded list that is read. -/
def FanIn (w : World) (B bound n wd hn : Nat) (la ha : Option Addr) (lc hc : Nat) (l : List Nat) : Prop :=
  IsFan w B bound n wd hn la ha lc hc l ∧ n ≤ 300 ∧ bound ≤ 1048576 ∧ Ris l ∧ ∀ i, i < n → l.getD i 0 ≤ bound
theorem FanIn.below {w w' : World} {B bound n wd hn : Nat} {la ha : Option Addr} {lc hc : Nat} {l : List Nat} (h : FanIn w B bound n wd hn la ha lc hc l) (hb : Below w.heap.size w w') : FanIn w' B bound n wd hn la ha lc hc l :=
  ⟨h.1.below hb, h.2⟩

set_option maxRecDepth 100000 in
set_option maxHeartbeats 2000000 in
theorem fread_any (bound n wd hn B : Nat) (la ha : Option Addr) (lc hc : Nat) (l : List Nat) (w : World) (hF : FanIn w B bound n wd hn la ha lc hc l) :
    Calls Try.prog 61 #[fanV bound n wd hn la ha lc hc] w fun e w' => ∃ oa oc, e = .returned (.tuple #[.slice oa n oc, .bool true]) ∧ Kp (SlI w' oa oc (l.map Int.ofNat)) ∧ Kp (Below w.heap.size w w') := by
  obtain ⟨hF, hn3, hb, hr, hx⟩ := hF
  obtain ⟨h1, h2, h3⟩ := hF.hnb hb
  have hal := below_alloc (Nat.le_refl w.heap.size) (.cells #[.int .i64 bound, .int .i64 n, .int .i64 wd, .slice la (wordsN n wd) lc, .int .i64 hn, .slice ha (bwN hn) hc] 44)
  have hbx := Box.new w #[.int .i64 bound, .int .i64 n, .int .i64 wd, .slice la (wordsN n wd) lc, .int .i64 hn, .slice ha (bwN hn) hc] 44
  have HF := Kp.mk (hF.below hal)
  have HA := Kp.mk hal
  have CA := Kp.mk (fun (W : World) (hW : IsFan W B bound n wd hn la ha lc hc l) => fall_any bound n wd hn B la ha lc hc l W hW hn3 hb hr hx)
  have CM := Kp.mk (fun (a : Option Addr) (cap : Nat) (W : World) (hW : SlI W a cap (l.map Int.ofNat)) => fmake_any a cap bound n l W hW hF.len hn3 hb hr hx)
  have HL := Kp.mk hF.len
  have HWD := Kp.mk hF.ewd
  have HHN := Kp.mk hF.ehn
  clear hF hr hx h3 hal
  go_enter Try.func61, Try.ntmps61
  go_upto_region 1 with (fail)
  obtain ⟨x, hxx⟩ : ∃ x, x = w.heap.size := ⟨_, rfl⟩
  rw [← hxx] at hbx ⊢
  have HBX := Kp.mk hbx
  clear hxx hbx
  generalize w.alloc (.cells #[.int .i64 bound, .int .i64 n, .int .i64 wd, .slice la (wordsN n wd) lc, .int .i64 hn, .slice ha (bwN hn) hc] 44) = w1 at *
  have c0 := HBX.out.cell 0 rfl
  have c1 := HBX.out.cell 1 rfl
  have c2 := HBX.out.cell 2 rfl
  have c3 := HBX.out.cell 3 rfl
  have c4 := HBX.out.cell 4 rfl
  have c5 := HBX.out.cell 5 rfl
  go_wp2_with fail
  refine (CA.out w1 HF.out).mono ?_
  rintro e w2 ⟨oa, oc, rfl, HO, HB2⟩
  have HSL := Kp.mk (show SlI w2 oa oc (l.map Int.ofNat) from own_sl_len HO.out (by rw [List.length_map]; exact HL.out))
  have HBX2 := Kp.mk (HBX.out.below HB2.out)
  have HF2 := Kp.mk (HF.out.below HB2.out)
  have HA2 := Kp.mk (HA.out.trans (HB2.out.mono HA.out.size))
  clear c0 c1 c2 c3 c4 c5 CA HBX HF HA HB2 HO
  have c0 := HBX2.out.cell 0 rfl
  go_wp2_with fail
  refine (CM.out oa oc w2 HSL.out).mono ?_
  rintro e w3 ⟨wd', hn', la', ha', lc', hc', rfl, HG, HB3⟩
  obtain rfl : wd' = wd := by rw [HG.out.ewd, HWD.out]
  obtain rfl : hn' = hn := by rw [HG.out.ehn, HHN.out]
  have hal := below_alloc (Nat.le_refl w3.heap.size) (.cells #[.int .i64 bound, .int .i64 n, .int .i64 wd', .slice la' (wordsN n wd') lc', .int .i64 hn', .slice ha' (bwN hn') hc'] 44)
  have HBY := Kp.mk (Box.new w3 #[.int .i64 bound, .int .i64 n, .int .i64 wd', .slice la' (wordsN n wd') lc', .int .i64 hn', .slice ha' (bwN hn') hc'] 44)
  have hb23 := below_step HB3.out hal
  have HBX3 := Kp.mk (HBX2.out.below hb23)
  have HF3 := Kp.mk (HF2.out.below hb23)
  have HG3 := Kp.mk (HG.out.below hal)
  have HS3 := Kp.mk (HSL.out.below hb23)
  have HA3 := Kp.mk (HA2.out.trans (hb23.mono HA2.out.size))
  clear c0 hal hb23 HBX2 HF2 HG HSL HA2 HB3 CM
  go_upto_region 5 with (fail)
  obtain ⟨y, hy⟩ : ∃ y, y = w3.heap.size := ⟨_, rfl⟩
  rw [← hy] at HBY ⊢
  clear hy
  have HBY3 := HBY
  clear HBY
  generalize w3.alloc (.cells #[.int .i64 bound, .int .i64 n, .int .i64 wd', .slice la' (wordsN n wd') lc', .int .i64 hn', .slice ha' (bwN hn') hc'] 44) = w4 at *
  have c2 := HBX3.out.cell 2 rfl
  have c3 := HBX3.out.cell 3 rfl
  have c4 := HBX3.out.cell 4 rfl
  have c5 := HBX3.out.cell 5 rfl
  have d2 := HBY3.out.cell 2 rfl
  have d3 := HBY3.out.cell 3 rfl
  have d4 := HBY3.out.cell 4 rfl
  have d5 := HBY3.out.cell 5 rfl
  have hwz : wordsN n wd' ≤ 1000000 := by
    have : n * wd' ≤ 300 * 20 := Nat.mul_le_mul hn3 h2
    unfold wordsN; omega
  have hbz : bwN hn' ≤ 100000 := by unfold bwN; omega
  go_wp2_with fail
  refine (eqWords_same la la' lc lc' _ _ w4 (own_slc HF3.out.low) (own_slc HG3.out.low) hwz).mono ?_
  rintro e w5 ⟨rfl, hb5⟩
  have HBX5 := Kp.mk (HBX3.out.below hb5)
  have HBY5 := Kp.mk (HBY3.out.below hb5)
  have HF5 := Kp.mk (HF3.out.below hb5)
  have HG5 := Kp.mk (HG3.out.below hb5)
  have HS5 := Kp.mk (HS3.out.below hb5)
  have HA5 := Kp.mk (HA3.out.trans (hb5.mono HA3.out.size))
  clear c2 c3 c4 c5 d2 d3 d4 d5 hb5 HBX3 HBY3 HF3 HG3 HS3 HA3
  have c2 := HBX5.out.cell 2 rfl
  have c3 := HBX5.out.cell 3 rfl
  have c4 := HBX5.out.cell 4 rfl
  have c5 := HBX5.out.cell 5 rfl
  have d2 := HBY5.out.cell 2 rfl
  have d3 := HBY5.out.cell 3 rfl
  have d4 := HBY5.out.cell 4 rfl
  have d5 := HBY5.out.cell 5 rfl
  go_wp2_with fail
  refine (sameBits_same hn' ha ha' hc hc' _ _ w5 (own_slc HF5.out.high) (own_slc HG5.out.high) hbz).mono ?_
  rintro e w6 ⟨rfl, hb6⟩
  have HS6 := Kp.mk (HS5.out.below hb6)
  have HA6 := Kp.mk (HA5.out.trans (hb6.mono HA5.out.size))
  clear c2 c3 c4 c5 d2 d3 d4 d5 hb6
  go_wp2
  refine bodyPost_ret (v := .tuple #[.slice oa n oc, .bool true]) (by simp [results, Try.results61, go_sem]) rfl ?_
  exact ⟨oa, oc, rfl, HS6, HA6⟩

set_option maxRecDepth 100000 in
set_option maxHeartbeats 1000000 in
theorem fmay_any (bound n wd hn B : Nat) (la ha : Option Addr) (lc hc : Nat) (l : List Nat) (w : World) (hF : FanIn w B bound n wd hn la ha lc hc l) :
    Calls Try.prog 26 #[fanV bound n wd hn la ha lc hc] w fun e w' => e = .returned (.bool true) ∧ Below w.heap.size w w' := by
  have hal := below_alloc (Nat.le_refl w.heap.size) (.cells #[.int .i64 bound, .int .i64 n, .int .i64 wd, .slice la (wordsN n wd) lc, .int .i64 hn, .slice ha (bwN hn) hc] 44)
  have C := Kp.mk (fread_any bound n wd hn B la ha lc hc l _ (hF.below hal))
  have HA := Kp.mk hal
  have hbx := Box.new w #[.int .i64 bound, .int .i64 n, .int .i64 wd, .slice la (wordsN n wd) lc, .int .i64 hn, .slice ha (bwN hn) hc] 44
  have c0 := hbx.cell 0 rfl
  have c1 := hbx.cell 1 rfl
  have c2 := hbx.cell 2 rfl
  have c3 := hbx.cell 3 rfl
  have c4 := hbx.cell 4 rfl
  have c5 := hbx.cell 5 rfl
  clear hF hal hbx
  go_enter Try.func26, Try.ntmps26
  go_wp2_with fail
  refine C.out.mono ?_
  rintro e w1 ⟨oa, oc, rfl, HS, HB⟩
  have HF := Kp.mk (below_step HA.out HB.out)
  clear c0 c1 c2 c3 c4 c5
  go_wp2
  go_ret
  exact ⟨rfl, HF.out⟩

set_option maxRecDepth 100000 in
set_option maxHeartbeats 1000000 in
theorem fat_any (bound n wd hn B i : Nat) (la ha : Option Addr) (lc hc : Nat) (l : List Nat) (w : World) (hF : FanIn w B bound n wd hn la ha lc hc l) (hi : i ≤ n) :
    Calls Try.prog 27 #[fanV bound n wd hn la ha lc hc, .int .i64 i] w fun e w' => (i < n → e = .returned (.tuple #[.int .i64 (l.getD i 0 : Nat), .int .i64 0])) ∧ (i = n → e = .returned (.tuple #[.int .i64 0, .int .i64 2])) ∧ Below w.heap.size w w' := by
  have hal := below_alloc (Nat.le_refl w.heap.size) (.cells #[.int .i64 bound, .int .i64 n, .int .i64 wd, .slice la (wordsN n wd) lc, .int .i64 hn, .slice ha (bwN hn) hc] 44)
  have C := Kp.mk (fread_any bound n wd hn B la ha lc hc l _ (hF.below hal))
  have HA := Kp.mk hal
  have HL := Kp.mk hF.1.len
  have hn3 := hF.2.1
  have hbx := Box.new w #[.int .i64 bound, .int .i64 n, .int .i64 wd, .slice la (wordsN n wd) lc, .int .i64 hn, .slice ha (bwN hn) hc] 44
  have c0 := hbx.cell 0 rfl
  have c1 := hbx.cell 1 rfl
  have c2 := hbx.cell 2 rfl
  have c3 := hbx.cell 3 rfl
  have c4 := hbx.cell 4 rfl
  have c5 := hbx.cell 5 rfl
  clear hF hal hbx
  go_enter Try.func27, Try.ntmps27
  go_wp2_with fail
  refine C.out.mono ?_
  rintro e w1 ⟨oa, oc, rfl, HS, HB⟩
  have HF := Kp.mk (below_step HA.out HB.out)
  clear c0 c1 c2 c3 c4 c5
  have t1 : decide ((i : Int) < 0) = false := decide_eq_false (by omega)
  by_cases hlt : i < n
  · have t2 : decide ((n : Int) ≤ i) = false := decide_eq_false (by omega)
    have t3 : decide (n ≤ i) = false := decide_eq_false (by omega)
    obtain ⟨b, off, rfl, ci⟩ := HS.out.at i (by rw [List.length_map, HL.out]; exact hlt)
    have e0 : (l.map Int.ofNat)[i]'(by rw [List.length_map, HL.out]; exact hlt) = ((l.getD i 0 : Nat) : Int) := by rw [getD_at _ _ (by rw [HL.out]; exact hlt)]; simp
    rw [e0] at ci
    obtain ⟨v, hv⟩ : ∃ v, v = l.getD i 0 := ⟨_, rfl⟩
    rw [← hv] at ci
    have HV := Kp.mk hv
    clear e0 hv
    go_wp2
    refine bodyPost_ret (v := .tuple #[.int .i64 v, .int .i64 0]) (by simp [results, Try.results27, go_sem]) rfl ?_
    exact ⟨fun _ => by rw [HV.out], fun h => by omega, HF.out⟩
  · have t2 : decide ((n : Int) ≤ i) = true := decide_eq_true (by omega)
    have t3 : decide (n ≤ i) = true := decide_eq_true (by omega)
    have t4 : (n : Int) ≤ i := by omega
    have t5 : n ≤ i := by omega
    go_wp2
    refine bodyPost_ret (v := .tuple #[.int .i64 0, .int .i64 2]) (by simp [results, Try.results27, go_sem]) rfl ?_
    exact ⟨fun h => by omega, fun _ => rfl, HF.out⟩

set_option maxRecDepth 100000 in
set_option maxHeartbeats 1000000 in
theorem fnext_any (bound n wd hn B x : Nat) (la ha : Option Addr) (lc hc : Nat) (l : List Nat) (w : World) (hF : FanIn w B bound n wd hn la ha lc hc l) :
    Calls Try.prog 28 #[fanV bound n wd hn la ha lc hc, .int .i64 x] w fun e w' => ∃ k : Nat, k ≤ n ∧ Kp (∀ i, i < k → l.getD i 0 < x) ∧ Kp (k < n → x ≤ l.getD k 0) ∧ (k < n → e = .returned (.tuple #[.int .i64 k, .int .i64 0])) ∧ (k = n → e = .returned (.tuple #[.int .i64 0, .int .i64 7])) ∧ Below w.heap.size w w' := by
  have hal := below_alloc (Nat.le_refl w.heap.size) (.cells #[.int .i64 bound, .int .i64 n, .int .i64 wd, .slice la (wordsN n wd) lc, .int .i64 hn, .slice ha (bwN hn) hc] 44)
  have C := Kp.mk (fread_any bound n wd hn B la ha lc hc l _ (hF.below hal))
  have HA := Kp.mk hal
  have HL := Kp.mk hF.1.len
  have hn3 := hF.2.1
  have HR := Kp.mk hF.2.2.2.1
  have hgd : ∀ i, i < n → (l.map Int.ofNat).getD i 0 = ((l.getD i 0 : Nat) : Int) := fun i hi => by
    rw [getD_at _ _ (by rw [List.length_map, hF.1.len]; exact hi), getD_at _ _ (by rw [hF.1.len]; exact hi)]; simp
  have HGD := Kp.mk hgd
  have hbx := Box.new w #[.int .i64 bound, .int .i64 n, .int .i64 wd, .slice la (wordsN n wd) lc, .int .i64 hn, .slice ha (bwN hn) hc] 44
  have c0 := hbx.cell 0 rfl
  have c1 := hbx.cell 1 rfl
  have c2 := hbx.cell 2 rfl
  have c3 := hbx.cell 3 rfl
  have c4 := hbx.cell 4 rfl
  have c5 := hbx.cell 5 rfl
  clear hF hal hbx hgd
  go_enter Try.func28, Try.ntmps28
  go_wp2_with fail
  refine C.out.mono ?_
  rintro e w1 ⟨oa, oc, rfl, HS, HB⟩
  have HF := Kp.mk (below_step HA.out HB.out)
  have HML := Kp.mk (show (l.map Int.ofNat).length = n from by rw [List.length_map]; exact HL.out)
  clear c0 c1 c2 c3 c4 c5
  go_wp2_with fail
  refine (srchInts_any oa oc n (l.map Int.ofNat) x w1 HS.out HML.out (by omega) (fun i j hij hj => by
    rw [HGD.out i (by omega), HGD.out j hj]
    have := HR.out i j hij (by rw [HL.out]; exact hj)
    omega)).mono ?_
  rintro e w2 ⟨k, rfl, hk, h1, h2, hb2⟩
  have H1 := Kp.mk (show ∀ i, i < k → l.getD i 0 < x from fun i hi => by
    have := h1.out i hi
    rw [HGD.out i (by omega)] at this; omega)
  have H2 := Kp.mk (show k < n → x ≤ l.getD k 0 from fun hi => by
    have := h2.out hi
    rw [HGD.out k hi] at this; omega)
  have HF2 := Kp.mk (below_step HF.out hb2.out)
  clear h1 h2 hb2
  by_cases hlt : k < n
  · have t1 : ((k : Int) == (n : Int)) = false := beq_eq_false_iff_ne.2 (by omega)
    have t2 : ¬ (k : Int) = n := by omega
    have t3 : ¬ k = n := by omega
    go_wp2
    refine bodyPost_ret (v := .tuple #[.int .i64 k, .int .i64 0]) (by simp [results, Try.results28, go_sem]) rfl ?_
    exact ⟨k, hk, H1, H2, fun _ => rfl, fun h => absurd h t3, HF2.out⟩
  · obtain rfl : k = n := by omega
    go_wp2
    refine bodyPost_ret (v := .tuple #[.int .i64 0, .int .i64 7]) (by simp [results, Try.results28, go_sem]) rfl ?_
    exact ⟨k, hk, H1, H2, fun h => absurd h (by omega), fun _ => rfl, HF2.out⟩

end Go.Proofs.Ytjicgndahpffbaa
