import Derived.Test.YtladgklnacihkaaGreatMg10
import Derived.Test.YtladgklnacihkaaGreatMg6
import Derived.Test.YtladgklnacihkaaGreatMg7
/- sort.SearchInts. -/
namespace Go.Proofs.YtladgklnacihkaaGreat
set_option linter.unusedVariables false
open Go.RowKit

set_option maxRecDepth 100000 in
set_option maxHeartbeats 1000000 in
theorem sitest_any (l : List Int) (n p q k : Nat) (x : Int) (a : Option Addr) (cap : Nat) (W : World) (h : SlI W a cap l) (hl : l.length = n) (hp : W.cell? ⟨p, 0, none⟩ = some (.slice a n cap)) (hq : W.cell? ⟨q, 0, none⟩ = some (.int .i64 x)) (hk : k < n) :
    Calls Tryz.prog 82 #[.int .i64 k, .pointer (some ⟨p, 0, none⟩), .pointer (some ⟨q, 0, none⟩)] W fun e w' => e = .returned (.bool (decide (x ≤ l.getD k 0))) ∧ Drew W w' := by
  obtain ⟨b, off, rfl, c⟩ := h.at k (by omega)
  have HV := Kp.mk (getD_at l 0 (show k < l.length by omega))
  generalize l[k] = y at *
  have hkn : (k : Int) < n := by omega
  clear h hl
  go_enter Tryz.func82, Tryz.ntmps82
  go_wp2
  go_quiet (fail)
  go_wp2
  go_ret
  exact ⟨by rw [HV.out]; rfl, ⟨_, rfl⟩⟩

set_option maxRecDepth 100000 in
set_option maxHeartbeats 1000000 in
theorem srchInts_any (a : Option Addr) (cap n : Nat) (l : List Int) (x : Int) (w : World) (h : SlI w a cap l) (hl : l.length = n) (hn : n ≤ 100000) (hs : ∀ i j, i ≤ j → j < n → l.getD i 0 ≤ l.getD j 0) :
    Calls Tryz.prog 52 #[.slice a n cap, .int .i64 x] w fun e w' => ∃ k : Nat, e = .returned (.int .i64 k) ∧ k ≤ n ∧ Kp (∀ i, i < k → l.getD i 0 < x) ∧ Kp (k < n → x ≤ l.getD k 0) ∧ Kp (Below w.heap.size w w') := by
  have HF := Kp.mk (fun (W : World) (hb : Below w.heap.size w W) (p q : Nat) (hp : W.cell? ⟨p, 0, none⟩ = some (.slice a n cap)) (hq : W.cell? ⟨q, 0, none⟩ = some (.int .i64 x)) =>
    search_any 82 #[.pointer (some ⟨p, 0, none⟩), .pointer (some ⟨q, 0, none⟩)] (fun k => decide (x ≤ l.getD k 0)) n (enters_of Tryz.func82 (by kernel_rfl) rfl) W (by omega)
      (fun W2 hd k hk => sitest_any l n p q k x a cap W2 ((h.below hb).below (hd.below _)) hl ((hd.cell _).trans hp) ((hd.cell _).trans hq) hk)
      (fun i j hij hj hi => by
        have := hs i j hij hj
        rw [decide_eq_true_eq] at hi ⊢
        omega))
  clear h hl hs
  go_enter Tryz.func52, Tryz.ntmps52
  go_wp2_with fail
  have hb1 := below_alloc (Nat.le_refl w.heap.size) (.cells #[.slice a n cap] 37)
  have hb2 := below_then_alloc hb1 (.cells #[.int .i64 x] 3)
  have hp := ((Box.new w #[.slice a n cap] 37).alloc (.cells #[.int .i64 x] 3)).cell 0 rfl
  have hq := (Box.new (w.alloc (.cells #[.slice a n cap] 37)) #[.int .i64 x] 3).cell 0 rfl
  rw [alloc_size] at hq
  refine (HF.out _ hb2 _ _ hp hq).mono ?_
  rintro e w1 ⟨k, rfl, hk, h1, h2, hd⟩
  have H1 := Kp.mk (show ∀ i, i < k → l.getD i 0 < x from fun i hi => by have := h1 i hi; rw [decide_eq_false_iff_not] at this; omega)
  have H2 := Kp.mk (show k < n → x ≤ l.getD k 0 from fun h => by have := h2 h; rwa [decide_eq_true_eq] at this)
  have HB := Kp.mk (hb2.trans (hd.below _))
  clear hb1 hb2 hp hq h1 h2 hd HF
  go_wp2
  go_ret
  exact ⟨k, rfl, hk, H1, H2, HB⟩

end Go.Proofs.YtladgklnacihkaaGreat

/- Package ranks: Make, Find. -/
namespace Go.Proofs.YtladgklnacihkaaGreat
set_option linter.unusedVariables false
open Go.RowKit

/-- sort.SearchInts: the rank. -/
theorem srank_any (a : Option Addr) (cap n : Nat) (V : List Int) (x : Int) (w : World) (h : SlI w a cap V) (hl : V.length = n) (hn : n ≤ 100000) (hu : Up V) :
    Calls Tryz.prog 52 #[.slice a n cap, .int .i64 x] w fun e w' => ∃ k : Nat, e = .returned (.int .i64 k) ∧ Kp (IsRk V x k) ∧ Kp (Below w.heap.size w w') :=
  (srchInts_any a cap n V x w h hl hn (fun i j hij hj => up_le hu hij (by rw [hl]; exact hj))).mono fun e w' ⟨k, h1, h2, h3, h4, h5⟩ => ⟨k, h1, ⟨by rw [hl]; exact h2, h3.out, by rw [hl]; exact h4.out⟩, h5⟩

set_option maxRecDepth 100000 in
set_option maxHeartbeats 2000000 in
theorem rmake_any (a : Option Addr) (cap n : Nat) (l : List Int) (w : World) (h : SlI w a cap l) (hl : l.length = n) (hn : n ≤ 300) :
    Calls Tryz.prog 30 #[.slice a n cap] w fun e w' => ∃ va v vc ra rc R, e = .returned (.tuple #[.slice va v vc, .slice ra n rc, .int .i64 0]) ∧ Kp ((valL l).length = v) ∧ Kp (SlI w' va vc (valL l)) ∧ Kp (SlI w' ra rc (R.map Int.ofNat)) ∧ Kp (Rks l (valL l) R) ∧ Kp (Below w.heap.size w w') := by
  have hal := below_alloc (Nat.le_refl w.heap.size) (.cells #[.slice a n cap] 37)
  have hbx := (Box.new w #[.slice a n cap] 37).cell 0 rfl
  have CS := Kp.mk (sorted_any a cap n w.heap.size l w _ h hl (by omega) hal hbx)
  have H := Kp.mk h
  have HL := Kp.mk hl
  have HA := Kp.mk hal
  have hn' : ¬ (300 < (n : Int)) := by omega
  clear h hl hal hbx
  go_enter Tryz.func30, Tryz.ntmps30
  go_wp2_with fail
  refine (values_any a n cap w).mono ?_
  rintro e w' ⟨rfl, rfl⟩
  go_wp2_with fail
  refine CS.out.mono ?_
  rintro e w1 ⟨sa, sc, rfl, HS, HB1⟩
  have hs1 : (w.alloc (.cells #[.slice a n cap] 37)).heap.size ≤ w1.heap.size := HB1.out.size
  go_wp2_with fail
  refine (compact_own _ sa sc n _ w1 HS.out (by rw [List.length_mergeSort]; exact HL.out) (by omega) hs1).mono ?_
  rintro e w2 ⟨v, rfl, hv, HV, HB2⟩
  have HVL := Kp.mk (show (valL l).length = v from by unfold valL; exact hv.symm)
  have HVS := Kp.mk (show SlI w2 sa sc (valL l) from by
    have := own_sl_len HV.out hv.symm
    unfold valL; exact this)
  have HBW := Kp.mk (show Below w.heap.size w w2 from HA.out.trans ((HB1.out.trans HB2.out).mono (by rw [alloc_size]; omega)))
  have HVU := Kp.mk (valL_up l)
  have hv3 : v ≤ 300 := by have := valL_length l; have := HVL.out; have := HL.out; omega
  obtain ⟨B, hB⟩ : ∃ B, B = w2.heap.size := ⟨_, rfl⟩
  have HBE := Kp.mk hB
  obtain ⟨V, hVe⟩ : ∃ V, V = valL l := ⟨_, rfl⟩
  rw [← hVe] at HVL HVS HVU
  have HVE := Kp.mk hVe
  clear CS HS HB1 HB2 HV hv hB hs1 HA hVe
  go_wp2
  go_loopw [3, 16] (fun x i wr => ∃ (k : Nat) (ra : Option Addr) (rc : Nat) (R : List Nat), k ≤ n ∧ i = .int .i64 k ∧ x = .slice ra k rc ∧ Kp (R.length = k) ∧ Kp (∀ i, i < k → IsRk V (l.getD i 0) (R.getD i 0)) ∧ Kp (wr.ownsRow B 3 1 (.slice ra k rc) k (ints (R.map Int.ofNat))) ∧ Kp (Below B w2 wr)) (fun _ i _ => n - (intOf i).toNat)
  case atStart => exact ⟨0, none, 0, [], Nat.zero_le _, rfl, rfl, ⟨rfl⟩, ⟨fun i hi => by omega⟩, ⟨World.ownsRow_nil _ _ _ _⟩, ⟨Below.refl _ _⟩⟩
  case round =>
    obtain ⟨k, ra, rc, R, hk, rfl, rfl, HRL, HRK, HO, HBL⟩ := hrel
    have hb2r : Below w2.heap.size w2 wr := by rw [← HBE.out]; exact HBL.out
    by_cases hlt : k < n
    · obtain ⟨b, off, rfl, cx⟩ := (H.out.below (HBW.out.trans (hb2r.mono HBW.out.size))).at k (by rw [HL.out]; exact hlt)
      have hbW : B ≤ wr.heap.size := by rw [HBE.out]; exact hb2r.size
      have hg := getD_at l 0 (show k < l.length by rw [HL.out]; exact hlt)
      have CR := Kp.mk (srank_any sa sc v V (l[k]'(by rw [HL.out]; exact hlt)) wr (HVS.out.below hb2r) HVL.out (by omega) HVU.out)
      have HG := Kp.mk hg
      generalize l[k]'(by rw [HL.out]; exact hlt) = x at *
      clear hg
      go_wp2_with fail
      refine CR.out.mono ?_
      rintro e w3 ⟨r, rfl, HIR, HB3⟩
      have HO3 := Kp.mk (own_below HO.out HB3.out)
      have HBL3 := Kp.mk (HBL.out.trans (HB3.out.mono hbW))
      have hb3 : B ≤ w3.heap.size := Nat.le_trans hbW HB3.out.size
      clear CR HO cx
      go_wp2_with (at_builtin; refine wpList_push tInts rfl _ _ rfl B ra k rc _ rfl HO3.out 1 1 _ rfl rfl ?d1 (by decide) ?d2 (by decide) hb3 ?d4)
      case d1 => simp [Value.oneCell']
      case d2 => omega
      case d4 =>
        intro ya yc w4 ho4 hb4
        have HO4 := Kp.mk (show w4.ownsRow B 3 1 (.slice ya (k + 1) yc) (k + 1) (ints ((R ++ [r]).map Int.ofNat)) from by
          rw [List.map_append, ints_append]; exact ho4)
        have HRK4 := Kp.mk (show ∀ i, i < k + 1 → IsRk V (l.getD i 0) ((R ++ [r]).getD i 0) from fun i hi => by
          by_cases hik : i = k
          · subst hik
            rw [HG.out, show (R ++ [r]).getD i 0 = r by rw [getD_at _ _ (by rw [List.length_append, HRL.out]; simp), List.getElem_append_right (by rw [HRL.out]; exact Nat.le_refl _)]; simp]
            exact HIR.out
          · have hi' : i < k := by omega
            rw [show (R ++ [r]).getD i 0 = R.getD i 0 by rw [getD_at _ _ (by rw [List.length_append, HRL.out]; simp; omega), getD_at _ _ (by rw [HRL.out]; exact hi'), List.getElem_append_left]]
            exact HRK.out i hi')
        have HRL4 := Kp.mk (show (R ++ [r]).length = k + 1 by rw [List.length_append, HRL.out]; rfl)
        have HBL4 := Kp.mk (HBL3.out.trans hb4)
        clear ho4 hb4
        go_wp2
        go_roundw
        case rel => exact ⟨k + 1, ya, yc, R ++ [r], by omega, by go_num, rfl, HRL4, HRK4, HO4, HBL4⟩
        case measure => simp [intOf]; omega
    · obtain rfl : k = n := by omega
      have HVr := Kp.mk (HVS.out.below hb2r)
      have HBr := Kp.mk (HBW.out.trans (hb2r.mono HBW.out.size))
      go_wp2_with fail
      refine (clone_any sa sc v V wr HVr.out HVL.out (by omega)).mono ?_
      rintro e w3 ⟨ca, cc, rfl, hcl, hb3⟩
      have HC := Kp.mk hcl.sl
      have HR3 := Kp.mk (show SlI w3 ra rc (R.map Int.ofNat) from (own_sl_len HO.out (by rw [List.length_map]; exact HRL.out)).below hb3)
      have HB3 := Kp.mk (HBr.out.trans (hb3.mono HBr.out.size))
      have HRF := Kp.mk (show Rks l V R from ⟨by rw [HRL.out, HL.out], by rw [HL.out]; exact HRK.out⟩)
      clear hcl hb3
      go_wp2
      refine bodyPost_ret (v := .tuple #[.slice ca v cc, .slice ra k rc, .int .i64 0]) (by simp [results, Tryz.results30, go_sem]) rfl ?_
      refine ⟨ca, v, cc, ra, rc, R, rfl, ?_⟩
      rw [← HVE.out]
      exact ⟨HVL, HC, HR3, HRF, HB3⟩

end Go.Proofs.YtladgklnacihkaaGreat

/- Slices of words of 64 bits. -/
namespace Go.Proofs.YtladgklnacihkaaGreat
set_option linter.unusedVariables false
open Go.RowKit

theorem info_word : (Tryz.prog.info? 142).map (fun i => (i.zero, i.size, i.bytes)) = some (some (.int .u64 0), 1, 8) := by kernel_rfl
theorem tWords : ElemTy Tryz.prog 112 142 1 8 (.int .u64 0) :=
  ⟨Tryz.underlying112, by obtain ⟨i0, hi, h0, h1, h2⟩ := info_parts info_word; exact ⟨i0, hi, h0, h1, h2⟩, rfl, by decide⟩
def wds (l : List Nat) : List Value := l.map fun (n : Nat) => .int .u64 (n : Int)
theorem wds_length (l : List Nat) : (wds l).length = l.length := by simp [wds]
theorem wds_set (l : List Nat) (i x : Nat) : (wds l).set i (.int .u64 x) = wds (l.set i x) := by simp [wds, List.map_set]
theorem wds_cell {w : World} {B e g m cap j N : Nat} (h : w.ownsRow B e 1 (.slice (some ⟨g, 0, none⟩) m cap) m (wds (wordsOf N m))) (hj : j < m) :
    w.cell? ⟨g, j, none⟩ = some (.int .u64 (wrd N j)) := by
  rw [h.cellAt j (by omega)]
  simp [wds, wordsOf_get N m j hj]

theorem wrap_shl (n r : Nat) : IntKind.u64.wrap ((n : Int) * 2 ^ r) = ((n * 2 ^ r % 2 ^ 64 : Nat) : Int) := by
  have e : (n : Int) * 2 ^ r = ((n * 2 ^ r : Nat) : Int) := by push_cast; rfl
  rw [e, IntKind.wrap_u64]
  generalize n * 2 ^ r = y
  omega
theorem or_shl (x n r : Nat) (hx : x < 18446744073709551616) : bits .or .u64 (x : Int) (IntKind.u64.wrap ((n : Int) * 2 ^ r)) = ((x ||| n * 2 ^ r % 2 ^ 64 : Nat) : Int) := by
  rw [wrap_shl]
  exact u64_or_nat x _ hx (Nat.mod_lt _ (by decide))

end Go.Proofs.YtladgklnacihkaaGreat

