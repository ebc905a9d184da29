/- Package pack: what does not fit, and how wide numbers are. -/
import Derived.Test.YtjofajpcchncpaaPackM
import Derived.Test.YtjofajpcchncpaaShelf
namespace Go.Proofs.Ytjofajpcchncpaa
set_option linter.unusedVariables false
open Go.RowKit

set_option maxHeartbeats 1000000 in
theorem make_bad (a : Option Addr) (cap wd n : Nat) (L : List Nat) (w : World) (h : SlI w a cap (L.map Int.ofNat)) (hn : L.length = n) (j : Nat) (hl : n ≤ 300) (hw : wd ≤ 62) (hj : j < n) (hbad : 2 ^ wd ≤ L.getD j 0) (hbig : L.getD j 0 < 2 ^ 62) (hx : ∀ i, i < j → L.getD i 0 < 2 ^ wd) :
    Calls Try.prog 39 #[.int .i64 wd, .slice a n cap] w (fun e w' => e = .returned (.tuple #[.agg #[.int .i64 0, .int .i64 0, .slice none 0 0], .int .i64 2]) ∧ Below w.heap.size w w') := by
  have H := Kp.mk h
  have HX := Kp.mk hx
  have HN := Kp.mk hn
  have HBA := Kp.mk hbad
  have HBI := Kp.mk hbig
  clear h hx hn hbad hbig
  go_enter Try.func39, Try.ntmps39
  go_wp2_with fail
  refine (words_any n wd _ (by omega) hw).mono ?_
  rintro e w1 ⟨rfl, rfl⟩
  have hm1 : wordsN n wd ≤ 300 := by
    have h1 : n * wd ≤ 300 * 62 := Nat.mul_le_mul hl hw
    unfold wordsN; omega
  have hm2 : n * wd ≤ 64 * wordsN n wd := by unfold wordsN; omega
  generalize hm : wordsN n wd = m at *
  have HM := Kp.mk hm
  have HM2 := Kp.mk hm2
  clear hm hm2
  go_wp2_with (at_make; refine wpList_mk1 makeWords rfl rfl _ _ rfl (w.heap.size + 1) m rfl rfl ?c1 (by decide) ?c2 ?c3)
  case c1 => omega
  case c2 => exact Nat.le_of_eq (Array.size_push _).symm
  case c3 =>
    intro sa cap1 w2 hown hbel
    go_wp2
    obtain ⟨W, hW⟩ : ∃ W, W = w2.alloc (Obj.cells #[Value.int IntKind.i64 ↑n, Value.int IntKind.i64 ↑wd, Value.slice sa m cap1] 60) := ⟨_, rfl⟩
    rw [← hW]
    have hlt := own_lt hown
    have hbW : Below w2.heap.size w2 W := by rw [hW]; exact below_alloc (Nat.le_refl _) _
    have hownW := own_below hown hbW
    have h6 : W.heap[w2.heap.size]? = some (Obj.cells #[Value.int IntKind.i64 ↑n, Value.int IntKind.i64 ↑wd, Value.slice sa m cap1] 60) := by rw [hW]; exact heap_alloc_new _ _
    have hw2 : w.heap.size + 1 ≤ w2.heap.size := by
      have := hbel.size
      rw [show (w.alloc (Obj.cells #[Value.int IntKind.i64 0, Value.int IntKind.i64 0, Value.slice none 0 0] 60)).heap.size = w.heap.size + 1 from Array.size_push _] at this
      exact this
    have hb2 : Below (w.heap.size + 1) (w.alloc (Obj.cells #[Value.int IntKind.i64 0, Value.int IntKind.i64 0, Value.slice none 0 0] 60)) W := hbel.trans (hbW.mono hw2)
    have h4 : W.heap[w.heap.size]? = some (Obj.cells #[Value.int IntKind.i64 0, Value.int IntKind.i64 0, Value.slice none 0 0] 60) := by
      rw [hb2.block _ (by omega)]; exact heap_alloc_new _ _
    have hBW : Below w.heap.size w W := (below_alloc (Nat.le_refl _) _).trans (hb2.mono (by omega))
    have hWs : w2.heap.size < W.heap.size := by
      rw [hW]; exact Nat.lt_of_lt_of_eq (Nat.lt_succ_self _) (Array.size_push _).symm
    clear hown hbW hb2 hbel hW
    go_loopw [31] (fun i wr => ∃ (k : Nat), k ≤ j ∧ i = .int .i64 k ∧ wr.ownsRow (w.heap.size + 1) 78 1 (.slice sa m cap1) m (wds (wordsOf (packN wd L k) m)) ∧ W.grownBy wr (blk sa)) (fun i _ => n - (intOf i).toNat)
    case atStart =>
      exact ⟨0, Nat.zero_le _, rfl, by rw [packN, wds_zero]; exact hownW, grown_refl _ _⟩
    case round =>
      obtain ⟨k, hk, rfl, hown', hgr⟩ := hrel
      have g6 : wr.heap[w2.heap.size]? = _ := (hgr.block _ hWs (fun e => by have := hlt _ e.symm; omega)).trans h6
      have g4 : wr.heap[w.heap.size]? = _ := (hgr.block _ (by omega) (fun e => by have := hlt _ e.symm; omega)).trans h4
      have hbwr : Below w.heap.size w wr := hBW.trans (below_of_grown hgr (by omega) (fun k e => by have := hlt _ e; omega))
      have HO := Kp.mk hown'
      have HG := Kp.mk hgr
      have HBW := Kp.mk hbwr
      have HS := SlI.below H.out hbwr
      have HLT := Kp.mk hlt
      clear hown' hgr hbwr hlt h6 h4 hBW hownW
      by_cases hkn : k < j
      · obtain ⟨b, off, rfl, c1⟩ := HS.at k (by rw [List.length_map, HN.out]; omega)
        clear HS
        have hxk := HX.out k hkn
        have e1 : (L.map Int.ofNat)[k]'(by rw [List.length_map, HN.out]; omega) = ((L.getD k 0 : Nat) : Int) := by
          have := HN.out
          simp [List.getD, List.getElem?_eq_getElem (show k < L.length by omega)]
        rw [e1] at c1
        obtain ⟨x, hxe⟩ : ∃ x, x = L.getD k 0 := ⟨_, rfl⟩
        rw [← hxe] at c1 hxk
        have t1 : (x : Int) / 2 ^ wd = 0 := by
          have : (x : Int) / 2 ^ wd = ((x / 2 ^ wd : Nat) : Int) := by push_cast; rfl
          rw [this, Nat.div_eq_of_lt hxk]; rfl
        obtain ⟨⟨d0, d1, d2⟩, -⟩ := box3 g6
        have HXK := Kp.mk hxk
        have HXE := Kp.mk hxe
        clear e1 hxk hxe
        have hkw : k * wd ≤ 300 * 62 := Nat.mul_le_mul (by omega) hw
        have hkw2 : IntKind.i64.wrap ((k : Int) * wd) = ((k * wd : Nat) : Int) := by
          have : (k : Int) * wd = ((k * wd : Nat) : Int) := by push_cast; rfl
          rw [this]; exact IntWalk.i64_in _ (by omega)
        generalize hp : k * wd = p at *
        have HP := Kp.mk hp
        clear hp
        go_wp2_with fail
        have hxs : x < 4611686018427387904 := Nat.lt_of_lt_of_le HXK.out (Nat.le_trans (Nat.pow_le_pow_right (by omega) hw) (by decide))
        have hpk : packN wd L k < 2 ^ p := by rw [← HP.out]; exact packN_lt wd L k (fun i hi => HX.out i (by omega))
        have hpk1 : packN wd L (k + 1) = packN wd L k + x * 2 ^ p := by rw [← HP.out, HXE.out]; rfl
        have hkn2 : p + wd ≤ 64 * m := by
          have h1 : (k + 1) * wd ≤ n * wd := Nat.mul_le_mul_right _ (by omega)
          rw [Nat.add_mul, Nat.one_mul, HP.out] at h1
          exact Nat.le_trans h1 HM2.out
        have hpk2 : packN wd L k + x * 2 ^ p < 2 ^ (64 * m) := by
          rw [← hpk1]
          refine Nat.lt_of_lt_of_le (packN_lt wd L (k + 1) (fun i hi => HX.out i (by omega))) (Nat.pow_le_pow_right (by omega) ?_)
          rw [Nat.add_mul, Nat.one_mul, HP.out]; exact hkn2
        refine (put_row (w.heap.size + 1) m cap1 (packN wd L k) x p sa wr HO.out hpk hxs (by omega) (fun h0 => ?_) hpk2).mono ?_
        · have := HXK.out
          by_cases hw0 : wd = 0
          · subst hw0; rw [Nat.pow_zero] at this; omega
          · omega
        rintro e w3 ⟨rfl, ho3, hg3⟩
        rw [← hpk1] at ho3
        have HO3 := Kp.mk ho3
        have HG3 := Kp.mk (grown_trans HG.out hg3)
        clear ho3 hg3 hpk hpk1 hpk2 HO g6 g4 d0 d1 d2 c1
        go_wp2
        go_roundw
        case rel => exact ⟨k + 1, by omega, by go_num, HO3.out, HG3.out⟩
        case measure => simp [intOf]; omega
      · have hkj : k = j := by omega
        subst hkj
        obtain ⟨b, off, rfl, c1⟩ := HS.at k (by rw [List.length_map, HN.out]; omega)
        clear HS
        have e1 : (L.map Int.ofNat)[k]'(by rw [List.length_map, HN.out]; omega) = ((L.getD k 0 : Nat) : Int) := by
          have := HN.out
          simp [List.getD, List.getElem?_eq_getElem (show k < L.length by omega)]
        rw [e1] at c1
        have hxb := HBI.out
        have t1 : (0 : Int) < (L.getD k 0 : Int) / 2 ^ wd := by
          have : ((L.getD k 0 : Nat) : Int) / 2 ^ wd = ((L.getD k 0 / 2 ^ wd : Nat) : Int) := by push_cast; rfl
          rw [this]
          have := Nat.div_pos HBA.out (Nat.pow_pos (n := wd) (show 0 < 2 by omega))
          omega
        clear HBA HBI e1
        generalize L.getD k 0 = x at *
        have t2 : decide (0 < (x : Int) / 2 ^ wd) = true := decide_eq_true t1
        clear t1
        obtain ⟨⟨b0, b1, b2⟩, f0, f1, f2⟩ := box3 g4
        go_wp2
        refine bodyPost_ret (v := .tuple #[.agg #[.int .i64 0, .int .i64 0, .slice none 0 0], .int .i64 2]) ?hr rfl ?hp
        case hr =>
          clear H HX HO HG HBW HLT g4 g6
          rw [results_cell_tmp rfl]
          go_simp
        case hp =>
          exact ⟨rfl, ((HBW.out.setCell (p := ⟨w.heap.size, 0, none⟩) (Nat.le_refl _) _).setCell (p := ⟨w.heap.size, 1, none⟩) (Nat.le_refl _) _).setCell (p := ⟨w.heap.size, 2, none⟩) (Nat.le_refl _) _⟩

/-- A width below zero. -/
theorem make_neg (wd : Int) (v : Option Addr) (n cap : Nat) (w : World) (hn : n ≤ 300) (h : wd < 0) (hb : -9223372036854775808 ≤ wd) :
    Calls Try.prog 39 #[.int .i64 wd, .slice v n cap] w (fun e w' => e = .returned (.tuple #[.agg #[.int .i64 0, .int .i64 0, .slice none 0 0], .int .i64 2]) ∧ Below w.heap.size w w') := by
  go_enter Try.func39, Try.ntmps39
  go_wp2
  refine bodyPost_ret (v := .tuple #[.agg #[.int .i64 0, .int .i64 0, .slice none 0 0], .int .i64 2]) ?hr rfl ?hp
  case hr =>
    rw [results_cell_tmp rfl]
    go_simp
  case hp => exact ⟨rfl, below_alloc (Nat.le_refl _) _⟩

theorem bitLenAux_lt : ∀ (f x : Nat), x < 2 ^ f → x < 2 ^ Lib.bitLenAux f x
  | 0, x, h => h
  | f + 1, x, h => by
    rw [Lib.bitLenAux]
    split
    · rename_i hx; rw [hx]; decide
    · have := bitLenAux_lt f (x / 2) (by rw [Nat.pow_succ] at h; omega)
      rw [Nat.pow_add]; omega
theorem bitLen_lt (x : Nat) (h : x < 2 ^ 64) : x < 2 ^ Lib.bitLen x := bitLenAux_lt 64 x h
theorem bitLenAux_pred : ∀ (f x : Nat), x ≠ 0 → 0 < f → 2 ^ (Lib.bitLenAux f x - 1) ≤ x
  | 0, x, h, hf => by omega
  | f + 1, x, h, _ => by
    rw [Lib.bitLenAux]
    rw [if_neg h, show 1 + Lib.bitLenAux f (x / 2) - 1 = Lib.bitLenAux f (x / 2) by omega]
    by_cases h2 : x / 2 = 0
    · rw [h2, show Lib.bitLenAux f 0 = 0 by cases f <;> simp [Lib.bitLenAux]]; simp; omega
    · by_cases hf : f = 0
      · subst hf; simp [Lib.bitLenAux]; omega
      · have := bitLenAux_pred f (x / 2) h2 (by omega)
        have h3 : 0 < Lib.bitLenAux f (x / 2) := by
          obtain ⟨f', rfl⟩ : ∃ f', f = f' + 1 := ⟨f - 1, by omega⟩
          rw [Lib.bitLenAux]; rw [if_neg h2]; omega
        obtain ⟨b, hb⟩ : ∃ b, Lib.bitLenAux f (x / 2) = b + 1 := ⟨Lib.bitLenAux f (x / 2) - 1, by omega⟩
        rw [hb] at this ⊢
        rw [Nat.add_sub_cancel] at this
        rw [Nat.pow_succ]; omega
theorem bitLen_pred (x : Nat) (h : x ≠ 0) : 2 ^ (Lib.bitLen x - 1) ≤ x := bitLenAux_pred 64 x h (by omega)
theorem bitLen_zero : Lib.bitLen 0 = 0 := rfl

/-- How wide the first numbers are. -/
def wideN (L : List Nat) : Nat → Nat
  | 0 => 0
  | k + 1 => max (wideN L k) (Lib.bitLen (L.getD k 0))
theorem wideN_succ (L : List Nat) (k : Nat) : wideN L (k + 1) = max (wideN L k) (Lib.bitLen (L.getD k 0)) := rfl
theorem wideN_zero (L : List Nat) : wideN L 0 = 0 := rfl
theorem wideN_le (L : List Nat) (n m : Nat) (hm : m ≤ 64) (h : ∀ i, i < n → L.getD i 0 < 2 ^ m) : wideN L n ≤ m := by
  induction n with
  | zero => exact Nat.zero_le _
  | succ n ih =>
    rw [wideN_succ]
    have := ih (fun i hi => h i (by omega))
    have := Lib.bitLen_le (L.getD n 0) m hm (h n (by omega))
    omega
theorem wideN_fits (L : List Nat) (n : Nat) (h : ∀ i, i < n → L.getD i 0 < 2 ^ 64) (i : Nat) (hi : i < n) : L.getD i 0 < 2 ^ wideN L n := by
  induction n with
  | zero => omega
  | succ n ih =>
    rw [wideN_succ]
    by_cases hin : i = n
    · subst hin
      exact Nat.lt_of_lt_of_le (bitLen_lt _ (h i hi)) (Nat.pow_le_pow_right (by omega) (Nat.le_max_right _ _))
    · exact Nat.lt_of_lt_of_le (ih (fun j hj => h j (by omega)) (by omega)) (Nat.pow_le_pow_right (by omega) (Nat.le_max_left _ _))
theorem wideN_least (L : List Nat) (n : Nat) (h0 : 0 < wideN L n) : ∃ j, j < n ∧ 2 ^ (wideN L n - 1) ≤ L.getD j 0 := by
  induction n with
  | zero => rw [wideN_zero] at h0; omega
  | succ n ih =>
    rw [wideN_succ] at h0 ⊢
    by_cases hc : wideN L n < Lib.bitLen (L.getD n 0)
    · refine ⟨n, by omega, ?_⟩
      rw [Nat.max_eq_right (by omega)]
      refine bitLen_pred _ (fun e => ?_)
      rw [e, bitLen_zero] at hc; omega
    · rw [Nat.max_eq_left (by omega)] at h0 ⊢
      obtain ⟨j, hj, hp⟩ := ih h0
      exact ⟨j, by omega, hp⟩
/-- The first one that does not fit. -/
theorem first_bad (L : List Nat) (n m : Nat) (h : ∃ j, j < n ∧ m ≤ L.getD j 0) : ∃ j, j < n ∧ m ≤ L.getD j 0 ∧ ∀ i, i < j → L.getD i 0 < m := by
  induction n with
  | zero => obtain ⟨j, hj, _⟩ := h; omega
  | succ n ih =>
    by_cases hc : ∃ j, j < n ∧ m ≤ L.getD j 0
    · obtain ⟨j, hj, h1, h2⟩ := ih hc
      exact ⟨j, by omega, h1, h2⟩
    · obtain ⟨j, hj, hm⟩ := h
      have hjn : j = n := Nat.le_antisymm (by omega) (Nat.le_of_not_lt (fun h' => hc ⟨j, h', hm⟩))
      subst hjn
      exact ⟨j, hj, hm, fun i hi => Nat.lt_of_not_le (fun h' => hc ⟨i, hi, h'⟩)⟩

set_option maxHeartbeats 1000000 in
theorem wide_any (a : Option Addr) (cap n : Nat) (L : List Nat) (w : World) (h : SlI w a cap (L.map Int.ofNat)) (hn : L.length = n) (hl : n ≤ 300) (hx : ∀ i, i < n → L.getD i 0 < 2 ^ 62) :
    Calls Try.prog 38 #[.slice a n cap] w (fun e w' => e = .returned (.tuple #[.int .i64 (wideN L n : Nat), .int .i64 0]) ∧ w' = w) := by
  have H := Kp.mk h
  have HX := Kp.mk hx
  have HN := Kp.mk hn
  clear h hx hn
  go_enter Try.func38, Try.ntmps38
  go_wp2
  go_loop [4, 9] (fun v i => ∃ (k : Nat), k ≤ n ∧ i = .int .i64 k ∧ v = .int .i64 (wideN L k : Nat)) (fun _ i => n - (intOf i).toNat)
  case atStart => exact ⟨0, Nat.zero_le _, rfl, rfl⟩
  case round =>
    obtain ⟨k, hk, rfl, rfl⟩ := hrel
    have hwk := wideN_le L k 62 (by omega) (fun i hi => HX.out i (by omega))
    by_cases hkn : k < n
    · obtain ⟨b, off, rfl, c1⟩ := H.out.at k (by rw [List.length_map, HN.out]; omega)
      have e1 : (L.map Int.ofNat)[k]'(by rw [List.length_map, HN.out]; omega) = ((L.getD k 0 : Nat) : Int) := by
        have := HN.out
        simp [List.getD, List.getElem?_eq_getElem (show k < L.length by omega)]
      rw [e1] at c1
      have hxk := HX.out k hkn
      have hbl := Lib.bitLen_le _ 62 (by omega) hxk
      have hsu := Kp.mk (wideN_succ L k)
      have C := Kp.mk (fun W => Try.bits_Len ((L.getD k 0 : Nat) : Int) W (by omega) (by omega))
      rw [Int.toNat_natCast] at C
      generalize Lib.bitLen (L.getD k 0) = y at *
      generalize L.getD k 0 = x at *
      generalize wideN L k = z at *
      clear e1
      go_wp2_with ((go_at_call 59; refine (C.out _).mono ?_; rintro e w' ⟨rfl, rfl⟩))
      go_round
      case rel => exact ⟨k + 1, by omega, by go_num, by rw [hsu.out]; go_num⟩
      case measure => simp [intOf]; omega
    · obtain rfl : k = n := by omega
      go_wp2
      go_ret2
      exact ⟨rfl, rfl⟩

end Go.Proofs.Ytjofajpcchncpaa
