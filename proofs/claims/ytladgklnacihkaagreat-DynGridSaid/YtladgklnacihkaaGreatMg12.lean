import Derived.Test.YtladgklnacihkaaGreatMg7
import Derived.Test.YtladgklnacihkaaGreatMg11
/- Package bits: a row of bits is made, may be, is asked. -/
namespace Go.Proofs.YtladgklnacihkaaGreat
set_option linter.unusedVariables false
open Go.RowKit

/-- A row of n bits that holds the number N, its words the call's own. -/
def BitsRet (w : World) (n N : Nat) (e : Ending) (w' : World) : Prop :=
  ∃ sa cap, e = .returned (.tuple #[.agg #[.int .i64 n, .slice sa (bwN n) cap], .int .i64 0]) ∧ w'.ownsRow w.heap.size 142 1 (.slice sa (bwN n) cap) (bwN n) (wds (wordsOf N (bwN n))) ∧ Below w.heap.size w w'

theorem box2 {W : World} {b : Nat} {x y : Value} {t : TypeId} (h : W.heap[b]? = some (.cells #[x, y] t)) :
    (W.cell? ⟨b, 0, none⟩ = some x ∧ W.cell? ⟨b, 1, none⟩ = some y) ∧ W.frozen? ⟨b, 0, none⟩ = false ∧ W.frozen? ⟨b, 1, none⟩ = false := by
  refine ⟨⟨?_, ?_⟩, ?_, ?_⟩ <;> simp [World.cell?, World.frozen?, h]
theorem wds_zero2 (m : Nat) : wds (wordsOf 0 m) = List.replicate m (.int .u64 0) := by
  apply List.ext_getElem
  · simp [wds, wordsOf]
  · intro i h1 h2
    simp [wds, wordsOf, wrd_zero]
theorem shl_or (x r : Nat) (hx : x < 18446744073709551616) (hr : r < 64) : bits .or .u64 (x : Int) (IntKind.u64.wrap (2 ^ r)) = ((x ||| 2 ^ r : Nat) : Int) := by
  have e : (2 : Int) ^ r = ((2 ^ r : Nat) : Int) := by push_cast; rfl
  have h2 : 2 ^ r < 2 ^ 64 := Nat.pow_lt_pow_right (by omega) hr
  rw [e]
  generalize 2 ^ r = y at *
  rw [IntWalk.u64_in _ (by omega)]
  exact u64_or_nat x _ hx h2
theorem and_one64 (x r y : Nat) (hx : x < 18446744073709551616) (h : x / 2 ^ r % 2 = y) : bits .and .u64 ((x : Int) / 2 ^ r) 1 = (y : Int) := by
  have e : (x : Int) / 2 ^ r = ((x / 2 ^ r : Nat) : Int) := by push_cast; rfl
  have hd : x / 2 ^ r ≤ x := Nat.div_le_self _ _
  have := u64_and_nat (x / 2 ^ r) 1 (by omega) (by decide)
  rw [e, show (1 : Int) = ((1 : Nat) : Int) from rfl, this, Nat.and_one_is_mod, h]

set_option maxRecDepth 100000 in
set_option maxHeartbeats 1000000 in
theorem bmake_any (a : Option Addr) (cap n : Nat) (L : List Bool) (w : World) (h : SlBo w a n cap L) (hl : n ≤ 4096) :
    Calls Tryz.prog 54 #[.slice a n cap] w (BitsRet w n (bitsN L n)) := by
  have H := Kp.mk h
  have HN := Kp.mk h.len
  clear h
  have hq : ((n : Int) + 64 - 1) / 64 = ((bwN n : Nat) : Int) := by unfold bwN; omega
  have hq2 : ((n : Int) + 63) / 64 = ((bwN n : Nat) : Int) := by unfold bwN; omega
  have hm1 : bwN n ≤ 64 := by unfold bwN; omega
  have hm2 : n ≤ 64 * bwN n := by unfold bwN; omega
  generalize hm : bwN n = m at *
  have HM := Kp.mk hm
  have HM2 := Kp.mk hm2
  have HQ := Kp.mk hq
  clear hm hm2
  go_enter Tryz.func54, Tryz.ntmps54
  go_wp2_with (at_make; refine wpList_mk1 tWords rfl rfl _ _ rfl (w.heap.size + 1) m (congrArg (Value.int IntKind.i64) HQ.out) (congrArg (Value.int IntKind.i64) HQ.out) ?c1 (by decide) ?c2 ?c3)
  case c1 => omega
  case c2 => exact Nat.le_of_eq (Array.size_push _).symm
  case c3 =>
    intro sa cap1 w2 hown hbel
    go_wp2
    obtain ⟨W, hW⟩ : ∃ W, W = w2.alloc (Obj.cells #[Value.int IntKind.i64 ↑n, Value.slice sa m cap1] 114) := ⟨_, rfl⟩
    rw [← hW]
    have hlt := own_lt hown
    have hbW : Below w2.heap.size w2 W := by rw [hW]; exact below_alloc (Nat.le_refl _) _
    have hownW := own_below hown hbW
    have h6 : Box W w2.heap.size #[Value.int IntKind.i64 ↑n, Value.slice sa m cap1] 114 := by rw [hW]; exact Box.new _ _ _
    have hw2 : w.heap.size + 1 ≤ w2.heap.size := by
      have := hbel.size
      rw [alloc_size] at this
      exact this
    have hb2 : Below (w.heap.size + 1) (w.alloc (Obj.cells #[Value.int IntKind.i64 0, Value.slice none 0 0] 114)) W := hbel.trans (hbW.mono hw2)
    have h4 : W.heap[w.heap.size]? = some (Obj.cells #[Value.int IntKind.i64 0, Value.slice none 0 0] 114) := by
      rw [hb2.block _ (by omega)]; exact heap_alloc_new _ _
    have hBW : Below w.heap.size w W := (below_alloc (Nat.le_refl _) _).trans (hb2.mono (by omega))
    have hWs : w2.heap.size < W.heap.size := h6.lt
    clear hown hbW hb2 hbel hW
    go_loopw [22] (fun i wr => ∃ (k : Nat), k ≤ n ∧ i = .int .i64 k ∧ wr.ownsRow (w.heap.size + 1) 142 1 (.slice sa m cap1) m (wds (wordsOf (bitsN L k) m)) ∧ W.grownBy wr (blk sa)) (fun i _ => n - (intOf i).toNat)
    case atStart =>
      exact ⟨0, Nat.zero_le _, rfl, by rw [bitsN_zero, wds_zero2]; exact hownW, grown_refl _ _⟩
    case round =>
      obtain ⟨k, hk, rfl, hown', hgr⟩ := hrel
      have g6 : wr.heap[w2.heap.size]? = _ := (hgr.block _ hWs (fun e => by have := hlt _ e.symm; omega)).trans h6
      have g4 : wr.heap[w.heap.size]? = _ := (hgr.block _ (by omega) (fun e => by have := hlt _ e.symm; omega)).trans h4
      have hbwr : Below w.heap.size w wr := hBW.trans (below_of_grown hgr (by omega) (fun k e => by have := hlt _ e; omega))
      have HO := Kp.mk hown'
      have HG := Kp.mk hgr
      have HBW := Kp.mk hbwr
      have HS := SlC.below H.out hbwr
      have HLT := Kp.mk hlt
      clear hown' hgr hbwr hlt h6 h4 hBW hownW
      by_cases hkn : k < n
      · have hkl : k < L.length := by rw [HN.out]; exact hkn
        obtain ⟨b, off, rfl, c1⟩ := SlBo.at HS k hkl
        clear HS
        obtain ⟨⟨d0, d1⟩, -⟩ := box2 g6
        have hsu := bitsN_succ L k
        rw [getD_at _ _ hkl] at hsu
        cases hb : L[k] with
        | false =>
          rw [hb] at c1 hsu
          rw [if_neg (by simp), Nat.zero_mul, Nat.add_zero] at hsu
          have HSU := Kp.mk hsu
          clear hb hsu d0 d1 g4 g6
          go_wp2
          go_roundw
          case rel => exact ⟨k + 1, by omega, by go_num, by rw [HSU.out]; exact HO.out, HG.out⟩
          case measure => simp [intOf]; omega
        | true =>
          rw [hb] at c1 hsu
          rw [if_pos rfl] at hsu
          have HSU := Kp.mk hsu
          have hq' : (k : Int) / 64 = ((k / 64 : Nat) : Int) := by omega
          have hr' : (k : Int) % 64 = ((k % 64 : Nat) : Int) := by omega
          have hqm : k / 64 < m := by have := HM2.out; omega
          have hr64 : k % 64 < 64 := by omega
          have hp := put_bit (bitsN L k) k m (bitsN_lt L k) hqm
          have hx : wrd (bitsN L k) (k / 64) < 18446744073709551616 := wrd_lt _ _
          have hor := shl_or (wrd (bitsN L k) (k / 64)) (k % 64) hx hr64
          obtain ⟨g, rfl, _, _⟩ := own_some HO.out (by omega)
          have c2 := wds_cell HO.out hqm
          have f2 : wr.frozen? ⟨g, k / 64, none⟩ = false := HO.out.frozenAt (k / 64)
          have h1 := (HO.out.stored (k / 64) (.int .u64 ((wrd (bitsN L k) (k / 64) ||| 2 ^ (k % 64) : Nat) : Int))).1
          rw [wds_set, ← hp, ← HSU.out, ← hor] at h1
          have H1 := Kp.mk h1
          clear hb hsu h1 hp g4 g6 hor
          generalize wrd (bitsN L k) (k / 64) = x at *
          generalize k / 64 = q at *
          generalize k % 64 = r at *
          have hqi : (q : Int) < m := by omega
          go_wp2
          go_region
          go_wp2
          go_roundw
          case rel => exact ⟨k + 1, by omega, by go_num, H1.out.drew, grown_drew (grown_trans HG.out (grown_set _ _ _ _))⟩
          case measure => simp [intOf]; omega
      · obtain ⟨⟨d0, d1⟩, -⟩ := box2 g6
        obtain ⟨⟨b0, b1⟩, f0, f1⟩ := box2 g4
        clear HS
        go_wp2
        have hk' : k = n := by omega
        subst hk'
        refine bodyPost_ret (v := .tuple #[.agg #[.int .i64 k, .slice sa m cap1], .int .i64 0]) ?hr rfl ?hp
        case hr =>
          clear H HO HG HBW HLT g4 g6
          rw [results_cell_tmp rfl]
          go_simp
        case hp =>
          unfold BitsRet
          rw [HM.out]
          refine ⟨sa, cap1, rfl, own_base (ownsRow_setCell_below (ownsRow_setCell_below HO.out ?_ _) ?_ _) (by omega), (HBW.out.setCell (p := ⟨w.heap.size, 0, none⟩) (Nat.le_refl _) _).setCell (p := ⟨w.heap.size, 1, none⟩) (Nat.le_refl _) _⟩ <;> exact Nat.lt_succ_self _

set_option maxHeartbeats 1000000 in
theorem bmay_ok (sa : Option Addr) (n m cap N : Nat) (w : World) (hm : m = bwN n) (hS : SlC w sa m cap 1 (wds (wordsOf N m))) (hn : n ≤ 4096) (hN : N < 2 ^ n) :
    Calls Tryz.prog 104 #[.agg #[.int .i64 n, .slice sa m cap]] w (fun e w' => e = .returned (.bool true) ∧ Below w.heap.size w w') := by
  have HS := Kp.mk hS
  have HL := Kp.mk (last_bits N n hN)
  rw [← hm] at HL
  have hq : ((n : Int) + 64 - 1) / 64 = (m : Int) := by rw [hm]; unfold bwN; omega
  have hq2 : ((n : Int) + 63) / 64 = (m : Int) := by rw [hm]; unfold bwN; omega
  have hm64 : m ≤ 64 := by rw [hm]; unfold bwN; omega
  have hm0 : n % 64 ≠ 0 → 0 < m := fun h => by rw [hm]; unfold bwN; omega
  obtain ⟨r, hr⟩ : ∃ r, r = n % 64 := ⟨_, rfl⟩
  have hr2 : (n : Int) % 64 = (r : Int) := by omega
  have hr64 : r < 64 := by omega
  rw [← hr] at HL hm0
  clear hS hm hN hr
  have hbW := Kp.mk (below_alloc (Nat.le_refl w.heap.size) (Obj.cells #[Value.int IntKind.i64 ↑n, Value.slice sa m cap] 114))
  by_cases h0 : r = 0
  · have hb : ((r : Int) == 0) = true := beq_iff_eq.2 (by omega)
    clear hm0 HS HL
    go_enter Tryz.func104, Tryz.ntmps104
    go_wp2
    go_ret
    exact ⟨rfl, hbW.out⟩
  · have hm1 := hm0 h0
    have hb : ((r : Int) == 0) = false := beq_eq_false_iff_ne.2 (by omega)
    obtain ⟨b, off, rfl, c1⟩ := SlC.cell (HS.out.below hbW.out) (m - 1) (by rw [wds_length, wordsOf_length]; omega)
    have e1 : (wds (wordsOf N m))[m - 1]'(by rw [wds_length, wordsOf_length]; omega) = .int .u64 (wrd N (m - 1)) := by simp [wds, wordsOf]
    rw [e1] at c1
    have e2 : ((wrd N (m - 1) : Nat) : Int) / 2 ^ r = 0 := by
      have : ((wrd N (m - 1) : Nat) : Int) / 2 ^ r = ((wrd N (m - 1) / 2 ^ r : Nat) : Int) := by push_cast; rfl
      rw [this, HL.out h0]; rfl
    generalize wrd N (m - 1) = x at *
    clear hm0 e1 HL
    go_enter Tryz.func104, Tryz.ntmps104
    go_wp2
    go_ret
    exact ⟨rfl, hbW.out⟩

end Go.Proofs.YtladgklnacihkaaGreat

/- Package pop: bits of a word. -/
namespace Go.Proofs.YtladgklnacihkaaGreat
set_option linter.unusedVariables false
open Go.RowKit

theorem band (a b : Nat) (c d : Int) (ha : a < 18446744073709551616) (hb : b < 18446744073709551616) (hc : c = a) (hd : d = b) : bits BinOp.and IntKind.u64 c d = ((a &&& b : Nat) : Int) := by
  subst hc; subst hd
  exact bits_and_u64_nat a b ha hb
theorem uwrap (a : Nat) (c : Int) (hc : c = a) (ha : a < 18446744073709551616) : IntKind.u64.wrap c = (a : Int) := by
  subst hc
  exact IntWalk.u64_in _ (by omega)

/-- The steps of the count as the walk has them. -/
theorem unot (x : Nat) (h : x < 18446744073709551616) : bits BinOp.xor IntKind.u64 IntKind.u64.max (x : Int) = ((18446744073709551615 - x : Nat) : Int) := by
  rw [← xor_ones x h]
  exact u64_xor_nat 18446744073709551615 x (by omega) h
theorem oc_steps (x : Nat) (h : x < 18446744073709551616) : ∃ p1 p2 a q1 q2 b c0 c d e f : Nat,
    bits BinOp.and IntKind.u64 ((x : Int) / 2) 6148914691236517205 = (p1 : Int) ∧ bits BinOp.and IntKind.u64 (x : Int) 6148914691236517205 = (p2 : Int) ∧ IntKind.u64.wrap ((p1 : Int) + p2) = (a : Int) ∧
    bits BinOp.and IntKind.u64 ((a : Int) / 4) 3689348814741910323 = (q1 : Int) ∧ bits BinOp.and IntKind.u64 (a : Int) 3689348814741910323 = (q2 : Int) ∧ IntKind.u64.wrap ((q1 : Int) + q2) = (b : Int) ∧
    IntKind.u64.wrap ((b : Int) / 16 + b) = (c0 : Int) ∧ bits BinOp.and IntKind.u64 (c0 : Int) 1085102592571150095 = (c : Int) ∧
    IntKind.u64.wrap ((c : Int) + (c : Int) / 256) = (d : Int) ∧ IntKind.u64.wrap ((d : Int) + (d : Int) / 65536) = (e : Int) ∧ IntKind.u64.wrap ((e : Int) + (e : Int) / 4294967296) = (f : Int) ∧
    f &&& 127 = pcn 64 x ∧ f < 9223372036854775808 := by
  have a1 : (x / 2 &&& 6148914691236517205) ≤ 6148914691236517205 := Nat.and_le_right
  have a2 : (x &&& 6148914691236517205) ≤ 6148914691236517205 := Nat.and_le_right
  obtain ⟨p1, hp1⟩ : ∃ p, p = x / 2 &&& 6148914691236517205 := ⟨_, rfl⟩
  obtain ⟨p2, hp2⟩ : ∃ p, p = x &&& 6148914691236517205 := ⟨_, rfl⟩
  obtain ⟨a, ha⟩ : ∃ a, a = p1 + p2 := ⟨_, rfl⟩
  have a3 : (a / 4 &&& 3689348814741910323) ≤ 3689348814741910323 := Nat.and_le_right
  have a4 : (a &&& 3689348814741910323) ≤ 3689348814741910323 := Nat.and_le_right
  obtain ⟨q1, hq1⟩ : ∃ p, p = a / 4 &&& 3689348814741910323 := ⟨_, rfl⟩
  obtain ⟨q2, hq2⟩ : ∃ p, p = a &&& 3689348814741910323 := ⟨_, rfl⟩
  obtain ⟨b, hb⟩ : ∃ b, b = q1 + q2 := ⟨_, rfl⟩
  obtain ⟨c0, hc0⟩ : ∃ c, c = b / 16 + b := ⟨_, rfl⟩
  have a5 : (c0 &&& 1085102592571150095) ≤ 1085102592571150095 := Nat.and_le_right
  obtain ⟨c, hc⟩ : ∃ c, c = c0 &&& 1085102592571150095 := ⟨_, rfl⟩
  obtain ⟨d, hd⟩ : ∃ c', c' = c + c / 256 := ⟨_, rfl⟩
  obtain ⟨e, he⟩ : ∃ c', c' = d + d / 65536 := ⟨_, rfl⟩
  obtain ⟨f, hf⟩ : ∃ c', c' = e + e / 4294967296 := ⟨_, rfl⟩
  rw [← hp1] at a1
  rw [← hp2] at a2
  rw [← hq1] at a3
  rw [← hq2] at a4
  rw [← hc] at a5
  refine ⟨p1, p2, a, q1, q2, b, c0, c, d, e, f, ?_, ?_, ?_, ?_, ?_, ?_, ?_, ?_, ?_, ?_, ?_, ?_, ?_⟩
  · rw [hp1]; exact band (x / 2) _ _ _ (by omega) (by omega) (by omega) rfl
  · rw [hp2]; exact band x _ _ _ (by omega) (by omega) (by omega) rfl
  · exact uwrap a _ (by omega) (by omega)
  · rw [hq1]; exact band (a / 4) _ _ _ (by omega) (by omega) (by omega) rfl
  · rw [hq2]; exact band a _ _ _ (by omega) (by omega) (by omega) rfl
  · exact uwrap b _ (by omega) (by omega)
  · exact uwrap c0 _ (by omega) (by omega)
  · rw [hc]; exact band c0 _ _ _ (by omega) (by omega) (by omega) rfl
  · exact uwrap d _ (by omega) (by omega)
  · exact uwrap e _ (by omega) (by omega)
  · exact uwrap f _ (by omega) (by omega)
  · rw [← oc64_eq x h, hf, he, hd, hc, hc0, hb, hq1, hq2, ha, hp1, hp2]
    rfl
  · omega

set_option maxHeartbeats 400000 in
theorem oc_any (x : Nat) (w : World) (h : x < 18446744073709551616) :
    Calls Tryz.prog 153 #[.int .u64 x] w fun e w' => e = .returned (.int .i64 (pcn 64 x)) ∧ w = w' := by
  obtain ⟨p1, p2, a, q1, q2, b, c0, c, d, e, f, h1, h2, h3, h4, h5, h6, h7, h8, h9, h10, h11, h12, h13⟩ := oc_steps x h
  have H12 := Lib.hid h12
  clear h12 h
  have h13' : (f : Int) ≤ 9223372036854775807 := by omega
  clear h13
  go_enter Tryz.func153, Tryz.ntmps153
  go_wp2
  go_ret
  refine ⟨ret_int ?_, rfl⟩
  rw [← H12.out, show f &&& 127 = f % 128 from Nat.and_two_pow_sub_one_eq_mod f 7]
  exact (i64_and127 _).trans (by simp)

theorem ones_any (x : Nat) (w : World) (h : x < 18446744073709551616) :
    Calls Tryz.prog 144 #[.int .u64 x] w fun e w' => e = .returned (.int .i64 (pcn 64 x)) ∧ w = w' := by
  go_enter Tryz.func144, Tryz.ntmps144
  go_wp2_with fail
  refine (oc_any x _ h).mono ?_
  rintro e w' ⟨rfl, rfl⟩
  go_wp2
  go_ret
  exact ⟨rfl, rfl⟩

/-- A mask of i ones. -/
theorem mask_and (x i : Nat) (h : x < 18446744073709551616) (hi : i ≤ 64) :
    bits BinOp.and IntKind.u64 (x : Int) (IntKind.u64.wrap (IntKind.u64.wrap (2 ^ i) - 1)) = ((x % 2 ^ i : Nat) : Int) := by
  have hw : IntKind.u64.wrap (IntKind.u64.wrap (2 ^ i) - 1) = ((2 ^ i - 1 : Nat) : Int) := by
    by_cases h64 : i = 64
    · subst h64; rfl
    · have hlt : (2 : Nat) ^ i ≤ 2 ^ 63 := Nat.pow_le_pow_right (by omega) (by omega)
      have hp : 0 < (2 : Nat) ^ i := Nat.pow_pos (by omega)
      have e1 : IntKind.u64.wrap (2 ^ i) = ((2 ^ i : Nat) : Int) := uwrap (2 ^ i) _ (by simp) (by omega)
      rw [e1]
      exact uwrap (2 ^ i - 1) _ (by omega) (by omega)
  have hle : (2 : Nat) ^ i ≤ 2 ^ 64 := Nat.pow_le_pow_right (by omega) hi
  rw [hw, band x (2 ^ i - 1) _ _ h (by omega) rfl rfl, Nat.and_two_pow_sub_one_eq_mod]
theorem mask_div (x a i : Nat) (h : x / 2 ^ a < 18446744073709551616) (hi : i ≤ 64) :
    bits BinOp.and IntKind.u64 ((x : Int) / 2 ^ a) (IntKind.u64.wrap (IntKind.u64.wrap (2 ^ i) - 1)) = ((x / 2 ^ a % 2 ^ i : Nat) : Int) := by
  rw [← mask_and (x / 2 ^ a) i h hi]
  simp
theorem mod_lt64 (x n : Nat) (h : x < 18446744073709551616) : x % n < 18446744073709551616 := Nat.lt_of_le_of_lt (Nat.mod_le _ _) h
theorem div_lt64 (x n : Nat) (h : x < 18446744073709551616) : x / n < 18446744073709551616 := Nat.lt_of_le_of_lt (Nat.div_le_self _ _) h

set_option maxHeartbeats 400000 in
theorem rank_any (x i : Nat) (w : World) (h : x < 18446744073709551616) (hi : i ≤ 64) :
    Calls Tryz.prog 145 #[.int .u64 x, .int .i64 i] w fun e w' => e = .returned (.tuple #[.int .i64 (pcn i x), .int .i64 0]) ∧ w = w' := by
  go_enter Tryz.func145, Tryz.ntmps145
  go_wp2_with fail
  rw [mask_and x i h hi]
  have HX := Lib.hid (mod_lt64 x (2 ^ i) h)
  have hp := Lib.hid (pcn_mod 64 i x hi)
  generalize x % 2 ^ i = y at *
  refine (oc_any y _ HX.out).mono ?_
  rintro e w' ⟨rfl, rfl⟩
  rw [hp.out]
  go_wp2
  go_ret2
  exact ⟨rfl, rfl⟩

end Go.Proofs.YtladgklnacihkaaGreat

/- Package bits: ranks. -/
namespace Go.Proofs.YtladgklnacihkaaGreat
set_option linter.unusedVariables false
open Go.RowKit

set_option maxRecDepth 100000 in
set_option maxHeartbeats 1000000 in
theorem brank_ok (B : Nat) (sa : Option Addr) (m cap n i N : Nat) (w : World) (hm : m = bwN n) (hO : w.ownsRow B 142 1 (.slice sa m cap) m (wds (wordsOf N m))) (hn : n ≤ 4096) (hi : i ≤ n) (hN : N < 2 ^ n) :
    Calls Tryz.prog 123 #[.agg #[.int .i64 n, .slice sa m cap], .int .i64 i] w (fun e w' => e = .returned (.tuple #[.int .i64 (pcn i N : Nat), .int .i64 0]) ∧ Below w.heap.size w w') := by
  have HM := Kp.mk hm
  have HO := Kp.mk hO
  have HN := Kp.mk hN
  have hqm : i / 64 ≤ m := by rw [hm]; unfold bwN; omega
  have hqm2 : 0 < i % 64 → i / 64 < m := fun h => by rw [hm]; unfold bwN; omega
  have hm64 : m ≤ 64 := by rw [hm]; unfold bwN; omega
  clear hm hO hN
  go_enter Tryz.func123, Tryz.ntmps123
  go_wp2_with fail
  refine (bmay_ok sa n m cap N _ HM.out ((own_slc HO.out).below (below_alloc (Nat.le_refl _) _)) hn HN.out).mono ?_
  rintro e w1 ⟨rfl, hbel⟩
  have h4 := (Box.new w #[Value.int IntKind.i64 ↑n, Value.slice sa m cap] 114).below hbel
  obtain ⟨⟨d0, d1⟩, -⟩ := box2 h4
  have hB : Kp (Below w.heap.size w w1) := ⟨below_step (below_alloc (Nat.le_refl _) _) hbel⟩
  have HW := Kp.mk (own_below HO.out hB.out)
  have hcap : m ≤ cap := (own_slc HO.out).le
  have t1 : decide ((i : Int) < 0) = false := decide_eq_false (by omega)
  have t2 : decide ((n : Int) < i) = false := decide_eq_false (by omega)
  have t4 : decide (n < i) = false := decide_eq_false (by omega)
  have hq' : (i : Int) / 64 = ((i / 64 : Nat) : Int) := by omega
  have hr' : (i : Int) % 64 = ((i % 64 : Nat) : Int) := by omega
  have hr64 : i % 64 < 64 := by omega
  have hres := Kp.mk (show pcn i N = pcn (64 * (i / 64)) N + pcn (i % 64) (wrd N (i / 64)) by rw [← pcn_rest N _ _ (by omega), show 64 * (i / 64) + i % 64 = i by omega])
  clear hbel h4 HO
  generalize hqe : i / 64 = q at *
  generalize hre : i % 64 = r at *
  have HQR := Kp.mk (show i = 64 * q + r by omega)
  clear hqe hre
  have hqc : q ≤ cap := by omega
  go_wp2
  go_loop [6, 30] (fun s i => ∃ j : Nat, j ≤ q ∧ i = .int .i64 j ∧ s = .int .i64 (pcn (64 * j) N : Nat)) (fun _ i => q - (intOf i).toNat)
  case atStart => exact ⟨0, Nat.zero_le _, rfl, by rw [Nat.mul_zero, pcn_none]; rfl⟩
  case round =>
    obtain ⟨j, hj, rfl, rfl⟩ := hrel
    have hpl := pcn_le (64 * j) N
    by_cases hlt : j < q
    · obtain ⟨g, rfl, _, _⟩ := own_some HW.out (by omega)
      have c2 := wds_cell HW.out (show j < m by omega)
      have hx : wrd N j < 18446744073709551616 := wrd_lt _ _
      have hsu := Kp.mk (pcn_words N j)
      have hp2 := pcn_le 64 (wrd N j)
      have C := Kp.mk (fun W => ones_any (wrd N j) W hx)
      generalize pcn 64 (wrd N j) = y at *
      generalize wrd N j = x at *
      generalize pcn (64 * j) N = z at *
      go_wp2_with fail
      refine (C.out _).mono ?_
      rintro e w' ⟨rfl, rfl⟩
      go_wp2
      go_round
      case rel => exact ⟨j + 1, by omega, by go_num, by rw [hsu.out]; go_num⟩
      case measure => simp [intOf]; omega
    · obtain rfl : j = q := by omega
      by_cases hr0 : 0 < r
      · have hjm := hqm2 hr0
        obtain ⟨g, rfl, _, _⟩ := own_some HW.out (by omega)
        have c2 := wds_cell HW.out hjm
        have hx : wrd N j < 18446744073709551616 := wrd_lt _ _
        have hp2 := pcn_le r (wrd N j)
        have C := Kp.mk (fun W => rank_any (wrd N j) r W hx (by omega))
        generalize pcn r (wrd N j) = y at *
        generalize wrd N j = x at *
        generalize pcn (64 * j) N = z at *
        clear hqm2
        go_wp2_with fail
        refine (C.out _).mono ?_
        rintro e w' ⟨rfl, rfl⟩
        go_wp2
        go_ret2
        exact ⟨by rw [hres.out]; rfl, hB.out⟩
      · have hr0' : r = 0 := by omega
        subst hr0'
        rw [pcn_none] at hres
        generalize pcn (64 * j) N = z at *
        clear hqm2
        go_wp2
        go_ret2
        exact ⟨by rw [hres.out]; rfl, hB.out⟩

/-- The rank in a row of a list of bits. -/
theorem brank_list (B : Nat) (sa : Option Addr) (cap i : Nat) (E : List Bool) (w : World) (hO : w.ownsRow B 142 1 (.slice sa (bwN E.length) cap) (bwN E.length) (wds (wordsOf (bitsN E E.length) (bwN E.length)))) (hn : E.length ≤ 4096) (hi : i ≤ E.length) :
    Calls Tryz.prog 123 #[.agg #[.int .i64 (E.length : Nat), .slice sa (bwN E.length) cap], .int .i64 i] w (fun e w' => e = .returned (.tuple #[.int .i64 (cntB E i : Nat), .int .i64 0]) ∧ Below w.heap.size w w') := by
  have := brank_ok B sa (bwN E.length) cap E.length i (bitsN E E.length) w rfl hO hn hi (bitsN_lt E _)
  rwa [pcn_bits E i hi] at this

end Go.Proofs.YtladgklnacihkaaGreat

