import Derived.Test.YteeeikninigeoaaDoorMPo
import Derived.Test.YteeeikninigeoaaDoorWord
/- Package bits: a row of bits is made, may be, is asked. -/
namespace Go.Proofs.YteeeikninigeoaaDoor
set_option linter.unusedVariables false
open Go.RowKit

/-- A row of n bits that holds the number N, its words the call's own. -/
def BitsRet (w : World) (n N : Nat) (e : Ending) (w' : World) : Prop :=
  ∃ sa cap, e = .returned (.tuple #[.agg #[.int .i64 n, .slice sa (bwN n) cap], .int .i64 0]) ∧ w'.ownsRow w.heap.size 92 1 (.slice sa (bwN n) cap) (bwN n) (wds (wordsOf N (bwN n))) ∧ Below w.heap.size w w'

theorem box2 {W : World} {b : Nat} {x y : Value} {t : TypeId} (h : W.heap[b]? = some (.cells #[x, y] t)) :
    (W.cell? ⟨b, 0, none⟩ = some x ∧ W.cell? ⟨b, 1, none⟩ = some y) ∧ W.frozen? ⟨b, 0, none⟩ = false ∧ W.frozen? ⟨b, 1, none⟩ = false := by
  refine ⟨⟨?_, ?_⟩, ?_, ?_⟩ <;> simp [World.cell?, World.frozen?, h]
theorem wds_zero2 (m : Nat) : wds (wordsOf 0 m) = List.replicate m (.int .u64 0) := by
  apply List.ext_getElem
  · simp [wds, wordsOf]
  · intro i h1 h2
    simp [wds, wordsOf, wrd_zero]
theorem shl_or (x r : Nat) (hx : x < 18446744073709551616) (hr : r < 64) : bits .or .u64 (x : Int) (IntKind.u64.wrap (2 ^ r)) = ((x ||| 2 ^ r : Nat) : Int) := by
  have e : (2 : Int) ^ r = ((2 ^ r : Nat) : Int) := by push_cast; rfl
  have h2 : 2 ^ r < 2 ^ 64 := Nat.pow_lt_pow_right (by omega) hr
  rw [e]
  generalize 2 ^ r = y at *
  rw [IntWalk.u64_in _ (by omega)]
  exact u64_or_nat x _ hx h2
theorem and_one64 (x r y : Nat) (hx : x < 18446744073709551616) (h : x / 2 ^ r % 2 = y) : bits .and .u64 ((x : Int) / 2 ^ r) 1 = (y : Int) := by
  have e : (x : Int) / 2 ^ r = ((x / 2 ^ r : Nat) : Int) := by push_cast; rfl
  have hd : x / 2 ^ r ≤ x := Nat.div_le_self _ _
  have := u64_and_nat (x / 2 ^ r) 1 (by omega) (by decide)
  rw [e, show (1 : Int) = ((1 : Nat) : Int) from rfl, this, Nat.and_one_is_mod, h]

set_option maxRecDepth 100000 in
set_option maxHeartbeats 1000000 in
theorem bmake_any (a : Option Addr) (cap n : Nat) (L : List Bool) (w : World) (h : SlBo w a n cap L) (hl : n ≤ 4096) :
    Calls Tryd.prog 80 #[.slice a n cap] w (BitsRet w n (bitsN L n)) := by
  have H := Kp.mk h
  have HN := Kp.mk h.len
  clear h
  have hq : ((n : Int) + 64 - 1) / 64 = ((bwN n : Nat) : Int) := by unfold bwN; omega
  have hq2 : ((n : Int) + 63) / 64 = ((bwN n : Nat) : Int) := by unfold bwN; omega
  have hm1 : bwN n ≤ 64 := by unfold bwN; omega
  have hm2 : n ≤ 64 * bwN n := by unfold bwN; omega
  generalize hm : bwN n = m at *
  have HM := Kp.mk hm
  have HM2 := Kp.mk hm2
  have HQ := Kp.mk hq
  clear hm hm2
  go_enter Tryd.func80, Tryd.ntmps80
  go_wp2_with (at_make; refine wpList_mk1 tWords rfl rfl _ _ rfl (w.heap.size + 1) m (congrArg (Value.int IntKind.i64) HQ.out) (congrArg (Value.int IntKind.i64) HQ.out) ?c1 (by decide) ?c2 ?c3)
  case c1 => omega
  case c2 => exact Nat.le_of_eq (Array.size_push _).symm
  case c3 =>
    intro sa cap1 w2 hown hbel
    go_wp2
    obtain ⟨W, hW⟩ : ∃ W, W = w2.alloc (Obj.cells #[Value.int IntKind.i64 ↑n, Value.slice sa m cap1] 132) := ⟨_, rfl⟩
    rw [← hW]
    have hlt := own_lt hown
    have hbW : Below w2.heap.size w2 W := by rw [hW]; exact below_alloc (Nat.le_refl _) _
    have hownW := own_below hown hbW
    have h6 : Box W w2.heap.size #[Value.int IntKind.i64 ↑n, Value.slice sa m cap1] 132 := by rw [hW]; exact Box.new _ _ _
    have hw2 : w.heap.size + 1 ≤ w2.heap.size := by
      have := hbel.size
      rw [alloc_size] at this
      exact this
    have hb2 : Below (w.heap.size + 1) (w.alloc (Obj.cells #[Value.int IntKind.i64 0, Value.slice none 0 0] 132)) W := hbel.trans (hbW.mono hw2)
    have h4 : W.heap[w.heap.size]? = some (Obj.cells #[Value.int IntKind.i64 0, Value.slice none 0 0] 132) := by
      rw [hb2.block _ (by omega)]; exact heap_alloc_new _ _
    have hBW : Below w.heap.size w W := (below_alloc (Nat.le_refl _) _).trans (hb2.mono (by omega))
    have hWs : w2.heap.size < W.heap.size := h6.lt
    clear hown hbW hb2 hbel hW
    go_loopw [22] (fun i wr => ∃ (k : Nat), k ≤ n ∧ i = .int .i64 k ∧ wr.ownsRow (w.heap.size + 1) 92 1 (.slice sa m cap1) m (wds (wordsOf (bitsN L k) m)) ∧ W.grownBy wr (blk sa)) (fun i _ => n - (intOf i).toNat)
    case atStart =>
      exact ⟨0, Nat.zero_le _, rfl, by rw [bitsN_zero, wds_zero2]; exact hownW, grown_refl _ _⟩
    case round =>
      obtain ⟨k, hk, rfl, hown', hgr⟩ := hrel
      have g6 : wr.heap[w2.heap.size]? = _ := (hgr.block _ hWs (fun e => by have := hlt _ e.symm; omega)).trans h6
      have g4 : wr.heap[w.heap.size]? = _ := (hgr.block _ (by omega) (fun e => by have := hlt _ e.symm; omega)).trans h4
      have hbwr : Below w.heap.size w wr := hBW.trans (below_of_grown hgr (by omega) (fun k e => by have := hlt _ e; omega))
      have HO := Kp.mk hown'
      have HG := Kp.mk hgr
      have HBW := Kp.mk hbwr
      have HS := SlC.below H.out hbwr
      have HLT := Kp.mk hlt
      clear hown' hgr hbwr hlt h6 h4 hBW hownW
      by_cases hkn : k < n
      · have hkl : k < L.length := by rw [HN.out]; exact hkn
        obtain ⟨b, off, rfl, c1⟩ := SlBo.at HS k hkl
        clear HS
        obtain ⟨⟨d0, d1⟩, -⟩ := box2 g6
        have hsu := bitsN_succ L k
        rw [getD_at _ _ hkl] at hsu
        cases hb : L[k] with
        | false =>
          rw [hb] at c1 hsu
          rw [if_neg (by simp), Nat.zero_mul, Nat.add_zero] at hsu
          have HSU := Kp.mk hsu
          clear hb hsu d0 d1 g4 g6
          go_wp2
          go_roundw
          case rel => exact ⟨k + 1, by omega, by go_num, by rw [HSU.out]; exact HO.out, HG.out⟩
          case measure => simp [intOf]; omega
        | true =>
          rw [hb] at c1 hsu
          rw [if_pos rfl] at hsu
          have HSU := Kp.mk hsu
          have hq' : (k : Int) / 64 = ((k / 64 : Nat) : Int) := by omega
          have hr' : (k : Int) % 64 = ((k % 64 : Nat) : Int) := by omega
          have hqm : k / 64 < m := by have := HM2.out; omega
          have hr64 : k % 64 < 64 := by omega
          have hp := put_bit (bitsN L k) k m (bitsN_lt L k) hqm
          have hx : wrd (bitsN L k) (k / 64) < 18446744073709551616 := wrd_lt _ _
          have hor := shl_or (wrd (bitsN L k) (k / 64)) (k % 64) hx hr64
          obtain ⟨g, rfl, _, _⟩ := own_some HO.out (by omega)
          have c2 := wds_cell HO.out hqm
          have f2 : wr.frozen? ⟨g, k / 64, none⟩ = false := HO.out.frozenAt (k / 64)
          have h1 := (HO.out.stored (k / 64) (.int .u64 ((wrd (bitsN L k) (k / 64) ||| 2 ^ (k % 64) : Nat) : Int))).1
          rw [wds_set, ← hp, ← HSU.out, ← hor] at h1
          have H1 := Kp.mk h1
          clear hb hsu h1 hp g4 g6 hor
          generalize wrd (bitsN L k) (k / 64) = x at *
          generalize k / 64 = q at *
          generalize k % 64 = r at *
          have hqi : (q : Int) < m := by omega
          go_wp2
          go_region
          go_wp2
          go_roundw
          case rel => exact ⟨k + 1, by omega, by go_num, H1.out.drew, grown_drew (grown_trans HG.out (grown_set _ _ _ _))⟩
          case measure => simp [intOf]; omega
      · obtain ⟨⟨d0, d1⟩, -⟩ := box2 g6
        obtain ⟨⟨b0, b1⟩, f0, f1⟩ := box2 g4
        clear HS
        go_wp2
        have hk' : k = n := by omega
        subst hk'
        refine bodyPost_ret (v := .tuple #[.agg #[.int .i64 k, .slice sa m cap1], .int .i64 0]) ?hr rfl ?hp
        case hr =>
          clear H HO HG HBW HLT g4 g6
          rw [results_cell_tmp rfl]
          go_simp
        case hp =>
          unfold BitsRet
          rw [HM.out]
          refine ⟨sa, cap1, rfl, own_base (ownsRow_setCell_below (ownsRow_setCell_below HO.out ?_ _) ?_ _) (by omega), (HBW.out.setCell (p := ⟨w.heap.size, 0, none⟩) (Nat.le_refl _) _).setCell (p := ⟨w.heap.size, 1, none⟩) (Nat.le_refl _) _⟩ <;> exact Nat.lt_succ_self _

end Go.Proofs.YteeeikninigeoaaDoor

