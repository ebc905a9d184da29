/- Package pack: numbers of so many bits, made. -/
import Derived.Test.YtjicgndahpffbaaPackG
namespace Go.Proofs.Ytjicgndahpffbaa
set_option linter.unusedVariables false
open Go.RowKit

/-- The numbers in one great number. -/
def packN (wd : Nat) (l : List Nat) : Nat → Nat
  | 0 => 0
  | k + 1 => packN wd l k + l.getD k 0 * 2 ^ (k * wd)
theorem packN_lt (wd : Nat) (l : List Nat) (k : Nat) (h : ∀ i, i < k → l.getD i 0 < 2 ^ wd) : packN wd l k < 2 ^ (k * wd) := by
  induction k with
  | zero => simp [packN]
  | succ k ih =>
    have h1 := ih (fun i hi => h i (by omega))
    have h2 := h k (by omega)
    show packN wd l k + l.getD k 0 * 2 ^ (k * wd) < _
    have h3 : (l.getD k 0 + 1) * 2 ^ (k * wd) ≤ 2 ^ wd * 2 ^ (k * wd) := Nat.mul_le_mul_right _ h2
    rw [Nat.add_mul, Nat.one_mul] at h3
    rw [Nat.add_mul, Nat.one_mul, Nat.add_comm (k * wd), Nat.pow_add]
    omega
theorem packN_at (wd : Nat) (l : List Nat) (k i : Nat) (h : ∀ i, i < k → l.getD i 0 < 2 ^ wd) (hi : i < k) : packN wd l k / 2 ^ (i * wd) % 2 ^ wd = l.getD i 0 := by
  induction k with
  | zero => omega
  | succ k ih =>
    show (packN wd l k + l.getD k 0 * 2 ^ (k * wd)) / 2 ^ (i * wd) % 2 ^ wd = _
    by_cases hk : i = k
    · subst hk
      rw [Nat.add_mul_div_right _ _ (Nat.pow_pos (by omega)), Nat.div_eq_of_lt (packN_lt wd l i (fun j hj => h j (by omega))), Nat.zero_add]
      exact Nat.mod_eq_of_lt (h i (by omega))
    · have hik : i + 1 ≤ k := by omega
      have h1 := Nat.mul_le_mul_right wd hik
      rw [Nat.add_mul, Nat.one_mul] at h1
      have e : k * wd = i * wd + (wd + (k * wd - i * wd - wd)) := by omega
      rw [← ih (fun j hj => h j (by omega)) (by omega)]
      generalize packN wd l k = X
      rw [e, Nat.pow_add, ← Nat.mul_assoc, Nat.mul_comm (l.getD k 0), Nat.mul_assoc, Nat.mul_comm (2 ^ (i * wd)), Nat.add_mul_div_right _ _ (Nat.pow_pos (by omega)), Nat.pow_add, Nat.mul_comm (2 ^ wd), ← Nat.mul_assoc, Nat.add_mul_mod_self_right]

def PackRet (w : World) (L : List Nat) (wd : Nat) (e : Ending) (w' : World) : Prop :=
  ∃ sa cap, e = .returned (.tuple #[.agg #[.int .i64 L.length, .int .i64 wd, .slice sa (wordsN L.length wd) cap], .int .i64 0]) ∧ w'.ownsRow w.heap.size 154 1 (.slice sa (wordsN L.length wd) cap) (wordsN L.length wd) (wds (wordsOf (packN wd L L.length) (wordsN L.length wd))) ∧ Below w.heap.size w w'

theorem put_zero (v : Value) (at' : Int) (w : World) : Calls Try.prog 91 #[v, .int .i64 at', .int .i64 0] w (fun e w' => e = .returned (.tuple #[]) ∧ w' = w) := by
  go_enter Try.func91, Try.ntmps91
  go_wp2
  exact bodyPost_ret (results_none rfl _ _ _) rfl ⟨rfl, rfl⟩

theorem box3 {W : World} {b : Nat} {x y z : Value} {t : TypeId} (h : W.heap[b]? = some (.cells #[x, y, z] t)) :
    (W.cell? ⟨b, 0, none⟩ = some x ∧ W.cell? ⟨b, 1, none⟩ = some y ∧ W.cell? ⟨b, 2, none⟩ = some z) ∧ W.frozen? ⟨b, 0, none⟩ = false ∧ W.frozen? ⟨b, 1, none⟩ = false ∧ W.frozen? ⟨b, 2, none⟩ = false := by
  refine ⟨⟨?_, ?_, ?_⟩, ?_, ?_, ?_⟩ <;> simp [World.cell?, World.frozen?, h]

theorem wds_zero (m : Nat) : wds (wordsOf 0 m) = List.replicate m (.int .u64 0) := by
  apply List.ext_getElem
  · simp [wds, wordsOf]
  · intro i h1 h2
    simp [wds, wordsOf, wrd_zero]

theorem put_row (B m cap N n at' : Nat) (sa : Option Addr) (w : World) (hO : w.ownsRow B 154 1 (.slice sa m cap) m (wds (wordsOf N m))) (hN : N < 2 ^ at') (hn : n < 4611686018427387904) (hm : m ≤ 1000) (hat : 0 < n → at' < 64 * m) (hfit : N + n * 2 ^ at' < 2 ^ (64 * m)) :
    Calls Try.prog 91 #[.slice sa m cap, .int .i64 at', .int .i64 n] w (fun e w' => e = .returned (.tuple #[]) ∧ w'.ownsRow B 154 1 (.slice sa m cap) m (wds (wordsOf (N + n * 2 ^ at') m)) ∧ w.grownBy w' (blk sa)) := by
  by_cases h0 : n = 0
  · subst h0
    refine (put_zero _ _ w).mono ?_
    rintro e w' ⟨rfl, rfl⟩
    exact ⟨rfl, by rw [Nat.zero_mul, Nat.add_zero]; exact hO, grown_refl _ _⟩
  · obtain ⟨g, rfl, _, _⟩ := own_some hO (by omega)
    exact put_any B g cap m N n at' w hO hN hn hm (hat (by omega)) hfit

theorem makeWords : ElemTy Try.prog 38 154 1 8 (.int .u64 0) := tWords

set_option maxHeartbeats 1000000 in
theorem make_ok (a : Option Addr) (cap wd n : Nat) (L : List Nat) (w : World) (h : SlI w a cap (L.map Int.ofNat)) (hn : L.length = n) (hl : n ≤ 300) (hw : wd ≤ 62) (hx : ∀ i, i < n → L.getD i 0 < 2 ^ wd) :
    Calls Try.prog 59 #[.int .i64 wd, .slice a n cap] w (PackRet w L wd) := by
  have H := Kp.mk h
  have HX := Kp.mk hx
  have HN := Kp.mk hn
  clear h hx hn
  go_enter Try.func59, Try.ntmps59
  go_wp2_with fail
  refine (words_any n wd _ (by omega) hw).mono ?_
  rintro e w1 ⟨rfl, rfl⟩
  have hm1 : wordsN n wd ≤ 300 := by
    have h1 : n * wd ≤ 300 * 62 := Nat.mul_le_mul hl hw
    unfold wordsN; omega
  have hm2 : n * wd ≤ 64 * wordsN n wd := by unfold wordsN; omega
  generalize hm : wordsN n wd = m at *
  have HM := Kp.mk hm
  have HM2 := Kp.mk hm2
  clear hm hm2
  go_wp2_with (at_make; refine wpList_mk1 makeWords rfl rfl _ _ rfl (w.heap.size + 1) m rfl rfl ?c1 (by decide) ?c2 ?c3)
  case c1 => omega
  case c2 => exact Nat.le_of_eq (Array.size_push _).symm
  case c3 =>
    intro sa cap1 w2 hown hbel
    go_wp2
    obtain ⟨W, hW⟩ : ∃ W, W = w2.alloc (Obj.cells #[Value.int IntKind.i64 ↑n, Value.int IntKind.i64 ↑wd, Value.slice sa m cap1] 40) := ⟨_, rfl⟩
    rw [← hW]
    have hlt := own_lt hown
    have hbW : Below w2.heap.size w2 W := by rw [hW]; exact below_alloc (Nat.le_refl _) _
    have hownW := own_below hown hbW
    have h6 : W.heap[w2.heap.size]? = some (Obj.cells #[Value.int IntKind.i64 ↑n, Value.int IntKind.i64 ↑wd, Value.slice sa m cap1] 40) := by rw [hW]; exact heap_alloc_new _ _
    have hw2 : w.heap.size + 1 ≤ w2.heap.size := by
      have := hbel.size
      rw [show (w.alloc (Obj.cells #[Value.int IntKind.i64 0, Value.int IntKind.i64 0, Value.slice none 0 0] 40)).heap.size = w.heap.size + 1 from Array.size_push _] at this
      exact this
    have hb2 : Below (w.heap.size + 1) (w.alloc (Obj.cells #[Value.int IntKind.i64 0, Value.int IntKind.i64 0, Value.slice none 0 0] 40)) W := hbel.trans (hbW.mono hw2)
    have h4 : W.heap[w.heap.size]? = some (Obj.cells #[Value.int IntKind.i64 0, Value.int IntKind.i64 0, Value.slice none 0 0] 40) := by
      rw [hb2.block _ (by omega)]; exact heap_alloc_new _ _
    have hBW : Below w.heap.size w W := (below_alloc (Nat.le_refl _) _).trans (hb2.mono (by omega))
    have hWs : w2.heap.size < W.heap.size := by
      rw [hW]; exact Nat.lt_of_lt_of_eq (Nat.lt_succ_self _) (Array.size_push _).symm
    clear hown hbW hb2 hbel hW
    go_loopw [31] (fun i wr => ∃ (k : Nat), k ≤ n ∧ i = .int .i64 k ∧ wr.ownsRow (w.heap.size + 1) 154 1 (.slice sa m cap1) m (wds (wordsOf (packN wd L k) m)) ∧ W.grownBy wr (blk sa)) (fun i _ => n - (intOf i).toNat)
    case atStart =>
      exact ⟨0, Nat.zero_le _, rfl, by rw [packN, wds_zero]; exact hownW, grown_refl _ _⟩
    case round =>
      obtain ⟨k, hk, rfl, hown', hgr⟩ := hrel
      have g6 : wr.heap[w2.heap.size]? = _ := (hgr.block _ hWs (fun e => by have := hlt _ e.symm; omega)).trans h6
      have g4 : wr.heap[w.heap.size]? = _ := (hgr.block _ (by omega) (fun e => by have := hlt _ e.symm; omega)).trans h4
      have hbwr : Below w.heap.size w wr := hBW.trans (below_of_grown hgr (by omega) (fun k e => by have := hlt _ e; omega))
      have HO := Kp.mk hown'
      have HG := Kp.mk hgr
      have HBW := Kp.mk hbwr
      have HS := SlI.below H.out hbwr
      have HLT := Kp.mk hlt
      clear hown' hgr hbwr hlt h6 h4 hBW hownW
      by_cases hkn : k < n
      · obtain ⟨b, off, rfl, c1⟩ := HS.at k (by rw [List.length_map, HN.out]; exact hkn)
        clear HS
        have hxk := HX.out k hkn
        have e1 : (L.map Int.ofNat)[k]'(by rw [List.length_map, HN.out]; exact hkn) = ((L.getD k 0 : Nat) : Int) := by
          have := HN.out
          simp [List.getD, List.getElem?_eq_getElem (show k < L.length by omega)]
        rw [e1] at c1
        obtain ⟨x, hxe⟩ : ∃ x, x = L.getD k 0 := ⟨_, rfl⟩
        rw [← hxe] at c1 hxk
        have t1 : (x : Int) / 2 ^ wd = 0 := by
          have : (x : Int) / 2 ^ wd = ((x / 2 ^ wd : Nat) : Int) := by push_cast; rfl
          rw [this, Nat.div_eq_of_lt hxk]; rfl
        obtain ⟨⟨d0, d1, d2⟩, -⟩ := box3 g6
        have HXK := Kp.mk hxk
        have HXE := Kp.mk hxe
        clear e1 hxk hxe
        have hkw : k * wd ≤ 300 * 62 := Nat.mul_le_mul (by omega) hw
        have hkw2 : IntKind.i64.wrap ((k : Int) * wd) = ((k * wd : Nat) : Int) := by
          have : (k : Int) * wd = ((k * wd : Nat) : Int) := by push_cast; rfl
          rw [this]; exact IntWalk.i64_in _ (by omega)
        generalize hp : k * wd = p at *
        have HP := Kp.mk hp
        clear hp
        go_wp2_with fail
        have hxs : x < 4611686018427387904 := Nat.lt_of_lt_of_le HXK.out (Nat.le_trans (Nat.pow_le_pow_right (by omega) hw) (by decide))
        have hpk : packN wd L k < 2 ^ p := by rw [← HP.out]; exact packN_lt wd L k (fun i hi => HX.out i (by omega))
        have hpk1 : packN wd L (k + 1) = packN wd L k + x * 2 ^ p := by rw [← HP.out, HXE.out]; rfl
        have hkn2 : p + wd ≤ 64 * m := by
          have h1 : (k + 1) * wd ≤ n * wd := Nat.mul_le_mul_right _ hkn
          rw [Nat.add_mul, Nat.one_mul, HP.out] at h1
          exact Nat.le_trans h1 HM2.out
        have hpk2 : packN wd L k + x * 2 ^ p < 2 ^ (64 * m) := by
          rw [← hpk1]
          refine Nat.lt_of_lt_of_le (packN_lt wd L (k + 1) (fun i hi => HX.out i (by omega))) (Nat.pow_le_pow_right (by omega) ?_)
          rw [Nat.add_mul, Nat.one_mul, HP.out]; exact hkn2
        refine (put_row (w.heap.size + 1) m cap1 (packN wd L k) x p sa wr HO.out hpk hxs (by omega) (fun h0 => ?_) hpk2).mono ?_
        · have := HXK.out
          by_cases hw0 : wd = 0
          · subst hw0; rw [Nat.pow_zero] at this; omega
          · omega
        rintro e w3 ⟨rfl, ho3, hg3⟩
        rw [← hpk1] at ho3
        have HO3 := Kp.mk ho3
        have HG3 := Kp.mk (grown_trans HG.out hg3)
        clear ho3 hg3 hpk hpk1 hpk2 HO g6 g4 d0 d1 d2 c1
        go_wp2
        go_roundw
        case rel => exact ⟨k + 1, by omega, by go_num, HO3.out, HG3.out⟩
        case measure => simp [intOf]; omega
      · obtain ⟨⟨d0, d1, d2⟩, -⟩ := box3 g6
        obtain ⟨⟨b0, b1, b2⟩, f0, f1, f2⟩ := box3 g4
        clear HS
        go_wp2
        have hk' : k = n := by omega
        subst hk'
        refine bodyPost_ret (v := .tuple #[.agg #[.int .i64 k, .int .i64 wd, .slice sa m cap1], .int .i64 0]) ?hr rfl ?hp
        case hr =>
          clear H HX HO HG HBW HLT g4 g6
          rw [results_cell_tmp rfl]
          go_simp
        case hp =>
          unfold PackRet
          rw [HN.out, HM.out]
          refine ⟨sa, cap1, rfl, own_base (ownsRow_setCell_below (ownsRow_setCell_below (ownsRow_setCell_below HO.out ?_ _) ?_ _) ?_ _) (by omega), ((HBW.out.setCell (p := ⟨w.heap.size, 0, none⟩) (Nat.le_refl _) _).setCell (p := ⟨w.heap.size, 1, none⟩) (Nat.le_refl _) _).setCell (p := ⟨w.heap.size, 2, none⟩) (Nat.le_refl _) _⟩ <;> exact Nat.lt_succ_self _

end Go.Proofs.Ytjicgndahpffbaa
