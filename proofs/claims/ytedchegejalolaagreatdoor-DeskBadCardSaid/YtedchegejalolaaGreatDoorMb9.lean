import Derived.Test.YtedchegejalolaaGreatDoorMb7
import Derived.Test.YtedchegejalolaaGreatDoorMb4
import Derived.Test.YtedchegejalolaaGreatDoorMb8
import Derived.Test.YtedchegejalolaaGreatDoorMb1
import Derived.Test.YtedchegejalolaaGreatDoorMb0
import Derived.Test.YtedchegejalolaaGreatDoorMb2
import Derived.Lib.Strings
import Derived.Lib.Slices
import Derived.Lib.Walk
import Derived.Lib.Builder
import Derived.Lib.AppendStr
import Derived.Lib.UnsafeStr
import Derived.Lib.MakeNoZero
import Derived.Laws.Externs
import Derived.Laws.IdiomCopy
import Derived.Shelf.Abstract
/- strings.Builder: the walks of copyCheck, WriteByte and WriteString (the panic of copyCheck is not reached). -/
namespace Go.Proofs.YtedchegejalolaaGreatDoor
set_option linter.unusedVariables false
open Go.RowKit

/-- All blocks but b, and those of bytes, are as they were. -/
structure Kept8 (b : Nat) (w w' : World) : Prop where
  size : w.heap.size ≤ w'.heap.size
  same : ∀ k, k < w.heap.size → k ≠ b → (∀ cs fr, w.heap[k]? ≠ some (.cells cs 5 fr)) → w'.heap[k]? = w.heap[k]?
theorem Kept8.refl (b : Nat) (w : World) : Kept8 b w w := ⟨Nat.le_refl _, fun _ _ _ _ => rfl⟩
theorem Kept8.trans {b : Nat} {w w' w'' : World} (h : Kept8 b w w') (k : Kept8 b w' w'') : Kept8 b w w'' :=
  ⟨Nat.le_trans h.size k.size, fun j h1 h2 h3 => by
    have e := h.same j h1 h2 h3
    rw [k.same j (Nat.lt_of_lt_of_le h1 h.size) h2 (fun cs fr => by rw [e]; exact h3 cs fr), e]⟩
theorem Kept8.setCell (b o : Nat) (v : Value) (w : World) : Kept8 b w (w.setCell ⟨b, o, none⟩ v) :=
  ⟨by simp, fun k _ hk _ => heap_setCell_other w ⟨b, o, none⟩ k v hk⟩
theorem Kept8.grown {b : Nat} {w w' : World} {v : Value} {B n : Nat} {xs : List Value} (hown : w.ownsRow B 5 1 v n xs) (hg : w.grownBy w' v.ownBlock) : Kept8 b w w' :=
  ⟨hg.size, fun k hk _ hk2 => hg.block k hk (fun e => by
    rcases hown.2 with ⟨rfl, _⟩ | ⟨g, cap, cur, rfl, _, hgb, _⟩
    · cases e
    · have e2 : k = g := by simpa [Value.ownBlock] using e
      subst e2
      exact hk2 _ _ hgb)⟩
theorem Kept8.alloc (b : Nat) (w : World) (o : Obj) : Kept8 b w (w.alloc o) := ⟨by simp, fun k hk _ _ => (below_alloc (Nat.le_refl w.heap.size) o).block k hk⟩
theorem Kept8.row {b B n m c : Nat} {w w' : World} {a : Option Addr} {xs : List Value} {q : Value × Value} (h : Kept8 b w w') (ho : w.ownsRow B 3 1 (.slice a m c) n xs) (hb : w.heap[b]? = some (.cells #[q.1, q.2] 48 (0, 0))) : w'.ownsRow B 3 1 (.slice a m c) n xs := by
  refine ⟨ho.1, ?_⟩
  rcases ho.2 with h0 | ⟨g, cap, cur, hv, hB, hgb, h1, h2, h3, h4⟩
  · exact .inl h0
  · refine .inr ⟨g, cap, cur, hv, hB, ?_, h1, h2, h3, h4⟩
    rw [h.same g (Array.getElem?_eq_some_iff.1 hgb).1 (fun e => by rw [e, hb] at hgb; cases hgb) (fun cs fr e => by rw [hgb] at e; cases e)]
    exact hgb
theorem isBld_heap {B b : Nat} {bs : List Value} {w : World} (h : Lib.IsBuilder 48 5 B b bs w) : ∃ q : Value × Value, w.heap[b]? = some (.cells #[q.1, q.2] 48 (0, 0)) := by
  rcases h with ⟨_, v, hb, _⟩ | ⟨_, v, hb, _⟩
  · exact ⟨(_, v), hb⟩
  · exact ⟨(_, v), hb⟩
theorem bld_info : (Tryz.prog.info? 48).map (·.size) = some 2 := by kernel_rfl
theorem bld_lies : liesAt Tryz.prog Tryz.prog.depth 48 (2 / Tryz.prog.cellsOf 48) 0 48 1 = true := by kernel_rfl

set_option maxHeartbeats 1000000 in
set_option maxRecDepth 100000 in
theorem copyCheck_used (b : Nat) (w : World) (h0 : w.cell? ⟨b, 0, none⟩ = some (.pointer (some ⟨b, 0, none⟩))) :
    Calls Tryz.prog 19 #[.pointer (some ⟨b, 0, none⟩)] w fun e w' => e = .returned (.tuple #[]) ∧ w' = w := by
  obtain ⟨j, hj, _⟩ := Option.map_eq_some_iff.1 bld_info
  go_enter Tryz.func19, Tryz.ntmps19
  go_wp2
  rw [Lib.run_neq_ptr_same w _ Tryz.underlying45 hj]
  go_wp2
  go_end0
  exact ⟨rfl, rfl⟩

set_option maxHeartbeats 1000000 in
set_option maxRecDepth 100000 in
theorem copyCheck_fresh (b : Nat) (w : World) (h0 : w.cell? ⟨b, 0, none⟩ = some (.pointer none)) (hsh : w.shape? b = some (48, 2)) (hfz : w.frozen? ⟨b, 0, none⟩ = false) :
    Calls Tryz.prog 19 #[.pointer (some ⟨b, 0, none⟩)] w fun e w' => e = .returned (.tuple #[]) ∧ w' = w.setCell ⟨b, 0, none⟩ (.pointer (some ⟨b, 0, none⟩)) := by
  obtain ⟨j, hj, hjs⟩ := Option.map_eq_some_iff.1 bld_info
  go_enter Tryz.func19, Tryz.ntmps19
  go_wp2
  rw [Lib.run_to_unsafe w ⟨b, 0, none⟩ Tryz.underlying45 Tryz.underlying65 hj (by rw [hjs]; decide) hsh (Nat.zero_lt_succ 1)]
  simp only [Result.andThen]
  rw [Oper.upon_value]
  go_wp2
  rw [run_callFunc_extern Tryz.func34 (by kernel_rfl) (by kernel_rfl) (by kernel_rfl) (e := Extern.AbiNoEscape.same) (by kernel_rfl)]
  rw [Lib.run_noEscape]
  simp only [Result.andThen]
  rw [Oper.upon_value]
  go_wp2
  rw [Lib.run_from_unsafe w ⟨b, 0, none⟩ Tryz.underlying65 Tryz.underlying45 hj hsh bld_lies]
  simp only [Result.andThen]
  rw [Oper.upon_value]
  go_wp2
  go_end0
  exact ⟨rfl, rfl⟩

theorem copyCheck_any (B b : Nat) (bs : List Value) (w : World) (h : Lib.IsBuilder 48 5 B b bs w) :
    Calls Tryz.prog 19 #[.pointer (some ⟨b, 0, none⟩)] w fun e w' => e = .returned (.tuple #[]) ∧ (Lib.BuilderAt 48 5 B b (.pointer (some ⟨b, 0, none⟩)) bs w' ∧ Below B w w' ∧ Kept8 b w w') := by
  rcases h with h | h
  · refine (copyCheck_fresh b w h.cell0 h.shape h.frozen0).mono ?_
    rintro e w' ⟨rfl, rfl⟩
    exact ⟨rfl, h.used _, (Below.refl B w).setCell (p := ⟨b, 0, none⟩) h.1 _, Kept8.setCell b 0 _ w⟩
  · refine (copyCheck_used b w h.cell0).mono ?_
    rintro e w' ⟨rfl, rfl⟩
    exact ⟨rfl, h, Below.refl B _, Kept8.refl b _⟩

set_option maxHeartbeats 2000000 in
set_option maxRecDepth 100000 in
theorem writeByte_any (B b : Nat) (bs : List Value) (c : Int) (w : World) (h : Lib.IsBuilder 48 5 B b bs w) (hlen : bs.length + 1 ≤ 140737488355328) (hBw : B ≤ w.heap.size) :
    Calls Tryz.prog 39 #[.pointer (some ⟨b, 0, none⟩), .int .u8 c] w fun e w' => e = .returned .nilIface ∧ (Lib.BuilderAt 48 5 B b (.pointer (some ⟨b, 0, none⟩)) (bs ++ [.int .u8 c]) w' ∧ Below B w w' ∧ Kept8 b w w') := by
  obtain ⟨i0, hi, hz0, hz1, hz2⟩ := info_parts info_byte
  go_enter Tryz.func39, Tryz.ntmps39
  go_wp2_with (go_at_call 19; refine (copyCheck_any B b bs _ h).mono ?_)
  rintro e w1 ⟨rfl, h1, hb1, hk1⟩
  obtain ⟨hB, v, hbk, hown, hne⟩ := h1
  have c0 : w1.cell? ⟨b, 0, none⟩ = some (.pointer (some ⟨b, 0, none⟩)) := by rw [Lib.cell_of_heap hbk]; rfl
  have c1 : w1.cell? ⟨b, 1, none⟩ = some v := by rw [Lib.cell_of_heap hbk]; rfl
  go_wp2_with (at_builtin; refine wpList_append_own _ rfl _ _ 46 rfl B 5 i0 (.int .u8 0) 1 1 Tryz.underlying46 hi hz0 hz1 hz2 rfl (by decide) _ _ _ rfl (hown.alloc _) ⟨w1.heap.size, 0, none⟩ 1 1 [.int .u8 c] rfl rfl ?c1 ?c2 ?c3 ?c4 ?c5 ?_)
  case c1 =>
    intro j u hj
    match j, hj with
    | 0, hj => simp at hj; subst hj; simp [Addr.add]
  case c2 => intro u hu; simp at hu; subst hu; rfl
  case c3 => unfold maxLen; omega
  case c4 => omega
  case c5 => have := hb1.size; simp; omega
  intro v' w2 hown' hgrow _
  have hlt : b < w1.heap.size := by
    rcases Nat.lt_or_ge b w1.heap.size with h' | h'
    · exact h'
    · simp [Array.getElem?_eq_none h'] at hbk
  have hb2 : w2.heap[b]? = some (.cells #[.pointer (some ⟨b, 0, none⟩), v] 48 (0, 0)) := by
    rw [hgrow.block b (by simp; omega) (fun e => hne e.symm), Lib.alloc_old w1 _ b hlt]
    exact hbk
  have d0 : w2.cell? ⟨b, 0, none⟩ = some (.pointer (some ⟨b, 0, none⟩)) := by rw [Lib.cell_of_heap hb2]; rfl
  have d1 : w2.cell? ⟨b, 1, none⟩ = some v := by rw [Lib.cell_of_heap hb2]; rfl
  have f1 : w2.frozen? ⟨b, 1, none⟩ = false := Lib.frozen_of_heap hb2 1
  obtain ⟨g, cap, rfl⟩ : ∃ g cap, v' = .slice (some ⟨g, 0, none⟩) (bs.length + 1) cap := by
    rcases hown'.2 with ⟨_, h0⟩ | ⟨g, cap, cur, hv, _⟩
    · omega
    · exact ⟨g, cap, hv⟩
  go_wp2
  go_ret
  refine ⟨rfl, ?_, ?_, (hk1.trans (Kept8.alloc b w1 _)).trans ((Kept8.grown (hown.alloc _) hgrow).trans (Kept8.setCell b 1 _ w2))⟩
  · exact Lib.BuilderAt.put (T := 48) (e := 5) hB hb2 (bs' := bs ++ [.int .u8 c]) (by simpa using hown') (by decide)
  · exact ((hb1.alloc (by have := hb1.size; omega) _).grown hgrow (by have := hb1.size; simp; omega) (fun k hk => (hown.lt k hk).1)).setCell (p := ⟨b, 1, none⟩) hB _

set_option maxHeartbeats 2000000 in
set_option maxRecDepth 100000 in
theorem writeString_any (B b : Nat) (bs : List Value) (s : ByteArray) (w : World) (h : Lib.IsBuilder 48 5 B b bs w) (hlen : bs.length + s.size ≤ 140737488355328) (hBw : B ≤ w.heap.size) :
    Calls Tryz.prog 14 #[.pointer (some ⟨b, 0, none⟩), .string s] w fun e w' => e = .returned (.tuple #[.int .i64 s.size, .nilIface]) ∧ (Lib.BuilderAt 48 5 B b (.pointer (some ⟨b, 0, none⟩)) (bs ++ Lib.strCells s) w' ∧ Below B w w' ∧ Kept8 b w w') := by
  obtain ⟨i0, hi, hz0, hz1, hz2⟩ := info_parts info_byte
  go_enter Tryz.func14, Tryz.ntmps14
  go_wp2_with (go_at_call 19; refine (copyCheck_any B b bs _ h).mono ?_)
  rintro e w1 ⟨rfl, h1, hb1, hk1⟩
  obtain ⟨hB, v, hbk, hown, hne⟩ := h1
  have c0 : w1.cell? ⟨b, 0, none⟩ = some (.pointer (some ⟨b, 0, none⟩)) := by rw [Lib.cell_of_heap hbk]; rfl
  have c1 : w1.cell? ⟨b, 1, none⟩ = some v := by rw [Lib.cell_of_heap hbk]; rfl
  go_wp2_with (at_builtin; refine Lib.wpList_append_own_string _ rfl _ _ 46 9 rfl B 5 i0 Tryz.underlying46 Tryz.underlying9 hi hz0 hz1 hz2 _ _ _ rfl hown s rfl ?c3 ?c4 ?c5 ?_)
  case c3 => unfold maxLen; omega
  case c4 => omega
  case c5 => have := hb1.size; omega
  intro v' w2 hown' hgrow _
  have hlt : b < w1.heap.size := by
    rcases Nat.lt_or_ge b w1.heap.size with h' | h'
    · exact h'
    · simp [Array.getElem?_eq_none h'] at hbk
  have hb2 : w2.heap[b]? = some (.cells #[.pointer (some ⟨b, 0, none⟩), v] 48 (0, 0)) := by
    rw [hgrow.block b hlt (fun e => hne e.symm)]
    exact hbk
  have d0 : w2.cell? ⟨b, 0, none⟩ = some (.pointer (some ⟨b, 0, none⟩)) := by rw [Lib.cell_of_heap hb2]; rfl
  have d1 : w2.cell? ⟨b, 1, none⟩ = some v := by rw [Lib.cell_of_heap hb2]; rfl
  have f1 : w2.frozen? ⟨b, 1, none⟩ = false := Lib.frozen_of_heap hb2 1
  obtain ⟨ao, n', cap, rfl⟩ : ∃ ao n' cap, v' = .slice ao n' cap := by
    rcases hown'.2 with ⟨hv, _⟩ | ⟨g, cap, cur, hv, _⟩
    · exact ⟨_, _, _, hv⟩
    · exact ⟨_, _, _, hv⟩
  go_wp2
  go_ret2
  refine ⟨rfl, ?_, ?_, hk1.trans ((Kept8.grown hown hgrow).trans (Kept8.setCell b 1 _ w2))⟩
  · exact Lib.BuilderAt.put (T := 48) (e := 5) hB hb2 (bs' := bs ++ Lib.strCells s) (by simpa [Lib.strCells_length] using hown') (by decide)
  · exact (hb1.grown hgrow (by have := hb1.size; omega) (fun k hk => (hown.lt k hk).1)).setCell (p := ⟨b, 1, none⟩) hB _

end Go.Proofs.YtedchegejalolaaGreatDoor

/- desk: save. -/
namespace Go.Proofs.YtedchegejalolaaGreatDoor.Dk
set_option linter.unusedVariables false
open Go.RowKit

def digits : Wd := [48, 49, 50, 51, 52, 53, 54, 55, 56, 57, 97, 98, 99, 100, 101, 102]
def hexD (n : Nat) : UInt8 := digits.getD n 0
def hexT (l : List Nat) : Wd := l.flatMap fun x => [hexD (x / 16), hexD (x % 16)]
theorem hexT_length (l : List Nat) : (hexT l).length = 2 * l.length := by
  induction l with
  | nil => rfl
  | cons x l ih => simp [hexT] at *; omega
theorem hexT_snoc (l : List Nat) (x : Nat) : hexT (l ++ [x]) = hexT l ++ [hexD (x / 16)] ++ [hexD (x % 16)] := by simp [hexT]
theorem hexT_append (l m : List Nat) : hexT (l ++ m) = hexT l ++ hexT m := by simp [hexT]
def imageW : Wd := [105, 109, 97, 103, 101, 32]
def saveT (L : List Pt) : Wd := imageW ++ hexT (saveL L)
theorem digit_idx (n : Nat) (h : n < 16) (W : World) : (Instr.index 9 (.string ⟨#[48, 49, 50, 51, 52, 53, 54, 55, 56, 57, 97, 98, 99, 100, 101, 102]⟩) (.int .u8 n)).run Tryz.prog W = .ok (.int .u8 ((hexD n).toNat : Int)) W := by
  have hks : n < (⟨#[48, 49, 50, 51, 52, 53, 54, 55, 56, 57, 97, 98, 99, 100, 101, 102]⟩ : ByteArray).size := h
  have key : ∀ m : Fin 16, (#[48, 49, 50, 51, 52, 53, 54, 55, 56, 57, 97, 98, 99, 100, 101, 102] : Array UInt8)[m.val]'m.2 = hexD m.val := by decide
  rw [run_index_string W 9 _ .u8 n Tryz.underlying9, dif_pos ⟨by omega, by show ((n : Nat) : Int) < 16; omega⟩]
  have e : ((#[48, 49, 50, 51, 52, 53, 54, 55, 56, 57, 97, 98, 99, 100, 101, 102] : Array UInt8)[n]'h) = hexD n := key ⟨n, h⟩
  rw [← e]
  rfl
theorem u8_and15 (x : Nat) (h : x < 256) : bits BinOp.and IntKind.u8 (x : Int) 15 = ((x % 16 : Nat) : Int) := by
  have h1 : (BitVec.ofInt 8 (x : Int)).toNat = x := by
    rw [BitVec.ofInt_natCast, BitVec.toNat_ofNat]; exact Nat.mod_eq_of_lt (by omega)
  have h2 : (BitVec.ofInt 8 (15 : Int)).toNat = 15 := by decide
  show IntKind.u8.wrap ((BitVec.ofInt 8 (x : Int) &&& BitVec.ofInt 8 (15 : Int)).toNat : Int) = _
  rw [BitVec.toNat_and, h1, h2, show 15 = 2 ^ 4 - 1 from rfl, Nat.and_two_pow_sub_one_eq_mod, show 2 ^ 4 = 16 from rfl, IntKind.wrap_u8']
  omega
theorem bc_snoc (x : Wd) (c : UInt8) : Lib.byteCells x ++ [.int .u8 (c.toNat : Int)] = Lib.byteCells (x ++ [c]) := by simp [Lib.byteCells]
set_option maxRecDepth 100000 in
set_option maxHeartbeats 8000000 in
theorem dsave_any (B db pc : Nat) (pa : Option Addr) (L : List Pt) (w : World) (h : DS w B db pa pc L) (hL : L.length ≤ 150) (hN : ∀ p ∈ L, p.Near) :
    Calls Tryz.prog 23 #[.pointer (some ⟨db, 0, none⟩)] w fun e w' => e = .returned (str (saveT L)) ∧ Kp (Below w.heap.size w w') := by
  have k0 : w.cell? ⟨db, 0, none⟩ = some (.slice pa L.length pc) := h.box.cell 0 rfl
  have CS := Kp.mk (save_any pa L.length pc L w (own_slc h.row) hL rfl hN)
  have HLT := Kp.mk (saveL_lt L)
  unfold saveT
  clear h hL hN
  generalize saveL L = l at *
  go_enter Tryz.func23, Tryz.ntmps23
  go_wp2_with fail
  refine CS.out.mono ?_
  rintro e w1 ⟨ra, r, rc, rfl, hr, HO, HB1⟩
  have HSL := Kp.mk (own_slb HO.out)
  have hl := HSL.out.len
  have HL := Kp.mk hl
  have HSZ1 := Kp.mk (show w.heap.size ≤ w1.heap.size from HB1.out.size)
  have hal := below_alloc (Nat.le_refl w1.heap.size) (.cells #[.pointer none, .slice none 0 0] 48)
  have HBX := Box.new w1 #[.pointer none, .slice none 0 0] 48
  have hIB : Lib.IsBuilder 48 5 w1.heap.size w1.heap.size (Lib.byteCells []) (w1.alloc (.cells #[.pointer none, .slice none 0 0] 48)) :=
    .inl ⟨Nat.le_refl _, .slice none 0 0, HBX, World.ownsRow_nil _ _ _ _, by simp [Value.ownBlock]⟩
  have CW := Kp.mk (writeString_any w1.heap.size w1.heap.size [] ⟨imageW.toArray⟩ _ hIB (by show 0 + 6 ≤ _; omega) hal.size)
  rw [show ([] : List Value) ++ Lib.strCells ⟨imageW.toArray⟩ = Lib.byteCells imageW from by simp [Lib.byteCells, Lib.strCells]] at CW
  have HAL := Kp.mk hal
  clear hal CS HO k0 HBX hIB hl
  go_wp2_with fail
  refine CW.out.mono ?_
  rintro e w3 ⟨rfl, hbd3, hb3, hk3⟩
  have HB3 := Kp.mk (show Lib.IsBuilder 48 5 w1.heap.size w1.heap.size (Lib.byteCells (imageW ++ hexT (l.take 0))) w3 from .inr (by simpa [hexT] using hbd3))
  have HW3 := Kp.mk (show Below w1.heap.size w1 w3 from HAL.out.trans hb3)
  clear CW hbd3 hb3 hk3 HAL
  obtain ⟨wo, rfl⟩ : ∃ wo : World, wo = w3 := ⟨_, rfl⟩
  obtain ⟨b, hb⟩ : ∃ b, w1.heap.size = b := ⟨_, rfl⟩
  have HBE := Kp.mk hb
  rw [hb] at HB3 ⊢
  clear hb
  go_wp2
  go_loopw [19] (fun iv wr => ∃ k : Nat, k ≤ r ∧ iv = .int .i64 k ∧ Kp (Lib.IsBuilder 48 5 b b (Lib.byteCells (imageW ++ hexT (l.take k))) wr) ∧ Kp (Below w1.heap.size w1 wr)) (fun iv _ => r - (intOf iv).toNat)
  case atStart => exact ⟨0, Nat.zero_le _, rfl, HB3, HW3⟩
  case round =>
    clear HB3 HW3
    obtain ⟨k, hk, rfl, HBD, HBW⟩ := hrel
    have hsz : b ≤ wr.heap.size := by rw [← HBE.out]; exact HBW.out.size
    by_cases hlt : k < r
    · have hkl : k < l.length := by rw [HL.out]; exact hlt
      obtain ⟨gb, go, rfl, cx⟩ := byte_cell (SlB.below HSL.out HBW.out) k hlt
      have hx := HLT.out _ (List.getElem_mem hkl)
      have hll : (l.take k).length ≤ 3000 := by rw [List.length_take]; omega
      rw [getD_at _ _ hkl] at cx
      have HTK := Kp.mk (show hexT (l.take (k + 1)) = hexT (l.take k) ++ [hexD (l[k] / 16)] ++ [hexD (l[k] % 16)] from by rw [List.take_succ_eq_append_getElem hkl, hexT_snoc])
      have hxl : (Lib.byteCells (imageW ++ hexT (l.take k))).length ≤ 6006 := by
        rw [Lib.byteCells_length, List.length_append, hexT_length]
        show 6 + 2 * _ ≤ _
        omega
      generalize l[k] = x at *
      obtain ⟨q, hq⟩ : ∃ q, x / 16 = q := ⟨_, rfl⟩
      obtain ⟨s, hs⟩ : ∃ s, x % 16 = s := ⟨_, rfl⟩
      have i1 := digit_idx q (by omega)
      have i2 := digit_idx s (by omega)
      have hq1 : (x : Int) / 16 = (q : Int) := by omega
      have hs1 : bits BinOp.and IntKind.u8 (x : Int) 15 = (s : Int) := by rw [u8_and15 x hx, hs]
      rw [hq, hs] at HTK
      have C1 := Kp.mk (writeByte_any b b _ ((hexD q).toNat : Int) wr HBD.out (by omega) hsz)
      rw [bc_snoc] at C1
      clear hll hkl hx hq hs
      go_wp2_with fail
      refine C1.out.mono ?_
      rintro e w4 ⟨rfl, hbd4, hb4, hk4⟩
      have hsz4 : b ≤ w4.heap.size := Nat.le_trans hsz hk4.size
      have C2 := Kp.mk (writeByte_any b b _ ((hexD s).toNat : Int) w4 (.inr hbd4) (by rw [Lib.byteCells_length, List.length_append, List.length_singleton]; rw [Lib.byteCells_length] at hxl; omega) hsz4)
      rw [bc_snoc] at C2
      have HB4 := Kp.mk (HBW.out.trans (show Below w1.heap.size wr w4 from by rw [HBE.out]; exact hb4))
      clear C1 hbd4 hb4 hk4 HBW HBD i1
      go_wp2_with fail
      refine C2.out.mono ?_
      rintro e w5 ⟨rfl, hbd5, hb5, hk5⟩
      have HI5 := Kp.mk (show Lib.IsBuilder 48 5 b b (Lib.byteCells (imageW ++ hexT (l.take (k + 1)))) w5 from by
        rw [HTK.out, ← List.append_assoc, ← List.append_assoc]; exact .inr hbd5)
      have HB5 := Kp.mk (HB4.out.trans (show Below w1.heap.size w4 w5 from by rw [HBE.out]; exact hb5))
      clear C2 hbd5 hb5 hk5 HB4 HTK i2
      go_wp2
      go_roundw
      case rel => exact ⟨k + 1, by omega, by go_num, HI5, HB5⟩
      case measure => simp [intOf]; omega
    · obtain rfl : k = r := by omega
      rw [List.take_of_length_le (by rw [HL.out]; exact Nat.le_refl _)] at HBD
      have CT := Kp.mk (Tryz.Builder_String_any b b (imageW ++ hexT l) wr HBD.out hsz)
      have HBW2 := Kp.mk (below_step HB1.out HBW.out)
      obtain ⟨res, hres⟩ : ∃ r, imageW ++ hexT l = r := ⟨_, rfl⟩
      rw [hres] at CT
      have HRES := Kp.mk hres
      clear hres HBD HBW
      go_wp2_with fail
      refine CT.out.mono ?_
      rintro e w5 ⟨rfl, hb5⟩
      have HBF := Kp.mk (HBW2.out.trans (hb5.mono (by have := HSZ1.out; have := HBE.out; omega)))
      clear CT
      go_wp2
      go_ret
      exact ⟨by rw [HRES.out]; rfl, HBF⟩

end Go.Proofs.YtedchegejalolaaGreatDoor.Dk

/- Words of texts: the plain law. -/
namespace Go.Proofs.YtedchegejalolaaGreatDoor.Qk
set_option linter.unusedVariables false

abbrev Wd := List UInt8
def isSign (c : UInt8) : Bool := c == 40 || c == 41 || c == 38 || c == 124 || c == 33
def flush (s : List Wd × Wd) : List Wd := if s.2 = [] then s.1 else s.1 ++ [s.2]
def st (s : List Wd × Wd) (c : UInt8) : List Wd × Wd :=
  if isSign c = true then (flush s ++ [[c]], []) else if c = 32 then (flush s, []) else (s.1, s.2 ++ [c])
def fold (t : List UInt8) (s : List Wd × Wd) : List Wd × Wd := t.foldl st s
/-- The words of a text. -/
def wordsF (t : List UInt8) : List Wd := flush (fold t ([], []))
theorem fold_nil (s : List Wd × Wd) : fold [] s = s := rfl
theorem fold_cons (c : UInt8) (t : List UInt8) (s : List Wd × Wd) : fold (c :: t) s = fold t (st s c) := rfl
theorem fold_append (t u : List UInt8) (s : List Wd × Wd) : fold (t ++ u) s = fold u (fold t s) := List.foldl_append ..
theorem st_sign {c : UInt8} (h : isSign c = true) (s : List Wd × Wd) : st s c = (flush s ++ [[c]], []) := by unfold st; rw [if_pos h]
theorem st_space (s : List Wd × Wd) : st s 32 = (flush s, []) := by unfold st; rw [if_neg (by decide), if_pos rfl]
theorem flush_none (out : List Wd) : flush (out, []) = out := by unfold flush; rw [if_pos rfl]
/-- A text that tells words, whatever was told ahead. -/
def Good (t : List UInt8) (T : List Wd) : Prop := ∀ out, flush (fold t (out, [])) = out ++ T
theorem Good.nil : Good [] [] := fun out => by rw [fold_nil, flush_none, List.append_nil]
theorem Good.sp {t : List UInt8} {T : List Wd} (h : Good t T) (out : List Wd) : fold (t ++ [32]) (out, []) = (out ++ T, []) := by
  rw [fold_append, fold_cons, fold_nil, st_space, h out]
theorem Good.sign {t : List UInt8} {T : List Wd} (h : Good t T) {c : UInt8} (hc : isSign c = true) (out : List Wd) : fold (t ++ [c]) (out, []) = (out ++ T ++ [[c]], []) := by
  rw [fold_append, fold_cons, fold_nil, st_sign hc, h out]
/-- Behind a blank. -/
theorem Good.cat {t u : List UInt8} {T U : List Wd} (h : Good t T) (h' : Good u U) : Good (t ++ [32] ++ u) (T ++ U) := fun out => by
  rw [fold_append, h.sp out, h', List.append_assoc]
/-- Behind a sign. -/
theorem Good.mark {t u : List UInt8} {T U : List Wd} (h : Good t T) {c : UInt8} (hc : isSign c = true) (h' : Good u U) : Good (t ++ [c] ++ u) (T ++ [[c]] ++ U) := fun out => by
  rw [fold_append, h.sign hc out, h']
  simp
def plain (c : UInt8) : Prop := isSign c = false ∧ c ≠ 32
theorem fold_word : ∀ (t : List UInt8) (out : List Wd) (now : Wd), (∀ c ∈ t, plain c) → fold t (out, now) = (out, now ++ t)
  | [], out, now, _ => by rw [fold_nil, List.append_nil]
  | c :: t, out, now, h => by
    obtain ⟨h1, h2⟩ := h c (by simp)
    rw [fold_cons]
    have e : st (out, now) c = (out, now ++ [c]) := by
      unfold st
      rw [if_neg (by rw [h1]; decide), if_neg h2]
    rw [e, fold_word t out (now ++ [c]) (fun x hx => h x (by simp [hx])), List.append_assoc]
    rfl
theorem good_word {t : List UInt8} (h0 : t ≠ []) (h : ∀ c ∈ t, plain c) : Good t [t] := fun out => by
  rw [fold_word t out [] h, List.nil_append]
  unfold flush
  rw [if_neg h0]

theorem digit_plain {u : Nat} (h : u < 10) : plain (UInt8.ofNat (48 + u)) := by
  have : ∀ i : Fin 10, isSign (UInt8.ofNat (48 + i.val)) = false ∧ UInt8.ofNat (48 + i.val) ≠ 32 := by decide
  exact this ⟨u, h⟩
theorem dec_plain {u : Nat} (h : u < 100) : (∀ c ∈ Lib.decDigits u, plain c) ∧ Lib.decDigits u ≠ [] := by
  by_cases h1 : u < 10
  · rw [Lib.decDigits_one h1]
    refine ⟨fun c hc => ?_, by simp⟩
    rw [List.mem_singleton.1 hc]
    exact digit_plain h1
  · rw [Lib.decDigits_two h1 h]
    refine ⟨fun c hc => ?_, by simp⟩
    simp only [List.mem_cons, List.not_mem_nil, or_false] at hc
    rcases hc with rfl | rfl
    · exact digit_plain (by omega)
    · exact digit_plain (by omega)
theorem itoa_plain {x : Int} (h1 : -100 < x) (h2 : x < 100) : (∀ c ∈ Lib.itoa x, plain c) ∧ Lib.itoa x ≠ [] := by
  rcases Int.lt_or_le x 0 with h | h
  · obtain ⟨u, rfl⟩ : ∃ u : Nat, x = -(u : Int) := ⟨x.natAbs, by omega⟩
    rw [Lib.itoa_neg u (by omega)]
    obtain ⟨h3, _⟩ := dec_plain (u := u) (by omega)
    refine ⟨fun c hc => ?_, by simp⟩
    rcases List.mem_cons.1 hc with rfl | hc
    · exact ⟨by decide, by decide⟩
    · exact h3 c hc
  · obtain ⟨u, rfl⟩ : ∃ u : Nat, x = (u : Int) := ⟨x.toNat, by omega⟩
    rw [Lib.itoa_nonneg]
    exact dec_plain (by omega)
theorem good_itoa {x : Int} (h1 : -100 < x) (h2 : x < 100) : Good (Lib.itoa x) [Lib.itoa x] := good_word (itoa_plain h1 h2).2 (itoa_plain h1 h2).1

/-- The words of an expression. -/
def wrapK (k : Int) (p : Ex) (T : List Wd) : List Wd := if Ex.rank p.kind ≤ Ex.rank k ∧ Ex.rank p.kind < 3 then [[40]] ++ T ++ [[41]] else T
def signK (o : Bool) : UInt8 := if o = true then 124 else 38
def toks : Ex → List Wd
  | .inn a b c d => [[105, 110], Lib.itoa a, Lib.itoa b, Lib.itoa c, Lib.itoa d]
  | .hv x => [[119], Lib.itoa x]
  | .not p => [[33]] ++ wrapK 5 p (toks p)
  | .two o p q => wrapK (Ex.ok o) p (toks p) ++ [[signK o]] ++ wrapK (Ex.ok o) q (toks q)
  | .three o p q r => wrapK (Ex.ok o) p (toks p) ++ [[signK o]] ++ (wrapK (Ex.ok o) q (toks q) ++ [[signK o]] ++ wrapK (Ex.ok o) r (toks r))
theorem signK_sign (o : Bool) : isSign (signK o) = true := by cases o <;> decide
theorem good_wrap (k : Int) (p : Ex) (h : Good p.txt (toks p)) : Good (Ex.wrapT k p p.txt) (wrapK k p (toks p)) := by
  unfold Ex.wrapT wrapK
  split
  · have h1 := (Good.nil).mark (c := 40) (by decide) (h.mark (c := 41) (by decide) Good.nil)
    simpa using h1
  · exact h
theorem Good.sep {t u : List UInt8} {T U : List Wd} (o : Bool) (h : Good t T) (h' : Good u U) : Good (t ++ Ex.sepT o ++ u) (T ++ [[signK o]] ++ U) := by
  have h1 := (h.cat Good.nil).mark (signK_sign o) (Good.nil.cat h')
  have e : Ex.sepT o = [32] ++ [signK o] ++ [32] := by cases o <;> rfl
  rw [e]
  simpa using h1
theorem good_txt : ∀ x : Ex, x.small → Good x.txt (toks x)
  | .inn a b c d, hs => by
    simp only [Ex.small] at hs
    have h1 := good_itoa (x := a) (by omega) (by omega)
    have h2 := good_itoa (x := b) (by omega) (by omega)
    have h3 := good_itoa (x := c) (by omega) (by omega)
    have h4 := good_itoa (x := d) (by omega) (by omega)
    have h0 : Good [105, 110] [[105, 110]] := good_word (by decide) (fun c hc => by
      simp only [List.mem_cons, List.not_mem_nil, or_false] at hc
      rcases hc with rfl | rfl <;> exact ⟨by decide, by decide⟩)
    have := (((h0.cat h1).cat h2).cat h3).cat h4
    simpa [Ex.txt, Ex.num, toks] using this
  | .hv x, hs => by
    simp only [Ex.small] at hs
    have h1 := good_itoa (x := x) (by omega) (by omega)
    have h0 : Good [119] [[119]] := good_word (by decide) (fun c hc => by
      rw [List.mem_singleton.1 hc]
      exact ⟨by decide, by decide⟩)
    have := h0.cat h1
    simpa [Ex.txt, toks] using this
  | .not p, hs => by
    simp only [Ex.small] at hs
    have h := good_wrap 5 p (good_txt p hs)
    have := (Good.nil).mark (c := 33) (by decide) h
    simpa [Ex.txt, toks] using this
  | .two o p q, hs => by
    simp only [Ex.small] at hs
    have h1 := good_wrap (Ex.ok o) p (good_txt p hs.1)
    have h2 := good_wrap (Ex.ok o) q (good_txt q hs.2)
    exact h1.sep o h2
  | .three o p q r, hs => by
    simp only [Ex.small] at hs
    have h1 := good_wrap (Ex.ok o) p (good_txt p hs.1)
    have h2 := good_wrap (Ex.ok o) q (good_txt q hs.2.1)
    have h3 := good_wrap (Ex.ok o) r (good_txt r hs.2.2)
    have := h1.sep o (h2.sep o h3)
    simpa [Ex.txt, toks] using this
theorem words_txt {x : Ex} (hs : x.small) : wordsF x.txt = toks x := by
  have := good_txt x hs []
  rwa [List.nil_append] at this

/-- Texts with more blanks behind blanks. -/
inductive Wide : List UInt8 → List UInt8 → Prop
  | nil : Wide [] []
  | keep (c : UInt8) {t u : List UInt8} (h : Wide t u) : Wide (t ++ [c]) (u ++ [c])
  | more {t u : List UInt8} (h : Wide t u) : Wide (t ++ [32]) (u ++ [32] ++ [32, 32])
theorem st_flushed (out : List Wd) : st (out, []) 32 = (out, []) := by rw [st_space, flush_none]
theorem Wide.fold {t u : List UInt8} (h : Wide t u) (out : List Wd) : Qk.fold u (out, []) = Qk.fold t (out, []) := by
  induction h with
  | nil => rfl
  | keep c h ih => rw [fold_append, fold_append, ih]
  | more h ih =>
    rw [fold_append, fold_append, fold_append, ih]
    simp only [fold_cons, fold_nil]
    generalize Qk.fold _ _ = s
    rw [st_space s, st_flushed, st_flushed]
end Go.Proofs.YtedchegejalolaaGreatDoor.Qk

/- The words of a text: the walk. -/
namespace Go.Proofs.YtedchegejalolaaGreatDoor
set_option linter.unusedVariables false
open Go.RowKit Qk

theorem sign_at : ∀ c : UInt8, (0 ≤ Lib.indexByte [40, 41, 38, 124, 33] c ↔ isSign c = true) := by
  have h : ∀ i : Fin 256, (0 ≤ Lib.indexByte [40, 41, 38, 124, 33] (UInt8.ofNat i.val) ↔ isSign (UInt8.ofNat i.val) = true) := by decide +kernel
  intro c
  have := h ⟨c.toNat, c.toNat_lt⟩
  simpa using this

theorem str_idx (t : Wd) (k : Nat) (hk : k < t.length) (W : World) : (Instr.index 9 (str t) (.int .i64 k)).run Tryz.prog W = .ok (.int .u8 (t[k].toNat : Int)) W := by
  have hks : k < (⟨t.toArray⟩ : ByteArray).size := by show k < t.toArray.size; simpa using hk
  rw [run_index_string W 9 ⟨t.toArray⟩ .i64 k Tryz.underlying9, dif_pos ⟨by omega, by omega⟩]
  congr 2
theorem str_ext (t : Wd) (k : Nat) (hk : k < t.length) : (⟨t.toArray⟩ : ByteArray).extract k (k + 1) = ⟨#[t[k]]⟩ := by
  apply ByteArray.ext
  apply Array.ext'
  simp only [ByteArray.data_extract, Array.toList_extract, List.extract_eq_take_drop]
  rw [show k + 1 - k = 1 by omega, List.drop_eq_getElem_cons hk]
  rfl
theorem fold_step (t : Wd) (k : Nat) (hk : k < t.length) {s : List Wd × Wd} (h : fold (t.take k) ([], []) = s) : fold (t.take (k + 1)) ([], []) = st s t[k] := by
  rw [List.take_succ_eq_append_getElem hk, fold_append, h]
  rfl

set_option maxRecDepth 100000 in
set_option maxHeartbeats 16000000 in
theorem words_any (t : List UInt8) (n : Nat) (ht : t.length = n) (hn : n ≤ 1000) (w : World) :
    Calls Tryz.prog 63 #[str t] w fun e w' => ∃ (oa : Option Addr) (m oc : Nat), e = .returned (.slice oa m oc) ∧ Kp ((wordsF t).length = m ∧ m ≤ 3000) ∧ Kp (w'.ownsRow w.heap.size 9 1 (.slice oa m oc) m (strs (wordsF t))) ∧ Kp (Below w.heap.size w w') := by
  have HT := Kp.mk ht
  have hsz : (⟨t.toArray⟩ : ByteArray).size = n := by show t.toArray.size = n; simpa using ht
  clear ht
  obtain ⟨B, hB⟩ : ∃ B, w.heap.size = B := ⟨_, rfl⟩
  rw [hB]
  have HBE := Kp.mk hB
  clear hB
  go_enter Tryz.func63, Tryz.ntmps63
  go_wp2
  go_loopw [3, 4, 10] (fun ov nv iv wr => ∃ (k m : Nat) (oa : Option Addr) (oc : Nat) (out : List Wd) (now : Wd), k ≤ n ∧ m ≤ 2 * k ∧ now.length ≤ k ∧ iv = .int .i64 k ∧ ov = .slice oa m oc ∧ nv = str now ∧ Kp (out.length = m) ∧ Kp (fold (t.take k) ([], []) = (out, now)) ∧ Kp (wr.ownsRow B 9 1 (.slice oa m oc) m (strs out)) ∧ Kp (Below B w wr)) (fun _ _ iv _ => n - (intOf iv).toNat)
  case atStart => exact ⟨0, 0, none, 0, [], [], Nat.zero_le _, Nat.le_refl _, Nat.zero_le _, rfl, rfl, rfl, ⟨rfl⟩, ⟨rfl⟩, ⟨World.ownsRow_nil _ _ _ _⟩, ⟨Below.refl _ _⟩⟩
  case round =>
    obtain ⟨k, m, oa, oc, out, now, hk, hmk, hnl, rfl, rfl, rfl, HL, HF, HO, HB⟩ := hrel
    have hsB : B ≤ wr.heap.size := by have := HB.out.size; have := HBE.out; omega
    by_cases hlt : k < n
    · have hkt : k < t.length := by rw [HT.out]; exact hlt
      have hidx := str_idx t k hkt
      have hext := str_ext t k hkt
      have HF1 := Kp.mk (fold_step t k hkt HF.out)
      have CI := Kp.mk (fun W => Tryz.strings_IndexByte ⟨#[40, 41, 38, 124, 33]⟩ (t[k].toNat : Int) W)
      have hsg := sign_at t[k]
      generalize t[k] = c at *
      rw [show (((c.toNat : Int)).toNat.toUInt8) = c by simp] at CI
      simp only at CI
      obtain ⟨r, hr⟩ : ∃ r, Lib.indexByte [40, 41, 38, 124, 33] c = r := ⟨_, rfl⟩
      rw [hr] at CI hsg
      have HRR := Kp.mk hr
      have s2 : (⟨#[c]⟩ : ByteArray).size ≤ 1 := by show (#[c] : Array UInt8).size ≤ 1; simp
      clear hr hkt HF
      have HCE := Kp.mk (show ∃ z : Int, (c.toNat : Int) = z from ⟨_, rfl⟩)
      by_cases hs : isSign c = true
      · have hr0 : (0 : Int) ≤ r := hsg.2 hs
        have HST := Kp.mk (st_sign hs (out, now))
        clear hsg hs
        cases now with
        | nil =>
          have HF2 := Kp.mk (show fold (t.take (k + 1)) ([], []) = (out ++ [[c]], []) from by rw [HF1.out, HST.out, flush_none])
          clear HF1 HST
          go_wp2_with (first
            | (go_at_call 45; refine (CI.out _).mono ?_; rintro e w' ⟨rfl, rfl⟩)
            | (at_builtin; refine wpList_pushS tStrs (by rfl) _ _ (by rfl) B oa m oc _ (by rfl) HO.out 1 _ (by rfl) (by rfl) ?d1 ?d2 (by decide) hsB ?d4)
            | fail)
          case d1 => rfl
          case d2 => omega
          case d4 =>
            intro oa2 oc2 w2 ho2 hg2 hn2
            have HO2 := Kp.mk (show w2.ownsRow B 9 1 (.slice oa2 (m + 1) oc2) (m + 1) (strs (out ++ [[c]])) from by rw [strs_append]; exact ho2)
            have HB2 := Kp.mk (HB.out.trans (below_of_grown hg2 hsB (fun q hq => (own_lt HO.out q hq).1)))
            clear ho2 hg2 hn2 HO HB CI hidx hext s2
            go_wp2
            go_roundw
            case rel => exact ⟨k + 1, m + 1, oa2, oc2, out ++ [[c]], [], by omega, by omega, by simp, by go_num, rfl, rfl, ⟨by rw [List.length_append, HL.out]; rfl⟩, HF2, HO2, HB2⟩
            case measure => simp [intOf]; omega
        | cons a l =>
          have HF2 := Kp.mk (show fold (t.take (k + 1)) ([], []) = (out ++ [a :: l] ++ [[c]], []) from by rw [HF1.out, HST.out]; rfl)
          clear HF1 HST
          go_wp2_with (first
            | (go_at_call 45; refine (CI.out _).mono ?_; rintro e w' ⟨rfl, rfl⟩)
            | (at_builtin; refine wpList_pushS tStrs (by rfl) _ _ (by rfl) B oa m oc _ (by rfl) HO.out 1 _ (by rfl) (by rfl) ?d1 ?d2 (by decide) hsB ?d4)
            | fail)
          case d1 => rfl
          case d2 => omega
          case d4 =>
            intro oa2 oc2 w2 ho2 hg2 hn2
            have HO2 := Kp.mk (show w2.ownsRow B 9 1 (.slice oa2 (m + 1) oc2) (m + 1) (strs (out ++ [a :: l])) from by rw [strs_append]; exact ho2)
            have HB2 := Kp.mk (HB.out.trans (below_of_grown hg2 hsB (fun q hq => (own_lt HO.out q hq).1)))
            have hs2 : B ≤ w2.heap.size := Nat.le_trans hsB hg2.size
            clear ho2 hg2 hn2 HO HB CI hidx
            go_wp2_with (first
              | (at_builtin; refine wpList_pushS tStrs (by rfl) _ _ (by rfl) B oa2 (m + 1) oc2 _ (by rfl) HO2.out 1 _ (by rfl) (by rfl) ?f1 ?f2 (by decide) hs2 ?f4)
              | fail)
            case f1 => rfl
            case f2 => omega
            case f4 =>
              intro oa3 oc3 w3 ho3 hg3 hn3
              have HO3 := Kp.mk (show w3.ownsRow B 9 1 (.slice oa3 (m + 2) oc3) (m + 2) (strs (out ++ [a :: l] ++ [[c]])) from by rw [strs_append]; exact ho3)
              have HB3 := Kp.mk (HB2.out.trans (below_of_grown hg3 hs2 (fun q hq => (own_lt HO2.out q hq).1)))
              clear ho3 hg3 hn3 HO2 HB2 hext s2
              go_wp2
              go_roundw
              case rel => exact ⟨k + 1, m + 2, oa3, oc3, out ++ [a :: l] ++ [[c]], [], by omega, by omega, by simp, by go_num, rfl, rfl, ⟨by rw [List.length_append, List.length_append, HL.out]; rfl⟩, HF2, HO3, HB3⟩
              case measure => simp [intOf]; omega
      · have hr0 : ¬ (0 : Int) ≤ r := fun h => hs (hsg.1 h)
        have hr1 : r < (0 : Int) := by omega
        clear hsg
        by_cases h32 : c = 32
        · have HST := Kp.mk (show st (out, now) c = (flush (out, now), []) from by rw [h32, st_space])
          have z1 : ((c.toNat : Int) == 32) = true := by rw [h32]; rfl
          have z2 : ((c.toNat : Int) != 32) = false := by rw [h32]; rfl
          clear h32 hs HCE
          generalize ((c.toNat : Nat) : Int) = z at *
          cases now with
          | nil =>
            have HF2 := Kp.mk (show fold (t.take (k + 1)) ([], []) = (out, []) from by rw [HF1.out, HST.out, flush_none])
            clear HF1 HST hext s2
            go_wp2_with (first
              | (go_at_call 45; refine (CI.out _).mono ?_; rintro e w' ⟨rfl, rfl⟩)
              | fail)
            go_roundw
            case rel => exact ⟨k + 1, m, oa, oc, out, [], by omega, by omega, by simp, by go_num, rfl, rfl, HL, HF2, HO, HB⟩
            case measure => simp [intOf]; omega
          | cons a l =>
            have HF2 := Kp.mk (show fold (t.take (k + 1)) ([], []) = (out ++ [a :: l], []) from by rw [HF1.out, HST.out]; rfl)
            clear HF1 HST hext s2
            go_wp2_with (first
              | (go_at_call 45; refine (CI.out _).mono ?_; rintro e w' ⟨rfl, rfl⟩)
              | (at_builtin; refine wpList_pushS tStrs (by rfl) _ _ (by rfl) B oa m oc _ (by rfl) HO.out 1 _ (by rfl) (by rfl) ?d1 ?d2 (by decide) hsB ?d4)
              | fail)
            case d1 => rfl
            case d2 => omega
            case d4 =>
              intro oa2 oc2 w2 ho2 hg2 hn2
              have HO2 := Kp.mk (show w2.ownsRow B 9 1 (.slice oa2 (m + 1) oc2) (m + 1) (strs (out ++ [a :: l])) from by rw [strs_append]; exact ho2)
              have HB2 := Kp.mk (HB.out.trans (below_of_grown hg2 hsB (fun q hq => (own_lt HO.out q hq).1)))
              clear ho2 hg2 hn2 HO HB CI hidx
              go_wp2
              go_roundw
              case rel => exact ⟨k + 1, m + 1, oa2, oc2, out ++ [a :: l], [], by omega, by omega, by simp, by go_num, rfl, rfl, ⟨by rw [List.length_append, HL.out]; rfl⟩, HF2, HO2, HB2⟩
              case measure => simp [intOf]; omega
        · have HST := Kp.mk (show st (out, now) c = (out, now ++ [c]) from by unfold st; rw [if_neg hs, if_neg h32])
          have hz : ¬ (c.toNat : Int) = 32 := fun e => h32 (by
            have : c.toNat = 32 := by omega
            exact UInt8.toNat_inj.1 (by simpa using this))
          have z1 : ((c.toNat : Int) == 32) = false := by rw [beq_eq_false_iff_ne]; exact hz
          have z2 : ((c.toNat : Int) != 32) = true := by rw [bne_iff_ne]; exact hz
          have HF2 := Kp.mk (show fold (t.take (k + 1)) ([], []) = (out, now ++ [c]) from by rw [HF1.out, HST.out])
          clear h32 hs HCE hz HF1 HST
          generalize ((c.toNat : Nat) : Int) = z at *
          have s1 : (⟨now.toArray⟩ : ByteArray).size ≤ 1000 := str_size (by omega)
          have hadd : (⟨now.toArray⟩ : ByteArray) ++ ⟨#[c]⟩ = ⟨(now ++ [c]).toArray⟩ := str_add now [c]
          have s3 : (⟨(now ++ [c]).toArray⟩ : ByteArray).size ≤ 1001 := str_size (by simp; omega)
          have HNL := Kp.mk (show (now ++ [c]).length ≤ k + 1 from by simp; omega)
          generalize now ++ [c] = now2 at *
          go_wp2_with (first
            | (go_at_call 45; refine (CI.out _).mono ?_; rintro e w' ⟨rfl, rfl⟩)
            | fail)
          go_roundw
          case rel => exact ⟨k + 1, m, oa, oc, out, now2, by omega, by omega, HNL.out, by go_num, rfl, rfl, HL, HF2, HO, HB⟩
          case measure => simp [intOf]; omega
    · obtain rfl : k = n := by omega
      have HFT := Kp.mk (show fold t ([], []) = (out, now) from by
        have := HF.out
        rwa [← HT.out, List.take_length] at this)
      clear HF
      cases now with
      | nil =>
        have HW := Kp.mk (show wordsF t = out from by unfold wordsF; rw [HFT.out, flush_none])
        go_wp2
        go_ret
        exact ⟨oa, m, oc, rfl, ⟨by rw [HW.out]; exact HL.out, by omega⟩, by rw [HW.out]; exact HO, HB⟩
      | cons a l =>
        have HW := Kp.mk (show wordsF t = out ++ [a :: l] from by unfold wordsF; rw [HFT.out]; rfl)
        go_wp2_with (first
          | (at_builtin; refine wpList_pushS tStrs (by rfl) _ _ (by rfl) B oa m oc _ (by rfl) HO.out 1 _ (by rfl) (by rfl) ?d1 ?d2 (by decide) hsB ?d4)
          | fail)
        case d1 => rfl
        case d2 => omega
        case d4 =>
          intro oa2 oc2 w2 ho2 hg2 hn2
          have HO2 := Kp.mk (show w2.ownsRow B 9 1 (.slice oa2 (m + 1) oc2) (m + 1) (strs (wordsF t)) from by rw [HW.out, strs_append]; exact ho2)
          have HB2 := Kp.mk (HB.out.trans (below_of_grown hg2 hsB (fun q hq => (own_lt HO.out q hq).1)))
          clear ho2 hg2 hn2 HO HB
          go_wp2
          go_ret
          exact ⟨oa2, m + 1, oc2, rfl, ⟨by rw [HW.out, List.length_append, HL.out]; rfl, by omega⟩, HO2, HB2⟩

end Go.Proofs.YtedchegejalolaaGreatDoor

