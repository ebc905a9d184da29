import Derived.Test.YtedchegejalolaaGreatDoorMb5
import Derived.Test.YtedchegejalolaaGreatDoorMb4
import Derived.Test.YtedchegejalolaaGreatDoorMb0
/- desk: a line (printed by genline.py). -/
namespace Go.Proofs.YtedchegejalolaaGreatDoor.Dk
set_option linter.unusedVariables false
open Go.RowKit

theorem cut_hit (word args : Wd) (h : (32 : UInt8) ∉ word) : Lib.cut (word ++ 32 :: args) [32] = (word, args, true) := by
  unfold Lib.cut
  rw [index_hit 32 args word h, if_pos (by omega), Int.toNat_natCast, show [(32 : UInt8)].length = 1 from rfl, drop_hit, List.take_left]
theorem below_drawn {w w' : World} (h : ∃ n, w' = w.drewN n) : Below w.heap.size w w' := by
  obtain ⟨n, rfl⟩ := h
  exact below_drewN (Below.refl _ _) n
theorem cut_none (t : Wd) (h : (32 : UInt8) ∉ t) : Lib.cut t [32] = (t, [], false) := by
  unfold Lib.cut
  rw [index_miss 32 t h, if_neg (by omega)]
theorem tab_alone (db : Nat) (w : World) : ∃ w1 w2 w3 w4 : World,
    ((Instr.mapUpdate 55 (.map (some w.heap.size)) (.string ⟨#[100, 114, 111, 112]⟩) (.func (.func 20) #[.pointer (some ⟨db, 0, none⟩)] #[])).run Tryz.prog (w.alloc (.map #[] 0)) = .ok () w1) ∧
    ((Instr.mapUpdate 55 (.map (some w.heap.size)) (.string ⟨#[115, 107, 121]⟩) (.func (.func 21) #[.pointer (some ⟨db, 0, none⟩)] #[])).run Tryz.prog w1 = .ok () w2) ∧
    ((Instr.mapUpdate 55 (.map (some w.heap.size)) (.string ⟨#[97, 114, 101, 97]⟩) (.func (.func 22) #[.pointer (some ⟨db, 0, none⟩)] #[])).run Tryz.prog w2 = .ok () w3) ∧
    ((Instr.mapUpdate 55 (.map (some w.heap.size)) (.string ⟨#[115, 97, 118, 101]⟩) (.func (.func 23) #[.pointer (some ⟨db, 0, none⟩)] #[])).run Tryz.prog w3 = .ok () w4) ∧
    w4.heap[w.heap.size]? = some (.map (aloneM db).toArray 4) ∧ Below w.heap.size w w4 := by
  refine ⟨w.alloc (.map #[⟨.string ⟨#[100, 114, 111, 112]⟩, (.func (.func 20) #[.pointer (some ⟨db, 0, none⟩)] #[]), 0⟩] 1), w.alloc (.map #[⟨.string ⟨#[100, 114, 111, 112]⟩, (.func (.func 20) #[.pointer (some ⟨db, 0, none⟩)] #[]), 0⟩, ⟨.string ⟨#[115, 107, 121]⟩, (.func (.func 21) #[.pointer (some ⟨db, 0, none⟩)] #[]), 1⟩] 2), w.alloc (.map #[⟨.string ⟨#[100, 114, 111, 112]⟩, (.func (.func 20) #[.pointer (some ⟨db, 0, none⟩)] #[]), 0⟩, ⟨.string ⟨#[115, 107, 121]⟩, (.func (.func 21) #[.pointer (some ⟨db, 0, none⟩)] #[]), 1⟩, ⟨.string ⟨#[97, 114, 101, 97]⟩, (.func (.func 22) #[.pointer (some ⟨db, 0, none⟩)] #[]), 2⟩] 3), w.alloc (.map #[⟨.string ⟨#[100, 114, 111, 112]⟩, (.func (.func 20) #[.pointer (some ⟨db, 0, none⟩)] #[]), 0⟩, ⟨.string ⟨#[115, 107, 121]⟩, (.func (.func 21) #[.pointer (some ⟨db, 0, none⟩)] #[]), 1⟩, ⟨.string ⟨#[97, 114, 101, 97]⟩, (.func (.func 22) #[.pointer (some ⟨db, 0, none⟩)] #[]), 2⟩, ⟨.string ⟨#[115, 97, 118, 101]⟩, (.func (.func 23) #[.pointer (some ⟨db, 0, none⟩)] #[]), 3⟩] 4), ?_, ?_, ?_, ?_, heap_alloc_new w _, below_alloc (Nat.le_refl _) _⟩
  · exact put_alloc 55 _ hTA w #[] 0 ⟨#[100, 114, 111, 112]⟩ (.func (.func 20) #[.pointer (some ⟨db, 0, none⟩)] #[]) (fun W => by kernel_rfl)
  · exact put_alloc 55 _ hTA w #[⟨.string ⟨#[100, 114, 111, 112]⟩, (.func (.func 20) #[.pointer (some ⟨db, 0, none⟩)] #[]), 0⟩] 1 ⟨#[115, 107, 121]⟩ (.func (.func 21) #[.pointer (some ⟨db, 0, none⟩)] #[]) (fun W => by kernel_rfl)
  · exact put_alloc 55 _ hTA w #[⟨.string ⟨#[100, 114, 111, 112]⟩, (.func (.func 20) #[.pointer (some ⟨db, 0, none⟩)] #[]), 0⟩, ⟨.string ⟨#[115, 107, 121]⟩, (.func (.func 21) #[.pointer (some ⟨db, 0, none⟩)] #[]), 1⟩] 2 ⟨#[97, 114, 101, 97]⟩ (.func (.func 22) #[.pointer (some ⟨db, 0, none⟩)] #[]) (fun W => by kernel_rfl)
  · exact put_alloc 55 _ hTA w #[⟨.string ⟨#[100, 114, 111, 112]⟩, (.func (.func 20) #[.pointer (some ⟨db, 0, none⟩)] #[]), 0⟩, ⟨.string ⟨#[115, 107, 121]⟩, (.func (.func 21) #[.pointer (some ⟨db, 0, none⟩)] #[]), 1⟩, ⟨.string ⟨#[97, 114, 101, 97]⟩, (.func (.func 22) #[.pointer (some ⟨db, 0, none⟩)] #[]), 2⟩] 3 ⟨#[115, 97, 118, 101]⟩ (.func (.func 23) #[.pointer (some ⟨db, 0, none⟩)] #[]) (fun W => by kernel_rfl)
theorem tab_with (db : Nat) (w : World) : ∃ w1 w2 w3 w4 : World,
    ((Instr.mapUpdate 59 (.map (some w.heap.size)) (.string ⟨#[112, 117, 116]⟩) (.func (.func 25) #[.pointer (some ⟨db, 0, none⟩)] #[])).run Tryz.prog (w.alloc (.map #[] 0)) = .ok () w1) ∧
    ((Instr.mapUpdate 59 (.map (some w.heap.size)) (.string ⟨#[97, 115, 107]⟩) (.func (.func 26) #[.pointer (some ⟨db, 0, none⟩)] #[])).run Tryz.prog w1 = .ok () w2) ∧
    ((Instr.mapUpdate 59 (.map (some w.heap.size)) (.string ⟨#[99, 111, 117, 110, 116]⟩) (.func (.func 27) #[.pointer (some ⟨db, 0, none⟩)] #[])).run Tryz.prog w2 = .ok () w3) ∧
    ((Instr.mapUpdate 59 (.map (some w.heap.size)) (.string ⟨#[108, 111, 97, 100]⟩) (.func (.func 28) #[.pointer (some ⟨db, 0, none⟩)] #[])).run Tryz.prog w3 = .ok () w4) ∧
    w4.heap[w.heap.size]? = some (.map (withM db).toArray 4) ∧ Below w.heap.size w w4 := by
  refine ⟨w.alloc (.map #[⟨.string ⟨#[112, 117, 116]⟩, (.func (.func 25) #[.pointer (some ⟨db, 0, none⟩)] #[]), 0⟩] 1), w.alloc (.map #[⟨.string ⟨#[112, 117, 116]⟩, (.func (.func 25) #[.pointer (some ⟨db, 0, none⟩)] #[]), 0⟩, ⟨.string ⟨#[97, 115, 107]⟩, (.func (.func 26) #[.pointer (some ⟨db, 0, none⟩)] #[]), 1⟩] 2), w.alloc (.map #[⟨.string ⟨#[112, 117, 116]⟩, (.func (.func 25) #[.pointer (some ⟨db, 0, none⟩)] #[]), 0⟩, ⟨.string ⟨#[97, 115, 107]⟩, (.func (.func 26) #[.pointer (some ⟨db, 0, none⟩)] #[]), 1⟩, ⟨.string ⟨#[99, 111, 117, 110, 116]⟩, (.func (.func 27) #[.pointer (some ⟨db, 0, none⟩)] #[]), 2⟩] 3), w.alloc (.map #[⟨.string ⟨#[112, 117, 116]⟩, (.func (.func 25) #[.pointer (some ⟨db, 0, none⟩)] #[]), 0⟩, ⟨.string ⟨#[97, 115, 107]⟩, (.func (.func 26) #[.pointer (some ⟨db, 0, none⟩)] #[]), 1⟩, ⟨.string ⟨#[99, 111, 117, 110, 116]⟩, (.func (.func 27) #[.pointer (some ⟨db, 0, none⟩)] #[]), 2⟩, ⟨.string ⟨#[108, 111, 97, 100]⟩, (.func (.func 28) #[.pointer (some ⟨db, 0, none⟩)] #[]), 3⟩] 4), ?_, ?_, ?_, ?_, heap_alloc_new w _, below_alloc (Nat.le_refl _) _⟩
  · exact put_alloc 59 _ hTW w #[] 0 ⟨#[112, 117, 116]⟩ (.func (.func 25) #[.pointer (some ⟨db, 0, none⟩)] #[]) (fun W => by kernel_rfl)
  · exact put_alloc 59 _ hTW w #[⟨.string ⟨#[112, 117, 116]⟩, (.func (.func 25) #[.pointer (some ⟨db, 0, none⟩)] #[]), 0⟩] 1 ⟨#[97, 115, 107]⟩ (.func (.func 26) #[.pointer (some ⟨db, 0, none⟩)] #[]) (fun W => by kernel_rfl)
  · exact put_alloc 59 _ hTW w #[⟨.string ⟨#[112, 117, 116]⟩, (.func (.func 25) #[.pointer (some ⟨db, 0, none⟩)] #[]), 0⟩, ⟨.string ⟨#[97, 115, 107]⟩, (.func (.func 26) #[.pointer (some ⟨db, 0, none⟩)] #[]), 1⟩] 2 ⟨#[99, 111, 117, 110, 116]⟩ (.func (.func 27) #[.pointer (some ⟨db, 0, none⟩)] #[]) (fun W => by kernel_rfl)
  · exact put_alloc 59 _ hTW w #[⟨.string ⟨#[112, 117, 116]⟩, (.func (.func 25) #[.pointer (some ⟨db, 0, none⟩)] #[]), 0⟩, ⟨.string ⟨#[97, 115, 107]⟩, (.func (.func 26) #[.pointer (some ⟨db, 0, none⟩)] #[]), 1⟩, ⟨.string ⟨#[99, 111, 117, 110, 116]⟩, (.func (.func 27) #[.pointer (some ⟨db, 0, none⟩)] #[]), 2⟩] 3 ⟨#[108, 111, 97, 100]⟩ (.func (.func 28) #[.pointer (some ⟨db, 0, none⟩)] #[]) (fun W => by kernel_rfl)

set_option maxRecDepth 100000 in
set_option maxHeartbeats 4000000 in
/-- A line that is one word. -/
theorem line_alone (db : Nat) (t : Wd) (f : FuncId) (j : Nat) (hf : ∀ W, (Instr.findKey 9 (str t) (aloneM db)).run Tryz.prog W = .ok (some (j, fnV f db)) W) (eg : ∀ args w, (callFunc f args).run Tryz.prog w = .ok (.enter f args) w) (s : Wd) (P : World → World → Prop) (w : World) (C : ∀ W, Below w.heap.size w W → Calls Tryz.prog f #[.pointer (some ⟨db, 0, none⟩)] W fun e w' => e = .returned (str s) ∧ P W w') :
    Calls Tryz.prog 15 #[.pointer (some ⟨db, 0, none⟩), str t] w fun e w' => e = .returned (str s) ∧ ∃ W, Below w.heap.size w W ∧ P W w' := by
  have hmm := @run_makeMap Tryz.prog
  obtain ⟨w1, w2, w3, w4, p1, p2, p3, p4, hb, hB⟩ := tab_alone db w
  have lk : (Instr.lookup 55 (.map (some w.heap.size)) (str t) true).run Tryz.prog w4 = .ok (.tuple #[.func (.func f) #[.pointer (some ⟨db, 0, none⟩)] #[], .bool true]) w4 := look_hit _ _ hTA hb ⟨t.toArray⟩ j _ hf
  have CC := Kp.mk (C w4 hB)
  have HB := Kp.mk hB
  clear C hf hb hB
  go_enter Tryz.func15, Tryz.ntmps15
  go_wp2_with (first
    | (with_reducible refine CC.out.mono ?_; rintro e w5 ⟨rfl, hP⟩)
    | fail)
  go_ret
  exact ⟨rfl, w4, HB.out, hP⟩

set_option maxRecDepth 100000 in
set_option maxHeartbeats 4000000 in
/-- A line of a word and what is behind it. -/
theorem line_with (db : Nat) (word args : Wd) (h32 : (32 : UInt8) ∉ word) (hlen : word.length + args.length ≤ 1000) (f : FuncId) (j : Nat) (hf : ∀ W, (Instr.findKey 9 (str word) (withM db)).run Tryz.prog W = .ok (some (j, fnV f db)) W) (eg : ∀ args w, (callFunc f args).run Tryz.prog w = .ok (.enter f args) w) (s : Wd) (P : World → World → Prop) (w : World) (hBig : Big w) (C : ∀ W, Below w.heap.size w W → Calls Tryz.prog f #[.pointer (some ⟨db, 0, none⟩), str args] W fun e w' => e = .returned (str s) ∧ P W w') :
    Calls Tryz.prog 15 #[.pointer (some ⟨db, 0, none⟩), str (word ++ 32 :: args)] w fun e w' => e = .returned (str s) ∧ ∃ W, Below w.heap.size w W ∧ P W w' := by
  have hmm := @run_makeMap Tryz.prog
  obtain ⟨w1, w2, w3, w4, p1, p2, p3, p4, hb, hB⟩ := tab_alone db w
  have hin : (32 : UInt8) ∈ word ++ 32 :: args := by simp
  have hne : ∀ u : Wd, (32 : UInt8) ∉ u → word ++ 32 :: args ≠ u := fun u hu e => hu (e ▸ hin)
  have lk : (Instr.lookup 55 (.map (some w.heap.size)) (str (word ++ 32 :: args)) true).run Tryz.prog w4 = .ok (.tuple #[.nilFunc, .bool false]) w4 := look_miss _ _ hTA zA hb _ (fun W => alone_miss db _ ⟨hne _ (by decide), hne _ (by decide), hne _ (by decide), hne _ (by decide)⟩ W)
  obtain ⟨m, hm⟩ := hBig.below hB
  have CUT := Kp.mk (fun W (hW : Below w4.heap.size w4 W) => Tryz.strings_Cut ⟨(word ++ 32 :: args).toArray⟩ ⟨#[32]⟩ m W (by have := str_size (t := word ++ 32 :: args) (n := 1001) (by simp; omega); omega) ((hW.cell (World.block_lt_of_cell? w4 _ hm)).trans hm))
  have CON := Kp.mk (fun W (hW : Below w4.heap.size w4 W) => Tryz.strings_Contains ⟨(word ++ 32 :: args).toArray⟩ ⟨#[32]⟩ m W (by have := str_size (t := word ++ 32 :: args) (n := 1001) (by simp; omega); omega) ((hW.cell (World.block_lt_of_cell? w4 _ hm)).trans hm))
  rw [show Lib.cut (⟨(word ++ 32 :: args).toArray⟩ : ByteArray).data.toList (⟨#[32]⟩ : ByteArray).data.toList = (word, args, true) from cut_hit word args h32] at CUT
  rw [show Lib.contains (⟨(word ++ 32 :: args).toArray⟩ : ByteArray).data.toList (⟨#[32]⟩ : ByteArray).data.toList = true from by
    show decide (0 ≤ Lib.index (word ++ 32 :: args) [32]) = true
    rw [index_hit 32 args word h32]; exact decide_eq_true (by omega)] at CON
  dsimp only at CUT
  have HB := Kp.mk hB
  have HF := Kp.mk hf
  have CC := Kp.mk C
  generalize word ++ 32 :: args = t at *
  clear C hf hb hB hm hBig hin hne h32 hlen
  go_enter Tryz.func15, Tryz.ntmps15
  go_wp2_with fail
  refine (CUT.out _ (Below.refl _ _)).mono ?_
  rintro e w5 ⟨rfl, hw5⟩
  have h45 : Below w4.heap.size w4 w5 := below_drawn hw5
  have HB5 := Kp.mk (below_step HB.out h45)
  obtain ⟨v1, v2, v3, v4, q1, q2, q3, q4, hb, hv⟩ := tab_with db w5
  have lk2 : (Instr.lookup 59 (.map (some w5.heap.size)) (str word) true).run Tryz.prog v4 = .ok (.tuple #[.func (.func f) #[.pointer (some ⟨db, 0, none⟩)] #[], .bool true]) v4 := look_hit _ _ hTW hb ⟨word.toArray⟩ j _ HF.out
  have HB6 := Kp.mk (below_step HB5.out hv)
  have CON2 := Kp.mk (CON.out v4 (below_step h45 hv))
  have CC2 := Kp.mk (CC.out v4 HB6.out)
  clear hb hv hw5 CUT CON CC h45 lk p1 p2 p3 p4
  go_wp2_with (first
    | (go_at_call 29; refine CON2.out.mono ?_; rintro e w7 ⟨rfl, rfl⟩)
    | (with_reducible refine CC2.out.mono ?_; rintro e w8 ⟨rfl, hP⟩)
    | fail)
  go_ret
  exact ⟨rfl, _, HB6.out, hP⟩

set_option maxRecDepth 100000 in
set_option maxHeartbeats 4000000 in
/-- A line of no known word. -/
theorem line_bad (db : Nat) (t word args : Wd) (b : Bool) (hcut : Lib.cut t [32] = (word, args, b)) (hlen : t.length ≤ 1000) (h1 : t ≠ dropK ∧ t ≠ skyK ∧ t ≠ areaK ∧ t ≠ saveK) (h2 : word ≠ putK ∧ word ≠ askK ∧ word ≠ countK ∧ word ≠ loadK) (w : World) (hBig : Big w) :
    Calls Tryz.prog 15 #[.pointer (some ⟨db, 0, none⟩), str t] w fun e w' => e = .returned (str bad) ∧ Below w.heap.size w w' := by
  have hmm := @run_makeMap Tryz.prog
  obtain ⟨w1, w2, w3, w4, p1, p2, p3, p4, hb, hB⟩ := tab_alone db w
  have lk : (Instr.lookup 55 (.map (some w.heap.size)) (str t) true).run Tryz.prog w4 = .ok (.tuple #[.nilFunc, .bool false]) w4 := look_miss _ _ hTA zA hb _ (fun W => alone_miss db _ h1 W)
  obtain ⟨m, hm⟩ := hBig.below hB
  have CUT := Kp.mk (fun W (hW : Below w4.heap.size w4 W) => Tryz.strings_Cut ⟨t.toArray⟩ ⟨#[32]⟩ m W (by have := str_size (t := t) (n := 1000) hlen; omega) ((hW.cell (World.block_lt_of_cell? w4 _ hm)).trans hm))
  rw [show Lib.cut (⟨t.toArray⟩ : ByteArray).data.toList (⟨#[32]⟩ : ByteArray).data.toList = (word, args, b) from hcut] at CUT
  dsimp only at CUT
  have HB := Kp.mk hB
  have HF := Kp.mk h2
  clear hb hB hm hBig hcut hlen h1 h2
  go_enter Tryz.func15, Tryz.ntmps15
  go_wp2_with fail
  refine (CUT.out _ (Below.refl _ _)).mono ?_
  rintro e w5 ⟨rfl, hw5⟩
  have h45 : Below w4.heap.size w4 w5 := below_drawn hw5
  have HB5 := Kp.mk (below_step HB.out h45)
  obtain ⟨v1, v2, v3, v4, q1, q2, q3, q4, hb, hv⟩ := tab_with db w5
  have lk2 : (Instr.lookup 59 (.map (some w5.heap.size)) (str word) true).run Tryz.prog v4 = .ok (.tuple #[.nilFunc, .bool false]) v4 := look_miss _ _ hTW zW hb _ (fun W => with_miss db _ HF.out W)
  have HB6 := Kp.mk (below_step HB5.out hv)
  clear hb hv hw5 CUT h45 lk p1 p2 p3 p4
  go_wp2_with fail
  go_ret
  exact ⟨rfl, HB6.out⟩

end Go.Proofs.YtedchegejalolaaGreatDoor.Dk

/- Plain facts on the checksum: it is affine. -/
namespace Go.Proofs.YtedchegejalolaaGreatDoor
set_option linter.unusedVariables false

/-- One bit of the sum. -/
def crc1 (n : Nat) : Nat := (n / 2) ^^^ (if n % 2 = 1 then 3988292384 else 0)
def crcN : Nat → Nat → Nat
  | 0, n => n
  | k + 1, n => crc1 (crcN k n)
/-- One byte of the sum. -/
def crcB (n x : Nat) : Nat := crcN 8 (n ^^^ x)
def crcL (l : List Nat) : Nat := l.foldl crcB 4294967295
def crc (l : List Nat) : Nat := 4294967295 - crcL l

theorem ones_sub (x : Nat) (h : x < 4294967296) : 4294967295 - x = 4294967295 ^^^ x := by
  have h1 := congrArg BitVec.toNat (BitVec.xor_allOnes (x := BitVec.ofNat 32 x))
  rw [BitVec.toNat_xor, BitVec.toNat_not, BitVec.toNat_allOnes, BitVec.toNat_ofNat, Nat.mod_eq_of_lt (by omega)] at h1
  rw [Nat.xor_comm]
  exact h1.symm
theorem crc_lt (l : List Nat) : crc l < 4294967296 := by unfold crc; omega
theorem crcB_eq (n x : Nat) : crcB n x = crcN 8 (n ^^^ x) := rfl
theorem crcN_zero (n : Nat) : crcN 0 n = n := rfl
theorem crcN_odd (k n v : Nat) (h : v = crcN k n) (hv : v % 2 = 1) : (v / 2) ^^^ 3988292384 = crcN (k + 1) n := by simp only [crcN, ← h, crc1, hv, if_true]
theorem crcN_even (k n v : Nat) (h : v = crcN k n) (hv : v % 2 = 0) : v / 2 = crcN (k + 1) n := by simp [crcN, ← h, crc1, hv]
theorem crc_eq (l : List Nat) (n : Nat) (h : n = l.foldl crcB 4294967295) : crc l = 4294967295 - n := by rw [h]; rfl
attribute [irreducible] crc crcL crcB crcN crc1

end Go.Proofs.YtedchegejalolaaGreatDoor

/- Package image: the plain facts. A byte that is changed changes the sum; what is read is what was written. -/
namespace Go.Proofs.YtedchegejalolaaGreatDoor
set_option linter.unusedVariables false

/-- A number in as few bytes as can be. -/
def putL (n : Nat) : List Nat := if n < 128 then [n] else (n % 128 + 128) :: putL (n / 128)
termination_by n
theorem putL_small {n : Nat} (h : n < 128) : putL n = [n] := by rw [putL, if_pos h]
theorem putL_big {n : Nat} (h : ¬ n < 128) : putL n = (n % 128 + 128) :: putL (n / 128) := by rw [putL, if_neg h]
theorem putL_lt (n : Nat) : ∀ x ∈ putL n, x < 256 := by
  induction n using putL.induct with
  | case1 n h => intro x hx; rw [putL_small h] at hx; simp at hx; omega
  | case2 n h ih =>
    intro x hx
    rw [putL_big h] at hx
    rcases List.mem_cons.1 hx with rfl | hx
    · omega
    · exact ih x hx
def encN (l : List Nat) : List Nat := l.flatMap putL
/-- The head of an image. -/
def headL : List Nat := [68, 65, 77, 49]
def encI (l : List Nat) : List Nat := headL ++ (putL (l.length / 3) ++ encN l)
/-- Numbers of either sign as numbers, and back. -/
def foldN (x : Int) : Nat := if x < 0 then (-2 * x - 1).toNat else (2 * x).toNat
end Go.Proofs.YtedchegejalolaaGreatDoor

/- image.Sum: what it computes. -/
namespace Go.Proofs.YtedchegejalolaaGreatDoor
set_option linter.unusedVariables false
open Go.RowKit

/-- A list of bytes as cells. -/
def byts (l : List Nat) : List Value := l.map fun (n : Nat) => .int .u8 (n : Int)
def SlB (w : World) (a : Option Addr) (len cap : Nat) (l : List Nat) : Prop := SlC w a len cap 1 (byts l)
theorem byts_length (l : List Nat) : (byts l).length = l.length := by simp [byts]
theorem SlB.at {w : World} {a : Option Addr} {len cap : Nat} {l : List Nat} (h : SlB w a len cap l) (i : Nat) (hi : i < l.length) : ∃ b off, a = some ⟨b, off, none⟩ ∧ w.cell? ⟨b, off + i, none⟩ = some (.int .u8 (l[i] : Nat)) := by
  obtain ⟨b, off, ha, hc⟩ := SlC.cell h i (by rw [byts_length]; exact hi)
  exact ⟨b, off, ha, by rw [hc]; simp [byts]⟩

set_option maxHeartbeats 1000000 in
theorem sum_any (a : Option Addr) (len cap : Nat) (l : List Nat) (w : World) (h : SlB w a len cap l) (hn : l.length = len) (hl : len ≤ 9223372036854775806) (hb : ∀ x ∈ l, x < 256) :
    Calls Tryz.prog 61 #[.slice a len cap] w fun e w' => e = .returned (.int .i64 (crc l)) ∧ w = w' := by
  have H := Kp.mk h
  have HB := Kp.mk hb
  have HN := Kp.mk hn
  clear h hb hn
  go_enter Tryz.func61, Tryz.ntmps61
  go_wp2
  go_loop [3, 9] (fun nv i => ∃ k : Nat, ∃ n : Nat, k ≤ len ∧ i = .int .i64 k ∧ nv = .int .u32 n ∧ Kp (n = (l.take k).foldl crcB 4294967295) ∧ n < 4294967296) (fun _ i => len - (intOf i).toNat)
  case atStart => exact ⟨0, 4294967295, Nat.zero_le _, rfl, rfl, ⟨rfl⟩, by omega⟩
  case round =>
    obtain ⟨k, n, hk, rfl, rfl, hN, hn⟩ := hrel
    by_cases hlt : k < len
    · have hkl : k < l.length := by rw [HN.out]; exact hlt
      obtain ⟨b, off, rfl, c1⟩ := H.out.at k hkl
      have hx := HB.out l[k] (List.getElem_mem hkl)
      obtain ⟨x, hxe⟩ : ∃ x, x = l[k] := ⟨_, rfl⟩
      rw [← hxe] at c1 hx
      have HX := Kp.mk hxe
      clear hxe
      have e1 : bits BinOp.xor IntKind.u32 (n : Int) (x : Int) = ((n ^^^ x : Nat) : Int) := u32_xor_nat n x hn (by omega)
      have hnx : n ^^^ x < 4294967296 := Nat.xor_lt_two_pow (n := 32) hn (by omega)
      have hstep : Kp ((l.take (k + 1)).foldl crcB 4294967295 = crcN 8 (n ^^^ x)) := by
        refine ⟨?_⟩
        rw [List.take_succ_eq_append_getElem hkl, List.foldl_append, ← hN.out, ← HX.out]
        exact crcB_eq n x
      generalize n ^^^ x = m at *
      go_wp2
      go_loop [3, 17] (fun nv i => ∃ j : Nat, ∃ v : Nat, j ≤ 8 ∧ i = .int .i64 j ∧ nv = .int .u32 v ∧ Kp (v = crcN j m) ∧ v < 4294967296) (fun _ i => 8 - (intOf i).toNat)
      case atStart => exact ⟨0, m, by omega, rfl, rfl, ⟨(crcN_zero m).symm⟩, hnx⟩
      case round =>
        obtain ⟨j, v, hj, rfl, rfl, hV, hv⟩ := hrel
        by_cases hj8 : j < 8
        · have e1 : bits BinOp.and IntKind.u32 (v : Int) 1 = ((v % 2 : Nat) : Int) := by
            rw [show (1 : Int) = ((1 : Nat) : Int) from rfl, u32_and_nat v 1 hv (by omega), Nat.and_one_is_mod]
          rcases Nat.mod_two_eq_zero_or_one v with ho | ho
          · rw [ho] at e1
            have hn2 := Kp.mk (crcN_even j m v hV.out ho)
            clear ho
            go_wp2
            go_round
            case rel => exact ⟨j + 1, v / 2, by omega, by go_num, by go_num, hn2, by omega⟩
            case measure => simp [intOf]; omega
          · rw [ho] at e1
            have hn2 := Kp.mk (crcN_odd j m v hV.out ho)
            have e2 : bits BinOp.xor IntKind.u32 ((v : Int) / 2) 3988292384 = (((v / 2) ^^^ 3988292384 : Nat) : Int) := by
              rw [show (v : Int) / 2 = ((v / 2 : Nat) : Int) by omega]
              exact u32_xor_nat (v / 2) 3988292384 (by omega) (by omega)
            have hlt3 : (v / 2) ^^^ 3988292384 < 4294967296 := Nat.xor_lt_two_pow (n := 32) (by omega) (by omega)
            generalize (v / 2) ^^^ 3988292384 = u at *
            clear ho
            go_wp2
            go_round
            case rel => exact ⟨j + 1, u, by omega, by go_num, rfl, hn2, hlt3⟩
            case measure => simp [intOf]; omega
        · obtain rfl : j = 8 := by omega
          go_wp2
          go_round
          case rel => exact ⟨k + 1, v, by omega, by go_num, rfl, ⟨by rw [hV.out, hstep.out]⟩, hv⟩
          case measure => simp [intOf]; omega
    · obtain rfl : k = len := by omega
      have hfin : Kp (crc l = 4294967295 - n) := ⟨crc_eq l n (by rw [hN.out, List.take_of_length_le (by rw [HN.out]; exact Nat.le_refl _)])⟩
      have e1 : bits BinOp.xor IntKind.u32 IntKind.u32.max (n : Int) = ((4294967295 - n : Nat) : Int) := by
        rw [ones_sub n hn]
        exact u32_xor_nat 4294967295 n (by omega) hn
      obtain ⟨m, hM⟩ : ∃ m, m = 4294967295 - n := ⟨_, rfl⟩
      rw [← hM] at e1
      have hml : m < 4294967296 := by omega
      have HM := Kp.mk hM
      clear hM
      go_wp2
      go_ret
      exact ⟨ret_int (by rw [hfin.out, ← HM.out]; exact IntWalk.wrap64_in _ ⟨by omega, by omega⟩), rfl⟩

end Go.Proofs.YtedchegejalolaaGreatDoor

