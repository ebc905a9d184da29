/- The walk of SumXor. -/
import Derived.Test.YtmoicghgdcbflaaSum
import Derived.Lib.SlBytesConst
namespace Go.Proofs.Ytmoicghgdcbflaa
set_option linter.unusedVariables false
open Go.RowKit

theorem info_byte : (Try.prog.info? 5).map (fun i => (i.zero, i.size, i.bytes)) = some (some (.int .u8 0), 1, 1) := by kernel_rfl
theorem tBytes : ElemTy Try.prog 22 5 1 1 (.int .u8 0) :=
  ⟨Try.underlying22, by obtain ⟨i0, hi, h0, h1, h2⟩ := info_parts info_byte; exact ⟨i0, hi, h0, h1, h2⟩, rfl, by decide⟩

theorem row_slb {w : World} {a : Option Addr} {len cap : Nat} {zs : List Int} (h : IsRow .u8 w a len cap zs) :
    ∃ l : List Nat, len = l.length ∧ SlB w a l.length cap l ∧ (∀ x ∈ l, x < 256) ∧ l.length ≤ maxLen := by
  obtain ⟨l, rfl, hs, hw, hl⟩ := row_slc h
  have hb : ∀ x ∈ l, 0 ≤ x ∧ x < 256 := fun x hx => by
    have := hw x hx
    have : 0 ≤ x ∧ x ≤ 255 := by simpa [Lit.wf, IntKind.min, IntKind.max, IntKind.signed, IntKind.bits] using this
    omega
  have he : byts (l.map Int.toNat) = l.map (.int .u8) := by
    rw [byts, List.map_map]
    refine List.map_congr_left fun x hx => ?_
    have := hb x hx
    simp only [Function.comp]
    rw [Int.toNat_of_nonneg this.1]
  refine ⟨l.map Int.toNat, by simp, ?_, fun x hx => ?_, by simpa using hl⟩
  · rw [List.length_map]; unfold SlB; rw [he]; exact hs
  · obtain ⟨y, hy, rfl⟩ := List.mem_map.1 hx
    have := hb y hy
    omega

theorem xor3_snoc (a b c : List Nat) (k : Nat) (ha : k < a.length) (hb : k < b.length) (hc : k < c.length) :
    xor3 (a.take (k + 1)) (b.take (k + 1)) (c.take (k + 1)) = xor3 (a.take k) (b.take k) (c.take k) ++ [a[k] ^^^ b[k] ^^^ c[k]] := by
  unfold xor3
  rw [List.take_succ_eq_append_getElem ha, List.take_succ_eq_append_getElem hb, List.take_succ_eq_append_getElem hc]
  rw [List.zipWith_append (by simp; omega), List.zipWith_append (by simp; omega)]
  rfl

theorem run_min4 (P : Program) (ts : Array TypeId) (t : TypeId) (a b c d n : Nat) (D : Int) (w : World) (hD : D = d) (h : n = min (min (min a b) c) d) :
    (Builtin.min_ ts t #[.int .i64 a, .int .i64 b, .int .i64 c, .int .i64 D]).run P w = .ok (.int .i64 n) w := by
  have e : ∀ x y : Nat, (if (y : Int) < x then (y : Int) else x) = ((min x y : Nat) : Int) := fun x y => by
    by_cases h : y < x
    · rw [if_pos (by omega), Nat.min_eq_right (by omega)]
    · rw [if_neg (by omega), Nat.min_eq_left (by omega)]
  have h2 : ∀ x y : Nat, Builtin.min2 (.int .i64 x) (.int .i64 y) = pure (.int .i64 ((min x y : Nat) : Int)) := fun x y => by
    simp only [Builtin.min2, e]
  simp only [Builtin.min_]
  rw [h, hD]
  simp [List.foldlM, h2]

theorem xor3_lt (a b c : List Nat) (ha : ∀ x ∈ a, x < 256) (hb : ∀ x ∈ b, x < 256) (hc : ∀ x ∈ c, x < 256) : ∀ x ∈ xor3 a b c, x < 256 := by
  have h2 : ∀ (a b : List Nat), (∀ x ∈ a, x < 256) → (∀ x ∈ b, x < 256) → ∀ x ∈ List.zipWith (fun x y => x ^^^ y) a b, x < 256 := by
    intro a
    induction a with
    | nil => intro b _ _ x hx; simp at hx
    | cons p a ih =>
      intro b ha hb x hx
      cases b with
      | nil => simp at hx
      | cons q b =>
        simp only [List.zipWith_cons_cons, List.mem_cons] at hx
        rcases hx with rfl | hx
        · exact Nat.xor_lt_two_pow (n := 8) (ha p (by simp)) (hb q (by simp))
        · exact ih b (fun y hy => ha y (by simp [hy])) (fun y hy => hb y (by simp [hy])) x hx
  exact h2 _ c (h2 a b ha hb) hc
theorem i64_xor_nat (a b : Nat) (ha : a < 9223372036854775808) (hb : b < 9223372036854775808) : bits BinOp.xor IntKind.i64 (a : Int) (b : Int) = ((a ^^^ b : Nat) : Int) := by
  have hx : a ^^^ b < 2 ^ 63 := Nat.xor_lt_two_pow (by omega) (by omega)
  have h1 : (BitVec.ofInt 64 (a : Int)).toNat = a := by
    rw [BitVec.ofInt_natCast, BitVec.toNat_ofNat]; exact Nat.mod_eq_of_lt (by omega)
  have h2 : (BitVec.ofInt 64 (b : Int)).toNat = b := by
    rw [BitVec.ofInt_natCast, BitVec.toNat_ofNat]; exact Nat.mod_eq_of_lt (by omega)
  show IntKind.i64.wrap ((BitVec.ofInt 64 (a : Int) ^^^ BitVec.ofInt 64 (b : Int)).toNat : Int) = _
  rw [BitVec.toNat_xor, h1, h2, IntKind.wrap_i64]
  omega

set_option maxHeartbeats 1000000 in
theorem walk_SumXor (a0 : Option Addr) (len0 cap0 : Nat) (z0 : List Int) (a1 : Option Addr) (len1 cap1 : Nat) (z1 : List Int) (a2 : Option Addr) (len2 cap2 : Nat) (z2 : List Int) (w : World) (w0 : IsRow .u8 w a0 len0 cap0 z0) (w1 : IsRow .u8 w a1 len1 cap1 z1) (w2 : IsRow .u8 w a2 len2 cap2 z2) :
    Calls Try.prog 3 #[.slice a0 len0 cap0, .slice a1 len1 cap1, .slice a2 len2 cap2] w fun e w' => e = .returned (.bool true) ∧ Below w.heap.size w w' := by
  obtain ⟨la, rfl, ha, ba, na⟩ := row_slb w0
  obtain ⟨lb, rfl, hb, bb, nb⟩ := row_slb w1
  obtain ⟨lc, rfl, hc, bc, nc⟩ := row_slb w2
  obtain ⟨n, hn⟩ : ∃ n, n = min (min (min la.length lb.length) lc.length) 60 := ⟨_, rfl⟩
  have n1 : n ≤ la.length := by omega
  have n2 : n ≤ lb.length := by omega
  have n3 : n ≤ lc.length := by omega
  have n4 : n ≤ 60 := by omega
  have HA := Kp.mk ha
  have HB := Kp.mk hb
  have HC := Kp.mk hc
  have BA := Kp.mk ba
  have BB := Kp.mk bb
  have BC := Kp.mk bc
  have HN := Kp.mk hn
  unfold maxLen at na nb nc
  have hmin := fun w => run_min4 Try.prog #[3, 3, 3, 3] 3 la.length lb.length lc.length 60 n 60 w rfl hn
  clear ha hb hc ba bb bc w0 w1 w2 hn
  go_enter Try.func3, Try.ntmps3
  go_wp2
  clear hmin
  obtain ⟨B, hB⟩ : ∃ B, B = w.heap.size := ⟨_, rfl⟩
  have HBB := Kp.mk hB
  clear hB
  go_loopw [8, 9] (fun v i wr => ∃ (k : Nat) (sa : Option Addr) (cap : Nat), k ≤ n ∧ i = .int .i64 k ∧ v = .slice sa k cap ∧ wr.ownsRow B 5 1 (.slice sa k cap) k (byts (xor3 (la.take k) (lb.take k) (lc.take k))) ∧ Below B w wr) (fun _ i _ => n - (intOf i).toNat)
  case atStart => exact ⟨0, none, 0, Nat.zero_le _, rfl, rfl, World.ownsRow_nil _ _ _ _, Below.refl _ _⟩
  case round =>
    obtain ⟨k, sa, dc, hk, rfl, rfl, hown, hbel⟩ := hrel
    have hsz : Kp (w.heap.size ≤ wr.heap.size) := ⟨hbel.size⟩
    by_cases hlt : k < n
    · have ka : k < la.length := by omega
      have kb : k < lb.length := by omega
      have kc : k < lc.length := by omega
      obtain ⟨b1, o1, rfl, c1⟩ := SlB.at (SlC.below HA.out (HBB.out ▸ hbel)) k ka
      obtain ⟨b2, o2, rfl, c2⟩ := SlB.at (SlC.below HB.out (HBB.out ▸ hbel)) k kb
      obtain ⟨b3, o3, rfl, c3⟩ := SlB.at (SlC.below HC.out (HBB.out ▸ hbel)) k kc
      have t1 : b1 < B := by have := SlC.blt HA.out (by rw [byts_length]; omega); rw [HBB.out]; exact this
      have t2 : b2 < B := by have := SlC.blt HB.out (by rw [byts_length]; omega); rw [HBB.out]; exact this
      have t3 : b3 < B := by have := SlC.blt HC.out (by rw [byts_length]; omega); rw [HBB.out]; exact this
      have hx := BA.out _ (List.getElem_mem ka)
      have hy := BB.out _ (List.getElem_mem kb)
      have hz := BC.out _ (List.getElem_mem kc)
      have hsn := Kp.mk (xor3_snoc la lb lc k ka kb kc)
      generalize la[k] = x at *
      generalize lb[k] = y at *
      generalize lc[k] = z at *
      have e1 : bits BinOp.xor IntKind.u8 (x : Int) (y : Int) = ((x ^^^ y : Nat) : Int) := u8_xor_nat x y hx hy
      have hxy : x ^^^ y < 256 := Nat.xor_lt_two_pow (n := 8) hx hy
      generalize x ^^^ y = u at *
      have e2 : bits BinOp.xor IntKind.u8 (u : Int) (z : Int) = ((u ^^^ z : Nat) : Int) := u8_xor_nat u z hxy hz
      generalize u ^^^ z = t at *
      have hi1 : (k : Int) < la.length := by omega
      have hi2 : (k : Int) < lb.length := by omega
      have hi3 : (k : Int) < lc.length := by omega
      go_wp2
      go_region_held3 (fun w' => w'.cell? ⟨b1, o1 + k, none⟩ = some (.int .u8 x) ∧ w'.cell? ⟨b2, o2 + k, none⟩ = some (.int .u8 y) ∧ w'.cell? ⟨b3, o3 + k, none⟩ = some (.int .u8 z))
        (first
          | go_keep
          | (have hb' := pushed_below hown (by rw [HBB.out]; exact hsz.out) hgr
             exact ⟨(hb'.cell (p := ⟨b1, o1 + k, none⟩) t1).trans c1, (hb'.cell (p := ⟨b2, o2 + k, none⟩) t2).trans c2, (hb'.cell (p := ⟨b3, o3 + k, none⟩) t3).trans c3⟩))
        ((refine step_push tBytes (by rfl) _ _ (by rfl) B sa k dc _ (by rfl) ((hown.alloc _).drew) 1 wr.heap.size _ (heap_alloc_new wr _) (by rfl) (by rfl) (by simp [Value.oneCell']) (by omega) (by omega) (by omega) (by rw [HBB.out]; simp; have := hsz.out; omega) ?_; intro sa' cap' w' hown' hgr hno))
      have hb' := Kp.mk (pushed_below hown (by rw [HBB.out]; exact hsz.out) hgr)
      have hown2 := Kp.mk hown'
      clear hown' hgr hno hown
      go_wp2
      go_roundw
      case rel =>
        refine ⟨k + 1, sa', cap', by omega, by go_num, rfl, ?_, hbel.trans hb'.out⟩
        rw [hsn.out]
        simpa [byts] using hown2.out
      case measure => simp [intOf]; omega
    · obtain rfl : k = n := by omega
      have pa : SlB wr a0 k cap0 (la.take k) := by
        have := (SlC.below HA.out (HBB.out ▸ hbel)).front n1
        simpa [SlB, byts, List.map_take] using this
      have pb : SlB wr a1 k cap1 (lb.take k) := by
        have := (SlC.below HB.out (HBB.out ▸ hbel)).front n2
        simpa [SlB, byts, List.map_take] using this
      have pc : SlB wr a2 k cap2 (lc.take k) := by
        have := (SlC.below HC.out (HBB.out ▸ hbel)).front n3
        simpa [SlB, byts, List.map_take] using this
      obtain ⟨C, hC⟩ : ∃ C : Array Value, C = #[.int .u8 49, .int .u8 50, .int .u8 51, .int .u8 52, .int .u8 53, .int .u8 54, .int .u8 55, .int .u8 56, .int .u8 57] := ⟨_, rfl⟩
      have kc : (convert 22 22 (.slice (some ⟨wr.heap.size, 0, none⟩) 9 9)).run Try.prog ((wr.alloc (.cells C 5)).drew) = .ok (.slice (some ⟨wr.heap.size, 0, none⟩) 9 9) ((wr.alloc (.cells C 5 (9, 10))).drew) := by
        have := Lib.run_convert_bytes_const (P := Try.prog) wr.drew 22 5 C 9 9 Try.underlying22 Try.underlying5
        rw [hC] at this ⊢
        exact this
      have hbC : Below wr.heap.size wr ((wr.alloc (.cells C 5 (9, 10))).drew) := ((Below.refl _ _).alloc (Nat.le_refl _) _).drew
      have s0 : SlB ((wr.alloc (.cells C 5 (9, 10))).drew) (some ⟨wr.heap.size, 0, none⟩) 9 9 [49, 50, 51, 52, 53, 54, 55, 56, 57] := by
        refine ⟨rfl, Nat.le_refl _, by decide, (fun h => by cases h), fun i hi => ⟨wr.heap.size, 0, rfl, ?_⟩⟩
        rw [Nat.zero_add]
        show (wr.alloc (.cells C 5 (9, 10))).cell? ⟨wr.heap.size, i, none⟩ = _
        rw [World.cell?_alloc_mark, hC]
        have hi9 : i < 9 := hi
        match i, hi9 with
        | 0, _ => rfl | 1, _ => rfl | 2, _ => rfl | 3, _ => rfl | 4, _ => rfl | 5, _ => rfl | 6, _ => rfl | 7, _ => rfl | 8, _ => rfl
      have pd : SlB wr sa k dc (xor3 (la.take k) (lb.take k) (lc.take k)) := own_slc hown
      have ta : ∀ x ∈ la.take k, x < 256 := fun x hx => BA.out x (List.mem_of_mem_take hx)
      have tb : ∀ x ∈ lb.take k, x < 256 := fun x hx => BB.out x (List.mem_of_mem_take hx)
      have tc : ∀ x ∈ lc.take k, x < 256 := fun x hx => BC.out x (List.mem_of_mem_take hx)
      have td : ∀ x ∈ xor3 (la.take k) (lb.take k) (lc.take k), x < 256 := xor3_lt _ _ _ ta tb tc
      have hl : (xor3 (la.take k) (lb.take k) (lc.take k)).length = k := by simp [xor3]; omega
      have q0 := Kp.mk (sum_any _ 9 9 _ _ s0 rfl (by omega) (by decide))
      rw [crc_check] at q0
      have qa := Kp.mk (sum_any _ k cap0 _ _ (SlC.below pa hbC) (by simp; omega) (by omega) ta)
      have qb := Kp.mk (sum_any _ k cap1 _ _ (SlC.below pb hbC) (by simp; omega) (by omega) tb)
      have qc := Kp.mk (sum_any _ k cap2 _ _ (SlC.below pc hbC) (by simp; omega) (by omega) tc)
      have qd := Kp.mk (sum_any _ k dc _ _ (SlC.below pd hbC) hl (by omega) td)
      have hx3 := crc_xor3 (la.take k) (lb.take k) (lc.take k) (by simp; omega) (by simp; omega) ta tb tc td
      have ba := crc_lt (la.take k)
      have bb := crc_lt (lb.take k)
      have bc := crc_lt (lc.take k)
      clear pa pb pc pd hown s0 ta tb tc td hl
      generalize crc (xor3 (la.take k) (lb.take k) (lc.take k)) = rd at *
      generalize crc (la.take k) = ra at *
      generalize crc (lb.take k) = rb at *
      generalize crc (lc.take k) = rc at *
      subst hx3
      have HBC := Kp.mk hbC
      clear hbC
      subst hC
      have e1 : bits BinOp.xor IntKind.i64 (ra : Int) (rb : Int) = ((ra ^^^ rb : Nat) : Int) := i64_xor_nat ra rb (by omega) (by omega)
      have l1 : ra ^^^ rb < 4294967296 := Nat.xor_lt_two_pow (n := 32) ba bb
      have e2 : bits BinOp.xor IntKind.i64 ((ra ^^^ rb : Nat) : Int) (rc : Int) = ((ra ^^^ rb ^^^ rc : Nat) : Int) := i64_xor_nat _ rc (by omega) (by omega)
      generalize ra ^^^ rb ^^^ rc = rd at *
      generalize ra ^^^ rb = rab at *
      have e3 : ((rd : Int) == rd) = true := by simp
      have hk0 : k ≤ cap0 := Nat.le_trans n1 (SlC.le HA.out)
      have hk1 : k ≤ cap1 := Nat.le_trans n2 (SlC.le HB.out)
      have hk2 : k ≤ cap2 := Nat.le_trans n3 (SlC.le HC.out)
      go_wp2
      refine wp_region_any (by kernel_rfl) ?_
      refine wpAny_head 0 _ (by decide +kernel) rfl rfl ?_
      intro K hK
      go_simp
      refine hK _ _ ?_
      clear hK K
      refine wpAny_head 1 _ (by decide +kernel) rfl rfl ?_
      intro K hK
      go_simp
      refine hK _ _ ?_
      clear hK K kc
      generalize (wr.alloc _).drew = wc at *
      refine wpAny_tail (fun w' => w' = wc) 2 rfl (by kernel_rfl) (by kernel_rfl) rfl ?_
      simp only [List.drop_succ_cons, List.drop_zero]
      repeat (refine wpQuiet_step (fun K hK => ?_); go_simp; first | (refine hK _ ?_; clear hK K) | (apply Exists.intro; refine ⟨?_, hK _ ?_⟩; ((go_at_call 15; first | with_reducible exact q_eq (q0.out)  | with_reducible exact q_eq (qa.out) | with_reducible exact q_eq (qb.out) | with_reducible exact q_eq (qc.out) | with_reducible exact q_eq (qd.out))); clear hK K))
      refine wpQuiet_nil ?_
      rintro w' rfl
      go_wp2
      go_ret
      refine ⟨rfl, ?_⟩
      rw [← HBB.out]
      exact hbel.trans (HBC.out.mono (by rw [HBB.out]; exact hsz.out))

end Go.Proofs.Ytmoicghgdcbflaa
