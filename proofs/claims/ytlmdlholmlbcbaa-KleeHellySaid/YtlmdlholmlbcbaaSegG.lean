/- Package seg: the walk of grow. -/
import Derived.Test.YtlmdlholmlbcbaaSegB
namespace Go.Proofs.Ytlmdlholmlbcbaa
set_option linter.unusedVariables false
open Go.RowKit

theorem Turned.of_below {S : List Nat} {w w' : World} (h : Below w.heap.size w w') : Turned S w w' := ⟨h.os, h.tape, h.output, h.size, fun i hi _ => h.block i hi⟩
def segL (l : List Int) (lo hi : Nat) : List Int := (l.drop lo).take (hi + 1 - lo)
theorem segL_length (l : List Int) (lo hi : Nat) (h : hi < l.length) : (segL l lo hi).length = hi + 1 - lo := by simp [segL]; omega
theorem segL_one (l : List Int) (lo : Nat) (h : lo < l.length) : segL l lo lo = [l[lo]] := by
  unfold segL
  rw [show lo + 1 - lo = 1 by omega, List.drop_eq_getElem_cons h]; rfl
theorem segL_two (l : List Int) (lo mid hi : Nat) (h1 : lo ≤ mid) (h2 : mid < hi) : segL l lo hi = segL l lo mid ++ segL l (mid + 1) hi := by
  unfold segL
  rw [show hi + 1 - lo = (mid + 1 - lo) + (hi + 1 - (mid + 1)) by omega, List.take_add, List.drop_drop, show lo + (mid + 1 - lo) = mid + 1 by omega]
theorem segL_all (l : List Int) (hi : Nat) (h : hi + 1 = l.length) : segL l 0 hi = l := by
  unfold segL
  rw [List.drop_zero, List.take_of_length_le (by omega)]

/-- What grow hands back. -/
def Grown (M : Nat) (D : List Int) (w : World) (e : Ending) (w' : World) : Prop :=
  ∃ T, e = .returned (.pointer T.ptr) ∧ InMem w' T ∧ T.blocks.Nodup ∧ (∀ k ∈ T.blocks, w.heap.size ≤ k) ∧ Rep 0 M T D ∧ Below w.heap.size w w'

abbrev nd0 : Nd := ⟨0, 0, false, 0, 0⟩
set_option maxRecDepth 100000 in
set_option maxHeartbeats 2000000 in
theorem grow_leaf (a : Option Addr) (cap n lo M : Nat) (l : List Int) (w : World) (h : SlI w a cap l) (hl : l.length = n) (hlo : lo < n) (hn : n ≤ 800) (hb : ∀ x ∈ l, x.natAbs ≤ M) :
    Calls Try.prog 158 #[.slice a n cap, .int .i64 lo, .int .i64 lo] w (Grown M (segL l lo lo) w) := by
  obtain ⟨b, off, rfl, ci⟩ := h.at lo (by omega)
  have hx := hb _ (List.getElem_mem (show lo < l.length by omega))
  have HSG := Kp.mk (segL_one l lo (by omega))
  obtain ⟨x, hxe⟩ : ∃ x, l[lo] = x := ⟨_, rfl⟩
  rw [hxe] at ci hx HSG
  have hblt := World.block_lt_of_cell? w _ ci
  have c1 : (w.alloc (.cells #[.int .i64 0, .int .i64 0, .bool false, .int .i64 0, .int .i64 0, .pointer none, .pointer none] 241)).cell? ⟨b, off + lo, none⟩ = some (.int .i64 x) := ((below_alloc (Nat.le_refl _) _).cell (p := ⟨b, off + lo, none⟩) hblt).trans ci
  have hbx := Box.new w #[.int .i64 0, .int .i64 0, .bool false, .int .i64 0, .int .i64 0, .pointer none, .pointer none] 241
  have hbel := below_alloc (Nat.le_refl w.heap.size) (.cells #[.int .i64 0, .int .i64 0, .bool false, .int .i64 0, .int .i64 0, .pointer none, .pointer none] 241)
  have hlt : (lo : Int) < n := by omega
  have hne : b ≠ w.heap.size := by simp only at hblt; omega
  have hne' : w.heap.size ≠ b := by omega
  clear h hb hxe ci
  go_enter Try.func158, Try.ntmps158
  go_wp2
  have hsz : (w.alloc (.cells #[.int .i64 0, .int .i64 0, .bool false, .int .i64 0, .int .i64 0, .pointer none, .pointer none] 241)).heap.size = w.heap.size + 1 := alloc_size _ _
  obtain ⟨o, ho⟩ : ∃ o, o = w.heap.size := ⟨_, rfl⟩
  have HOE := Kp.mk ho
  have HBE := Kp.mk hbel
  rw [← ho] at hbx hne hne' hsz ⊢
  generalize hw1 : w.alloc (.cells #[.int .i64 0, .int .i64 0, .bool false, .int .i64 0, .int .i64 0, .pointer none, .pointer none] 241) = w1 at *
  have HW1 := Kp.mk hw1
  clear ho hw1 hsz hbel
  have k0 : w1.cell? ⟨o, 0, none⟩ = some (.int .i64 0) := hbx.cell 0 rfl
  have k1 : w1.cell? ⟨o, 1, none⟩ = some (.int .i64 0) := hbx.cell 1 rfl
  have f0 := hbx.free 0
  have f1 := hbx.free 1
  go_region
  go_wp2
  go_ret
  refine ⟨.leaf o ⟨x, x, false, 0, 0⟩, rfl, box_set (box_set hbx _) _, by simp [SgT.blocks], fun k hk => ?_, ?_, ?_⟩
  · rw [List.mem_singleton.1 hk, HOE.out]; exact Nat.le_refl _
  · exact ⟨x, HSG.out, rfl, rfl, by omega, by simp⟩
  · have := HOE.out
    rw [this]
    exact ((HBE.out.setCell (p := ⟨w.heap.size, 0, none⟩) (Nat.le_refl _) _).setCell (p := ⟨w.heap.size, 1, none⟩) (Nat.le_refl _) _).drew

set_option maxRecDepth 100000 in
set_option maxHeartbeats 2000000 in
theorem grow_node (a : Option Addr) (cap n lo mid hi M : Nat) (l A B : List Int) (w : World) (h : SlI w a cap l) (hl : l.length = n) (hlo : lo < hi) (hm : mid = (lo + hi) / 2) (hn : hi ≤ 800) (hM : M ≤ 1000000000)
    (cl : ∀ w1, SlI w1 a cap l → Calls Try.prog 158 #[.slice a n cap, .int .i64 lo, .int .i64 mid] w1 (Grown M A w1))
    (cr : ∀ w1, SlI w1 a cap l → Calls Try.prog 158 #[.slice a n cap, .int .i64 ((mid : Int) + 1), .int .i64 hi] w1 (Grown M B w1))
    (hA : A.length = mid + 1 - lo) (hB : B.length = hi - mid) :
    Calls Try.prog 158 #[.slice a n cap, .int .i64 lo, .int .i64 hi] w (Grown M (A ++ B) w) := by
  have e6 : ((lo : Int) + hi) / 2 = mid := by omega
  have eq : ((lo : Int) == hi) = false := by simp only [beq_eq_false_iff_ne]; omega
  have hbx := Box.new w #[.int .i64 0, .int .i64 0, .bool false, .int .i64 0, .int .i64 0, .pointer none, .pointer none] 241
  have hbel := below_alloc (Nat.le_refl w.heap.size) (.cells #[.int .i64 0, .int .i64 0, .bool false, .int .i64 0, .int .i64 0, .pointer none, .pointer none] 241)
  have hs1 := h.below hbel
  have CL := Kp.mk (cl _ hs1)
  have HSL := Kp.mk hs1
  have CR := Kp.mk cr
  have HA := Kp.mk hA
  have HBB := Kp.mk hB
  have HMD := Kp.mk hm
  have hmid : mid < hi := by omega
  clear h hl cl cr hA hB hm hs1
  go_enter Try.func158, Try.ntmps158
  go_wp2_with fail
  have hsz : (w.alloc (.cells #[.int .i64 0, .int .i64 0, .bool false, .int .i64 0, .int .i64 0, .pointer none, .pointer none] 241)).heap.size = w.heap.size + 1 := alloc_size _ _
  obtain ⟨o, ho⟩ : ∃ o, o = w.heap.size := ⟨_, rfl⟩
  have HOE := Kp.mk ho
  rw [← ho] at hbx ⊢
  generalize w.alloc (.cells #[.int .i64 0, .int .i64 0, .bool false, .int .i64 0, .int .i64 0, .pointer none, .pointer none] 241) = w1 at *
  have HBE := Kp.mk hbel
  have hso : o < w1.heap.size := by omega
  have HSZ := Kp.mk (show w.heap.size ≤ w1.heap.size from by omega)
  clear ho hsz hbel
  refine CL.out.mono ?_
  rintro e w2 ⟨Tl, rfl, lm, ln, lk, lp, lb⟩
  have HL2 := Kp.mk (show InMem w2 Tl ∧ Tl.blocks.Nodup ∧ (∀ k ∈ Tl.blocks, w1.heap.size ≤ k) ∧ Rep 0 M Tl A ∧ Below w1.heap.size w1 w2 from ⟨lm, ln, lk, lp, lb⟩)
  have HSL2 := Kp.mk (HSL.out.below lb)
  clear lm ln lk lp lb
  go_wp2_with fail
  refine (CR.out w2 HSL2.out).mono ?_
  rintro e w3 ⟨Tr, rfl, rm, rn, rk, rp, rb⟩
  have HR3 := Kp.mk (show InMem w3 Tr ∧ Tr.blocks.Nodup ∧ (∀ k ∈ Tr.blocks, w2.heap.size ≤ k) ∧ Rep 0 M Tr B ∧ Below w2.heap.size w2 w3 from ⟨rm, rn, rk, rp, rb⟩)
  have hb3 : Box w3 o #[.int .i64 0, .int .i64 0, .bool false, .int .i64 0, .int .i64 0, .pointer none, .pointer none] 241 := (hbx.below HL2.out.2.2.2.2).below rb
  have k5 : w3.cell? ⟨o, 5, none⟩ = some (.pointer none) := hb3.cell 5 rfl
  have k6 : w3.cell? ⟨o, 6, none⟩ = some (.pointer none) := hb3.cell 6 rfl
  have f5 := hb3.free 5
  have f6 := hb3.free 6
  clear rm rn rk rp rb
  go_wp2_with fail
  have hb4 : Box ((w3.setCell ⟨o, 5, none⟩ (.pointer Tl.ptr)).setCell ⟨o, 6, none⟩ (.pointer Tr.ptr)) o (nd0.cells Tl.ptr Tr.ptr) 241 := box_set (box_set hb3 _) _
  have HT4 := Kp.mk (show Turned [o] w3 ((w3.setCell ⟨o, 5, none⟩ (.pointer Tl.ptr)).setCell ⟨o, 6, none⟩ (.pointer Tr.ptr)) from ((Turned.refl _ _).set o 5 _ (by simp)).set o 6 _ (by simp))
  clear k5 k6 f5 f6 hb3
  generalize (w3.setCell ⟨o, 5, none⟩ (.pointer Tl.ptr)).setCell ⟨o, 6, none⟩ (.pointer Tr.ptr) = w4 at *
  obtain ⟨lm, ln, lk, lp, lb⟩ := HL2.out
  obtain ⟨rm, rn, rk, rp, rb⟩ := HR3.out
  have s12 := lb.size
  have s23 := rb.size
  have hol : ∀ k ∈ Tl.blocks, k ∉ [o] := fun k hk e => by have := lk k hk; rw [List.mem_singleton.1 e] at this; omega
  have hor : ∀ k ∈ Tr.blocks, k ∉ [o] := fun k hk e => by have := rk k hk; rw [List.mem_singleton.1 e] at this; omega
  have lm4 := (lm.keep (Turned.of_below (S := []) rb) (by simp)).keep HT4.out hol
  have rm4 := rm.keep HT4.out hor
  obtain ⟨x1, y1, hx1⟩ := lm4.root
  obtain ⟨x2, y2, hx2⟩ := rm4.root
  have hs1 := sum_bd (fun x hx => show x.natAbs ≤ M from by have := lp.bd x hx; omega)
  have hs2 := sum_bd (fun x hx => show x.natAbs ≤ M from by have := rp.bd x hx; omega)
  rw [HA.out] at hs1
  rw [HBB.out] at hs2
  have hs3 := Nat.mul_le_mul hM (show (mid + 1 - lo) + (hi - mid) ≤ 900 by omega)
  rw [Nat.mul_add] at hs3
  have ho1 := lp.own
  have ho2 := rp.own
  refine (gather_any o Tl.root Tr.root x1 y1 x2 y2 _ Tl.nd Tr.nd w4 hb4 hx1 hx2 (fun e => hol _ Tl.root_mem (by rw [e]; simp)) (fun e => hor _ Tr.root_mem (by rw [e]; simp)) (by rw [ho1.2.1, ho2.2.1]; omega)).mono ?_
  rintro e w5 ⟨rfl, hb5, ht5⟩
  have HFIN := Kp.mk (show ∃ T, some (⟨o, 0, none⟩ : Addr) = T.ptr ∧ InMem w5 T ∧ T.blocks.Nodup ∧ (∀ k ∈ T.blocks, w.heap.size ≤ k) ∧ Rep 0 M T (A ++ B) ∧ Below w.heap.size w w5 from by
    have hlt : ∀ k ∈ Tl.blocks, k < w2.heap.size := lm.lt
    refine ⟨.node o (gath Tl.nd Tr.nd) Tl Tr, rfl, ⟨hb5, lm4.keep ht5 hol, rm4.keep ht5 hor⟩, ?_, ?_, lp.gath rp (by rw [HA.out, HBB.out]; have := HMD.out; omega), ?_⟩
    · refine List.nodup_cons.2 ⟨fun hm => ?_, List.nodup_append.2 ⟨ln, rn, fun x hx y hy e => ?_⟩⟩
      · rcases List.mem_append.1 hm with hm | hm
        · exact hol o hm (by simp)
        · exact hor o hm (by simp)
      · have := hlt x hx; have := rk y hy; omega
    · intro k hk
      have h0 := HOE.out
      have h1 := HSZ.out
      rcases List.mem_cons.1 hk with rfl | hk
      · omega
      · rcases List.mem_append.1 hk with hk | hk
        · have := lk k hk; omega
        · have := rk k hk; omega
    · have hW3 : Below w.heap.size w w3 := HBE.out.trans ((below_step lb rb).mono HSZ.out)
      exact hW3.trans ((HT4.out.trans ht5).below (by have := hW3.size; omega) (fun k hk => by rw [List.mem_singleton.1 hk, HOE.out]; exact Nat.le_refl _)))
  clear lm ln lk lp lb rm rn rk rp rb s12 s23 hol hor lm4 rm4 hx1 hx2 hs1 hs2 hs3 ho1 ho2 hb4 hb5 ht5
  go_wp2
  go_ret
  obtain ⟨T, g1, g2, g3, g4, g5, g6⟩ := HFIN.out
  exact ⟨T, by rw [← g1]; rfl, g2, g3, g4, g5, g6⟩

theorem grow_any (a : Option Addr) (cap n M : Nat) (l : List Int) (hl : l.length = n) (hM : M ≤ 1000000000) (hn : n ≤ 800) (hb : ∀ x ∈ l, x.natAbs ≤ M) : ∀ (k lo hi : Nat) (w : World), hi - lo = k → lo ≤ hi → hi < n → SlI w a cap l →
    Calls Try.prog 158 #[.slice a n cap, .int .i64 lo, .int .i64 hi] w (Grown M (segL l lo hi) w) := by
  intro k
  induction k using Nat.strongRecOn with
  | ind k ih =>
    intro lo hi w hk hlo hhi hw
    by_cases e : lo = hi
    · subst e; exact grow_leaf a cap n lo M l w hw hl hhi hn hb
    · have hm1 : lo ≤ (lo + hi) / 2 := by omega
      have hm2 : (lo + hi) / 2 < hi := by omega
      rw [segL_two l lo ((lo + hi) / 2) hi hm1 hm2]
      refine grow_node a cap n lo ((lo + hi) / 2) hi M l _ _ w hw hl (by omega) rfl (by omega) hM (fun w1 hw1 => ih ((lo + hi) / 2 - lo) (by omega) lo _ w1 rfl hm1 (by omega) hw1) (fun w1 hw1 => ?_) (by rw [segL_length _ _ _ (by omega)]) (by rw [segL_length _ _ _ (by omega)]; omega)
      have := ih (hi - ((lo + hi) / 2 + 1)) (by omega) ((lo + hi) / 2 + 1) hi w1 rfl (by omega) hhi hw1
      rwa [show (((lo + hi) / 2 + 1 : Nat) : Int) = (((lo + hi) / 2 : Nat) : Int) + 1 by omega] at this

end Go.Proofs.Ytlmdlholmlbcbaa
