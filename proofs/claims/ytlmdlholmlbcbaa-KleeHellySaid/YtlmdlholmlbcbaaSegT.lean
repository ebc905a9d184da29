/- Package seg: the walk of tell. -/
import Derived.Test.YtlmdlholmlbcbaaSegM
import Derived.StillTailTactics
namespace Go.Proofs.Ytlmdlholmlbcbaa
set_option linter.unusedVariables false
open Go.RowKit

/-- No number of a node is great. -/
structure Nd.Mid (v : Nd) : Prop where
  a : -1000000000000 ≤ v.least
  b : v.least ≤ 1000000000000
  c : -1000000000000 ≤ v.sum
  d : v.sum ≤ 1000000000000
  e : -1000000000000 ≤ v.add
  f : v.add ≤ 1000000000000
theorem Nd.Mid.all {v : Nd} (h : v.Mid) : -1000000000000 ≤ v.least ∧ v.least ≤ 1000000000000 ∧ -1000000000000 ≤ v.sum ∧ v.sum ≤ 1000000000000 ∧ -1000000000000 ≤ v.add ∧ v.add ≤ 1000000000000 := ⟨h.a, h.b, h.c, h.d, h.e, h.f⟩
theorem Nd.Mid.set {y : Int} {n : Nat} (h : -1000000000 ≤ y ∧ y ≤ 1000000000) (hn : n ≤ 1000) : (Nd.setTo y n).Mid := by
  have h1 := Int.mul_le_mul_of_nonneg_right (show -1000000000 ≤ y from h.1) (show (0 : Int) ≤ n by omega)
  have h2 := Int.mul_le_mul_of_nonneg_right (show y ≤ 1000000000 from h.2) (show (0 : Int) ≤ n by omega)
  refine ⟨?_, ?_, ?_, ?_, ?_, ?_⟩ <;> simp only [Nd.setTo] <;> omega

/-- The memory of tell within its loop. -/
structure TellMem (b bl br ba n1 n2 : Nat) (p1 q1 p2 q2 : Option Addr) (v ul ur : Nd) (w wr : World) : Prop where
  bx : Box wr b (v.cells (some ⟨bl, 0, none⟩) (some ⟨br, 0, none⟩)) 241
  bxl : Box wr bl (ul.cells p1 q1) 241
  bxr : Box wr br (ur.cells p2 q2) 241
  arr : Box wr ba #[.int .i64 n1, .int .i64 n2] 62
  turned : Turned [b, bl, br] w wr
variable {b bl br ba n1 n2 : Nat} {p1 q1 p2 q2 : Option Addr} {v ul ur : Nd} {w wr : World}
theorem TellMem.left {u : Nd} {w' : World} (h : TellMem b bl br ba n1 n2 p1 q1 p2 q2 v ul ur w wr) (n : b ≠ bl) (n' : bl ≠ br) (n'' : ba ≠ bl) (hb : Box w' bl (u.cells p1 q1) 241) (ht : Turned [bl] wr w') : TellMem b bl br ba n1 n2 p1 q1 p2 q2 v u ur w w' :=
  ⟨ht.box h.bx (by simpa using n), hb, ht.box h.bxr (by simpa using n'.symm), ht.box h.arr (by simpa using n''), h.turned.trans (ht.weak (by simp))⟩
theorem TellMem.right {u : Nd} {w' : World} (h : TellMem b bl br ba n1 n2 p1 q1 p2 q2 v ul ur w wr) (n : b ≠ br) (n' : bl ≠ br) (n'' : ba ≠ br) (hb : Box w' br (u.cells p2 q2) 241) (ht : Turned [br] wr w') : TellMem b bl br ba n1 n2 p1 q1 p2 q2 v ul u w w' :=
  ⟨ht.box h.bx (by simpa using n), ht.box h.bxl (by simpa using n'), hb, ht.box h.arr (by simpa using n''), h.turned.trans (ht.weak (by simp))⟩

set_option maxRecDepth 100000 in
set_option maxHeartbeats 4000000 in
theorem tell_any (b bl br n1 n2 : Nat) (lo mid hi : Nat) (p1 q1 p2 q2 : Option Addr) (v vl vr : Nd) (w : World) (h : Box w b (v.cells (some ⟨bl, 0, none⟩) (some ⟨br, 0, none⟩)) 241) (hl : Box w bl (vl.cells p1 q1) 241) (hr : Box w br (vr.cells p2 q2) 241) (d1 : b ≠ bl) (d2 : b ≠ br) (d3 : bl ≠ br)
    (hm : lo ≤ mid ∧ mid ≤ hi ∧ hi ≤ 900 ∧ mid - lo + 1 = n1 ∧ hi - mid = n2) (ht : -1000000000 ≤ v.tgt ∧ v.tgt ≤ 1000000000) (ha : -1000000000 ≤ v.add ∧ v.add ≤ 1000000000) (ml : vl.Mid) (mr : vr.Mid) :
    Calls Try.prog 197 #[.pointer (some ⟨b, 0, none⟩), .int .i64 lo, .int .i64 mid, .int .i64 hi] w fun e w' => e = .returned (.tuple #[]) ∧ Box w' b ((⟨v.least, v.sum, false, 0, 0⟩ : Nd).cells (some ⟨bl, 0, none⟩) (some ⟨br, 0, none⟩)) 241 ∧
      Box w' bl ((told v vl n1).cells p1 q1) 241 ∧ Box w' br ((told v vr n2).cells p2 q2) 241 ∧ Turned [b, bl, br] w w' := by
  obtain ⟨m1, m2, m3, m4, m5⟩ := hm
  have z1 : (mid : Int) - lo + 1 = n1 := by omega
  have z2 : (hi : Int) - mid = n2 := by omega
  have hn1 : n1 ≤ 1000 := by omega
  have hn2 : n2 ≤ 1000 := by omega
  have Z1 := Kp.mk z1
  have Z2 := Kp.mk z2
  have HB := Kp.mk h
  have HL := Kp.mk hl
  have HR := Kp.mk hr
  have x0 : ∀ w : World, (Instr.index 239 (.agg #[.pointer (some ⟨bl, 0, none⟩), .pointer (some ⟨br, 0, none⟩)]) (.int .i64 0)).run Try.prog w = .ok (.pointer (some ⟨bl, 0, none⟩)) w := fun _ => by kernel_rfl
  have x1 : ∀ w : World, (Instr.index 239 (.agg #[.pointer (some ⟨bl, 0, none⟩), .pointer (some ⟨br, 0, none⟩)]) (.int .i64 1)).run Try.prog w = .ok (.pointer (some ⟨br, 0, none⟩)) w := fun _ => by kernel_rfl
  have hbl := h.lt
  have hbl1 := hl.lt
  have hbr1 := hr.lt
  clear m4 m5 h hl hr
  have hM := Kp.mk (show TellMem b bl br w.heap.size n1 n2 p1 q1 p2 q2 v vl vr w (w.alloc (.cells #[.int .i64 n1, .int .i64 n2] 62)) from
    ⟨HB.out.alloc _, HL.out.alloc _, HR.out.alloc _, Box.new _ _ _, (Turned.refl _ _).alloc _⟩)
  have i5 : (w.alloc (.cells #[.int .i64 n1, .int .i64 n2] 62)).cell? ⟨b, 5, none⟩ = some (.pointer (some ⟨bl, 0, none⟩)) := hM.out.bx.cell 5 rfl
  have i6 : (w.alloc (.cells #[.int .i64 n1, .int .i64 n2] 62)).cell? ⟨b, 6, none⟩ = some (.pointer (some ⟨br, 0, none⟩)) := hM.out.bx.cell 6 rfl
  go_enter Try.func197, Try.ntmps197
  go_wp2
  clear i5 i6
  obtain ⟨ba, hba⟩ : ∃ ba, ba = w.heap.size := ⟨_, rfl⟩
  rw [← hba] at hM ⊢
  generalize w.alloc (.cells #[.int .i64 n1, .int .i64 n2] 62) = w1 at *
  have e1 : ba ≠ b := by omega
  have e2 : ba ≠ bl := by omega
  have e3 : ba ≠ br := by omega
  clear hba z1 z2 hbl hbl1 hbr1
  go_loopw [23] (fun i wr => ∃ ul ur, Kp (TellMem b bl br ba n1 n2 p1 q1 p2 q2 v ul ur w wr) ∧ ((i = .int .i64 0 ∧ vl = ul ∧ vr = ur) ∨ (i = .int .i64 1 ∧ told v vl n1 = ul ∧ vr = ur) ∨ (i = .int .i64 2 ∧ told v vl n1 = ul ∧ told v vr n2 = ur))) (fun i _ => 2 - (intOf i).toNat)
  case atStart => exact ⟨vl, vr, hM, .inl ⟨rfl, rfl, rfl⟩⟩
  case round =>
    clear hM
    obtain ⟨ul, ur, HM, hcase⟩ := hrel
    rcases hcase with ⟨rfl, rfl, rfl⟩ | ⟨rfl, rfl, rfl⟩ | ⟨rfl, rfl, rfl⟩
    · obtain ⟨s, hs⟩ : ∃ s, v.set = s := ⟨_, rfl⟩
      have HS := Kp.mk hs
      obtain ⟨y, hy⟩ : ∃ y, v.add = y := ⟨_, rfl⟩
      have HY := Kp.mk hy
      obtain ⟨tg, htg⟩ : ∃ tg, v.tgt = tg := ⟨_, rfl⟩
      have HT := Kp.mk htg
      have ht' := ht
      have ha' := ha
      rw [htg] at ht'
      rw [hy] at ha'
      have c2 : wr.cell? ⟨b, 2, none⟩ = some (.bool s) := by rw [← hs]; exact HM.out.bx.cell 2 rfl
      have c3 : wr.cell? ⟨b, 3, none⟩ = some (.int .i64 tg) := by rw [← htg]; exact HM.out.bx.cell 3 rfl
      have c4 : wr.cell? ⟨b, 4, none⟩ = some (.int .i64 y) := by rw [← hy]; exact HM.out.bx.cell 4 rfl
      have ca : wr.cell? ⟨ba, 0, none⟩ = some (.int .i64 n1) := HM.out.arr.cell 0 rfl
      clear hs hy htg
      cases s with
      | true =>
        go_wp2
        go_still_tail 9, (by kernel_rfl)
        go_wp2_with fail
        refine (do_set bl p1 q1 vl 0 0 tg n1 wr.drew HM.out.bxl ht' hn1).mono ?_
        rintro e w2 ⟨rfl, hb2, ht2⟩
        have HM2 := Kp.mk (HM.out.left d1 d3 e2 hb2 (Turned.trans ((Turned.refl _ wr).drew) ht2))
        have c4 : w2.cell? ⟨b, 4, none⟩ = some (.int .i64 y) := by rw [← HY.out]; exact HM2.out.bx.cell 4 rfl
        have ca : w2.cell? ⟨ba, 0, none⟩ = some (.int .i64 n1) := HM2.out.arr.cell 0 rfl
        have MM := Kp.mk (Nd.Mid.set (n := n1) ht' hn1)
        clear hb2 ht2
        by_cases hz : y = 0
        · subst hz
          have HTO := Kp.mk (show told v vl n1 = Nd.setTo tg n1 from by unfold told; rw [HS.out, HY.out]; simp [HT.out])
          go_wp2
          go_roundw
          case rel => exact ⟨_, _, HM2, .inr (.inl ⟨rfl, HTO.out, rfl⟩)⟩
          case measure => simp [intOf]
        · have hzb : (y != 0) = true := by simpa using hz
          have HTO := Kp.mk (show told v vl n1 = (Nd.setTo tg n1).addTo y n1 from by unfold told; rw [HS.out, HY.out, if_neg hz]; simp [HT.out])
          clear hz
          go_wp2
          go_still_tail 9, (by kernel_rfl)
          go_wp2_with fail
          refine (do_add bl p1 q1 (Nd.setTo tg n1) 0 0 y n1 w2.drew HM2.out.bxl ha' hn1 MM.out.all).mono ?_
          rintro e w3 ⟨rfl, hb3, ht3⟩
          have HM3 := Kp.mk (HM2.out.left d1 d3 e2 hb3 (Turned.trans ((Turned.refl _ w2).drew) ht3))
          clear hb3 ht3
          go_wp2
          go_roundw
          case rel => exact ⟨_, _, HM3, .inr (.inl ⟨rfl, HTO.out, rfl⟩)⟩
          case measure => simp [intOf]
      | false =>
        by_cases hz : y = 0
        · subst hz
          have HTO := Kp.mk (show told v vl n1 = vl from by unfold told; rw [HS.out, HY.out]; simp)
          go_wp2
          go_roundw
          case rel => exact ⟨_, _, HM, .inr (.inl ⟨rfl, HTO.out, rfl⟩)⟩
          case measure => simp [intOf]
        · have hzb : (y != 0) = true := by simpa using hz
          have HTO := Kp.mk (show told v vl n1 = vl.addTo y n1 from by unfold told; rw [HS.out, HY.out, if_neg hz]; simp)
          clear hz
          go_wp2
          go_still_tail 9, (by kernel_rfl)
          go_wp2_with fail
          refine (do_add bl p1 q1 vl 0 0 y n1 wr.drew HM.out.bxl ha' hn1 ml.all).mono ?_
          rintro e w3 ⟨rfl, hb3, ht3⟩
          have HM3 := Kp.mk (HM.out.left d1 d3 e2 hb3 (Turned.trans ((Turned.refl _ wr).drew) ht3))
          clear hb3 ht3
          go_wp2
          go_roundw
          case rel => exact ⟨_, _, HM3, .inr (.inl ⟨rfl, HTO.out, rfl⟩)⟩
          case measure => simp [intOf]
    · obtain ⟨s, hs⟩ : ∃ s, v.set = s := ⟨_, rfl⟩
      have HS := Kp.mk hs
      obtain ⟨y, hy⟩ : ∃ y, v.add = y := ⟨_, rfl⟩
      have HY := Kp.mk hy
      obtain ⟨tg, htg⟩ : ∃ tg, v.tgt = tg := ⟨_, rfl⟩
      have HT := Kp.mk htg
      have ht' := ht
      have ha' := ha
      rw [htg] at ht'
      rw [hy] at ha'
      have c2 : wr.cell? ⟨b, 2, none⟩ = some (.bool s) := by rw [← hs]; exact HM.out.bx.cell 2 rfl
      have c3 : wr.cell? ⟨b, 3, none⟩ = some (.int .i64 tg) := by rw [← htg]; exact HM.out.bx.cell 3 rfl
      have c4 : wr.cell? ⟨b, 4, none⟩ = some (.int .i64 y) := by rw [← hy]; exact HM.out.bx.cell 4 rfl
      have ca : wr.cell? ⟨ba, 1, none⟩ = some (.int .i64 n2) := HM.out.arr.cell 1 rfl
      clear hs hy htg
      cases s with
      | true =>
        go_wp2
        go_still_tail 9, (by kernel_rfl)
        go_wp2_with fail
        refine (do_set br p2 q2 vr 0 0 tg n2 wr.drew HM.out.bxr ht' hn2).mono ?_
        rintro e w2 ⟨rfl, hb2, ht2⟩
        have HM2 := Kp.mk (HM.out.right d2 d3 e3 hb2 (Turned.trans ((Turned.refl _ wr).drew) ht2))
        have c4 : w2.cell? ⟨b, 4, none⟩ = some (.int .i64 y) := by rw [← HY.out]; exact HM2.out.bx.cell 4 rfl
        have ca : w2.cell? ⟨ba, 1, none⟩ = some (.int .i64 n2) := HM2.out.arr.cell 1 rfl
        have MM := Kp.mk (Nd.Mid.set (n := n2) ht' hn2)
        clear hb2 ht2
        by_cases hz : y = 0
        · subst hz
          have HTO := Kp.mk (show told v vr n2 = Nd.setTo tg n2 from by unfold told; rw [HS.out, HY.out]; simp [HT.out])
          go_wp2
          go_roundw
          case rel => exact ⟨_, _, HM2, .inr (.inr ⟨rfl, rfl, HTO.out⟩)⟩
          case measure => simp [intOf]
        · have hzb : (y != 0) = true := by simpa using hz
          have HTO := Kp.mk (show told v vr n2 = (Nd.setTo tg n2).addTo y n2 from by unfold told; rw [HS.out, HY.out, if_neg hz]; simp [HT.out])
          clear hz
          go_wp2
          go_still_tail 9, (by kernel_rfl)
          go_wp2_with fail
          refine (do_add br p2 q2 (Nd.setTo tg n2) 0 0 y n2 w2.drew HM2.out.bxr ha' hn2 MM.out.all).mono ?_
          rintro e w3 ⟨rfl, hb3, ht3⟩
          have HM3 := Kp.mk (HM2.out.right d2 d3 e3 hb3 (Turned.trans ((Turned.refl _ w2).drew) ht3))
          clear hb3 ht3
          go_wp2
          go_roundw
          case rel => exact ⟨_, _, HM3, .inr (.inr ⟨rfl, rfl, HTO.out⟩)⟩
          case measure => simp [intOf]
      | false =>
        by_cases hz : y = 0
        · subst hz
          have HTO := Kp.mk (show told v vr n2 = vr from by unfold told; rw [HS.out, HY.out]; simp)
          go_wp2
          go_roundw
          case rel => exact ⟨_, _, HM, .inr (.inr ⟨rfl, rfl, HTO.out⟩)⟩
          case measure => simp [intOf]
        · have hzb : (y != 0) = true := by simpa using hz
          have HTO := Kp.mk (show told v vr n2 = vr.addTo y n2 from by unfold told; rw [HS.out, HY.out, if_neg hz]; simp)
          clear hz
          go_wp2
          go_still_tail 9, (by kernel_rfl)
          go_wp2_with fail
          refine (do_add br p2 q2 vr 0 0 y n2 wr.drew HM.out.bxr ha' hn2 mr.all).mono ?_
          rintro e w3 ⟨rfl, hb3, ht3⟩
          have HM3 := Kp.mk (HM.out.right d2 d3 e3 hb3 (Turned.trans ((Turned.refl _ wr).drew) ht3))
          clear hb3 ht3
          go_wp2
          go_roundw
          case rel => exact ⟨_, _, HM3, .inr (.inr ⟨rfl, rfl, HTO.out⟩)⟩
          case measure => simp [intOf]
    · have k2 : wr.cell? ⟨b, 2, none⟩ = some (.bool v.set) := HM.out.bx.cell 2 rfl
      have k3 : wr.cell? ⟨b, 3, none⟩ = some (.int .i64 v.tgt) := HM.out.bx.cell 3 rfl
      have k4 : wr.cell? ⟨b, 4, none⟩ = some (.int .i64 v.add) := HM.out.bx.cell 4 rfl
      have f2 := HM.out.bx.free 2
      have f3 := HM.out.bx.free 3
      have f4 := HM.out.bx.free 4
      go_wp2
      go_end0
      have hT3 : Turned [b, bl, br] wr (((wr.setCell ⟨b, 2, none⟩ (.bool false)).setCell ⟨b, 3, none⟩ (.int .i64 0)).setCell ⟨b, 4, none⟩ (.int .i64 0)) := (((Turned.refl _ wr).set b 2 _ (by simp)).set b 3 _ (by simp)).set b 4 _ (by simp)
      have hT1 : Turned [b] wr (((wr.setCell ⟨b, 2, none⟩ (.bool false)).setCell ⟨b, 3, none⟩ (.int .i64 0)).setCell ⟨b, 4, none⟩ (.int .i64 0)) := (((Turned.refl _ wr).set b 2 _ (by simp)).set b 3 _ (by simp)).set b 4 _ (by simp)
      exact ⟨rfl, box_set (box_set (box_set HM.out.bx _) _) _, hT1.box HM.out.bxl (by simpa using d1.symm), hT1.box HM.out.bxr (by simpa using d2.symm), HM.out.turned.trans hT3⟩

end Go.Proofs.Ytlmdlholmlbcbaa
