/- Package pers: the walk of play. -/
import Derived.Test.YtdjcmemdlmfgpaaPersV
import Derived.Test.YtdjcmemdlmfgpaaStepK
import Derived.Shelf.Abstract
namespace Go.Proofs.Ytdjcmemdlmfgpaa
set_option linter.unusedVariables false
open Go.RowKit

set_option maxHeartbeats 1000000 in
theorem there_any (i k b7 : Nat) (aa : Option Addr) (ac : Nat) (w : World) (hc : w.cell? ⟨b7, 0, none⟩ = some (.slice aa (k + 1) ac)) (hi : i ≤ k) (hk : k ≤ 1000) :
    Calls Try.prog 13 #[.int .i64 i, .pointer (some ⟨b7, 0, none⟩)] w fun e w' => e = .returned (.bool true) ∧ w = w' := by
  have t1 : decide ((0 : Int) ≤ i) = true := decide_eq_true (by omega)
  have t2 : decide ((i : Int) < (k : Int) + 1) = true := decide_eq_true (by omega)
  have t3 : decide (i < k + 1) = true := decide_eq_true (by omega)
  go_enter Try.func13, Try.ntmps13
  go_wp2
  go_ret
  exact ⟨rfl, rfl⟩

set_option maxRecDepth 100000 in
set_option maxHeartbeats 4000000 in
theorem pplay_any (a ca : Option Addr) (cap cc n m : Nat) (l : List Int) (cs : List Chg) (w : World) (h : SlC w a n cap 1 (ints l)) (hl : l.length = n) (hcs : SlF chL 5 w ca m cc cs) (hn0 : 0 < n) (hn : n ≤ 300) (hm : m ≤ 60) (hok : ∀ j (h : j < cs.length), cs[j].Ok j n) :
    Calls Try.prog 10 #[.slice a n cap, .slice ca m cc] w fun e w' => ∃ xa xc aa ac b7 N bs, e = .returned (.tuple #[.slice xa m xc, .slice aa (m + 1) ac, .int .i64 0]) ∧ Kp (List.length bs = m + 1) ∧ Kp (PlM b7 m w w' N bs aa xa ac xc (verT l cs m)) := by
  have hcl : cs.length = m := hcs.len chL_len (by omega)
  have HC := Kp.mk hcs
  have HCL := Kp.mk hcl
  have HOK := Kp.mk hok
  have HL := Kp.mk hl
  have t1 : decide ((n : Int) < 1) = false := decide_eq_false (by omega)
  have t1b : decide (n < 1) = false := decide_eq_false (by omega)
  have t1c : decide (n = 0) = false := decide_eq_false (by omega)
  have t1d : ¬ n = 0 := by omega
  have t2 : decide ((300 : Int) < n) = false := decide_eq_false (by omega)
  have t2b : decide (300 < n) = false := decide_eq_false (by omega)
  have t3 : decide ((60 : Int) < m) = false := decide_eq_false (by omega)
  have t3b : decide (60 < m) = false := decide_eq_false (by omega)
  have hN0 : Nods w [] := ⟨List.nodup_nil, fun b hb => by cases hb⟩
  have CG := Kp.mk (pgrow_any n a cap n l [] w h hl hn0 (by omega) (by omega) hN0)
  clear h hl hcs hcl hok hN0
  go_enter Try.func10, Try.ntmps10
  go_wp2_with fail
  refine CG.out.mono ?_
  rintro e w2 ⟨N, bg, rfl, hg⟩
  go_upto_region 4 with (fail)
  have h1 := below_alloc (Nat.le_refl w2.heap.size) (.cells #[.pointer (some ⟨bg, 0, none⟩)] 42)
  have h2 := below_alloc (Nat.le_refl (w2.alloc (.cells #[.pointer (some ⟨bg, 0, none⟩)] 42)).heap.size) (.cells #[.slice (some ⟨w2.heap.size, 0, none⟩) 1 1] 38)
  have h3 := below_step h1 h2
  have hlit := World.ownsRow_lit (base := w.heap.size) (size := 1) (e := 42) w2 #[.pointer (some ⟨bg, 0, none⟩)] 1 hg.bel.size (by decide) rfl
  have hbx := Box.new (w2.alloc (.cells #[.pointer (some ⟨bg, 0, none⟩)] 42)) #[.slice (some ⟨w2.heap.size, 0, none⟩) 1 1] 38
  obtain ⟨b7, hb7⟩ : ∃ b7, b7 = (w2.alloc (.cells #[.pointer (some ⟨bg, 0, none⟩)] 42)).heap.size := ⟨_, rfl⟩
  have HE7 := Kp.mk (show w.heap.size ≤ b7 from by rw [hb7, alloc_size]; have := hg.bel.size; omega)
  have HP0 := Kp.mk (show PlM b7 0 w ((w2.alloc (.cells #[.pointer (some ⟨bg, 0, none⟩)] 42)).alloc (.cells #[.slice (some ⟨w2.heap.size, 0, none⟩) 1 1] 38)) N [bg] (some ⟨w2.heap.size, 0, none⟩) none 1 0 (verT l cs 0) from by
    rw [← hb7] at hbx
    refine ⟨below_step hg.bel h3, hbx, own_below hlit h2, World.ownsRow_nil _ _ _ _, hg.nods.below h3, ?_, fun j hj => ?_⟩
    · rw [hg.len]; show _ = (growT l.length 0 l).2; rw [HL.out]; rfl
    · obtain rfl : j = 0 := by omega
      have hg' : (growT n ([] : List Nat).length l) = growT l.length 0 l := by rw [HL.out]; rfl
      have hr := hg.root
      have hm := hg.mem.below h3
      rw [hg'] at hr hm
      exact ⟨bg, rfl, hr, hm⟩)
  rw [show w2.heap.size + 1 = b7 from by rw [hb7, alloc_size]]
  clear h1 h2 h3 hlit hbx hg CG hb7
  generalize (w2.alloc (.cells #[.pointer (some ⟨bg, 0, none⟩)] 42)).alloc (.cells #[.slice (some ⟨w2.heap.size, 0, none⟩) 1 1] 38) = w3 at *
  have eg := enters_of (P := Try.prog) Try.func13 (by kernel_rfl) rfl
  have hb7 : w.heap.size ≤ b7 := HE7.out
  go_wp2
  go_loopw [9, 32] (fun cv kv wr => ∃ (k : Nat) (xa : Option Addr) (xc : Nat) (aa : Option Addr) (ac : Nat) (N bs : List Nat), k ≤ m ∧ kv = .int .i64 k ∧ cv = .slice xa k xc ∧ Kp (bs.length = k + 1) ∧ Kp (PlM b7 k w wr N bs aa xa ac xc (verT l cs k))) (fun _ kv _ => m - (intOf kv).toNat)
  case atStart => exact ⟨0, none, 0, _, _, N, [bg], Nat.zero_le _, rfl, rfl, ⟨rfl⟩, HP0⟩
  case round =>
    clear HP0
    obtain ⟨k, xa, xc, aa, ac, N, bs, hk, rfl, rfl, HBL, HP⟩ := hrel
    by_cases hlt : k < m
    rotate_left
    · obtain rfl : k = m := by omega
      have z0 : wr.cell? ⟨b7, 0, none⟩ = some (.slice aa (k + 1) ac) := HP.out.box.cell 0 rfl
      go_wp2
      go_quiet (fail)
      go_wp2
      refine bodyPost_ret (v := .tuple #[.slice xa k xc, .slice aa (k + 1) ac, .int .i64 0]) (by simp [results, Try.results10, go_sem]) rfl ?_
      exact ⟨xa, xc, aa, ac, b7, N, bs, rfl, HBL, ⟨HP.out.below (drewN_below _)⟩⟩
    · have hkc : k < cs.length := by rw [HCL.out]; exact hlt
      obtain ⟨b, off, rfl, hbw, co⟩ := (HC.out.below (HP.out.bel.mono (Nat.le_refl _))).at chL_len (by omega) k hkc
      have ho := HOK.out k hkc
      have HSV := Kp.mk (show (verT l cs (k + 1)).1 = (verT l cs k).1 ++ [(if cs[k].kind = 1 then setT ((verT l cs k).1.getD cs[k].src pt0) cs[k].at_ cs[k].amt (verT l cs k).2 else withT ((verT l cs k).1.getD cs[k].src pt0) ((verT l cs k).1.getD cs[k].wi pt0) cs[k].at_ (verT l cs k).2).1] from by
        simp only [verT, getD_at _ ch0 hkc])
      have HSN := Kp.mk (show (if cs[k].kind = 1 then setT ((verT l cs k).1.getD cs[k].src pt0) cs[k].at_ cs[k].amt (verT l cs k).2 else withT ((verT l cs k).1.getD cs[k].src pt0) ((verT l cs k).1.getD cs[k].wi pt0) cs[k].at_ (verT l cs k).2).2 = (verT l cs (k + 1)).2 from by
        simp only [verT, getD_at _ ch0 hkc])
      obtain ⟨c, hc⟩ : ∃ c, cs[k] = c := ⟨_, rfl⟩
      rw [hc] at co ho HSV HSN
      obtain ⟨ck, cf, ct, cy, cw⟩ := c
      obtain ⟨hk1, hs, ha, hwi⟩ := ho
      dsimp only at hk1 hs ha hwi HSV HSN
      have o0 : wr.cell? ⟨b, off + k * 5, none⟩ = some (.int .i64 ck) := co 0 (by omega)
      have o1 : wr.cell? ⟨b, off + k * 5 + 1, none⟩ = some (.int .i64 cf) := co 1 (by omega)
      have o2 : wr.cell? ⟨b, off + k * 5 + 2, none⟩ = some (.int .i64 ct) := co 2 (by omega)
      have o3 : wr.cell? ⟨b, off + k * 5 + 3, none⟩ = some (.int .i64 cy) := co 3 (by omega)
      have o4 : wr.cell? ⟨b, off + k * 5 + 4, none⟩ = some (.int .i64 cw) := co 4 (by omega)
      clear co hc
      go_upto_region 11 with (fail)
      have HV2 := Kp.mk ((verT_ok HL.out hn0 k (by rw [HCL.out]; exact hk) HOK.out).2)
      have HVL := Kp.mk (verT_length l cs k)
      have hal := below_alloc (Nat.le_refl wr.heap.size) (.cells #[.int .i64 ck, .int .i64 cf, .int .i64 ct, .int .i64 cy, .int .i64 cw] 36)
      have HPA := Kp.mk (HP.out.below hal)
      have HTB := Kp.mk (Box.new wr #[.int .i64 ck, .int .i64 cf, .int .i64 ct, .int .i64 cy, .int .i64 cw] 36)
      obtain ⟨bt, hbt⟩ : ∃ bt, bt = wr.heap.size := ⟨_, rfl⟩
      rw [← hbt] at HTB ⊢
      clear hal HP o0 o1 o2 o3 o4 hbw hbt
      generalize wr.alloc (.cells #[.int .i64 ck, .int .i64 cf, .int .i64 ct, .int .i64 cy, .int .i64 cw] 36) = wA at *
      have HP := HPA
      obtain ⟨sb, sb1, sb2, sb3⟩ := HP.out.ver cf (by omega)
      obtain ⟨wb, wb1, wb2, wb3⟩ := HP.out.ver cw (by omega)
      have hrg : ∃ g, aa = some ⟨g, 0, none⟩ := by obtain ⟨g, hg, _⟩ := own_some HP.out.row (by omega); exact ⟨g, hg⟩
      obtain ⟨g, rfl⟩ := hrg
      have z1 : wA.cell? ⟨b7, 0, none⟩ = some (.slice (some ⟨g, 0, none⟩) (k + 1) ac) := HP.out.box.cell 0 rfl
      have q0 : wA.cell? ⟨bt, 0, none⟩ = some (.int .i64 ck) := HTB.out.cell 0 rfl
      have q1 : wA.cell? ⟨bt, 1, none⟩ = some (.int .i64 cf) := HTB.out.cell 1 rfl
      have q2 : wA.cell? ⟨bt, 2, none⟩ = some (.int .i64 ct) := HTB.out.cell 2 rfl
      have q3 : wA.cell? ⟨bt, 3, none⟩ = some (.int .i64 cy) := HTB.out.cell 3 rfl
      have q4 : wA.cell? ⟨bt, 4, none⟩ = some (.int .i64 cw) := HTB.out.cell 4 rfl
      have r1 : wA.cell? ⟨g, cf, none⟩ = some (.pointer (some ⟨sb, 0, none⟩)) := by
        rw [HP.out.row.cellAt cf (by omega)]; simp [ptrs, sb1]
      have r2 : wA.cell? ⟨g, cw, none⟩ = some (.pointer (some ⟨wb, 0, none⟩)) := by
        rw [HP.out.row.cellAt cw (by omega)]; simp [ptrs, wb1]
      have HDR := Kp.mk (show Below wA.heap.size wA wA.drew from (Below.refl _ _).drew)
      have HZ := Kp.mk (fun (w1 : World) (hb : Below wA.drew.heap.size wA.drew w1) => show w1.cell? ⟨b7, 0, none⟩ = some (.slice (some ⟨g, 0, none⟩) (k + 1) ac) ∧ w1.cell? ⟨g, cf, none⟩ = some (.pointer (some ⟨sb, 0, none⟩)) ∧ w1.cell? ⟨g, cw, none⟩ = some (.pointer (some ⟨wb, 0, none⟩)) ∧ w1.frozen? ⟨b7, 0, none⟩ = false from by
        have hb' : Below wA.heap.size wA w1 := HDR.out.trans hb
        exact ⟨(hb'.cell (p := ⟨b7, 0, none⟩) (World.block_lt_of_cell? _ _ z1)).trans z1, (hb'.cell (p := ⟨g, cf, none⟩) (World.block_lt_of_cell? _ _ r1)).trans r1, (hb'.cell (p := ⟨g, cw, none⟩) (World.block_lt_of_cell? _ _ r2)).trans r2, (HP.out.box.below hb').free 0⟩)
      have HY := Kp.mk (fun (w1 : World) (hb : Below wA.drew.heap.size wA.drew w1) (w3 : World) {o : Obj} (hgr : (w1.alloc o).grownBy w3 (blk (some ⟨g, 0, none⟩))) => show w3.cell? ⟨b7, 0, none⟩ = some (.slice (some ⟨g, 0, none⟩) (k + 1) ac) ∧ w3.frozen? ⟨b7, 0, none⟩ = false from by
        have hb' : Below wA.heap.size wA w1 := HDR.out.trans hb
        have hx := box_gr ((HP.out.box.below hb').alloc o) hgr (box_own' HP.out.row HP.out.box (by decide))
        exact ⟨hx.cell 0 rfl, hx.free 0⟩)
      have HSS := Kp.mk (fun (w1 : World) (hb : Below wA.drew.heap.size wA.drew w1) => show w1.cell? ⟨bt, 1, none⟩ = some (.int .i64 cf) ∧ w1.cell? ⟨bt, 2, none⟩ = some (.int .i64 ct) ∧ w1.cell? ⟨bt, 3, none⟩ = some (.int .i64 cy) ∧ w1.cell? ⟨g, cf, none⟩ = some (.pointer (some ⟨sb, 0, none⟩)) from by
        have hx := HTB.out.below (HDR.out.trans hb)
        exact ⟨hx.cell 1 rfl, hx.cell 2 rfl, hx.cell 3 rfl, (HZ.out w1 hb).2.1⟩)
      have HRW := Kp.mk HP.out.row
      have HPS := Kp.mk (show (ptrs bs)[cf]? = some (.pointer (some ⟨sb, 0, none⟩)) from by simp [ptrs, sb1])
      have HSG := Kp.mk (fun (w1 : World) (hb : Below wA.drew.heap.size wA.drew w1) (w3 : World) {o : Obj} (hgr : (w1.alloc o).grownBy w3 (blk (some ⟨g, 0, none⟩))) (hk : SlC w3 (some ⟨g, 0, none⟩) (k + 1) ac 1 (ptrs bs)) => show w3.cell? ⟨bt, 1, none⟩ = some (.int .i64 cf) ∧ w3.cell? ⟨bt, 2, none⟩ = some (.int .i64 ct) ∧ w3.cell? ⟨bt, 3, none⟩ = some (.int .i64 cy) ∧ w3.cell? ⟨g, cf, none⟩ = some (.pointer (some ⟨sb, 0, none⟩)) from by
        have hx := box_gr ((HTB.out.below (HDR.out.trans hb)).alloc o) hgr (box_own' HRW.out HTB.out (by decide))
        have hn := hk.news cf _ HPS.out
        rw [add_none, Nat.zero_add] at hn
        exact ⟨hx.cell 1 rfl, hx.cell 2 rfl, hx.cell 3 rfl, hn⟩)
      have HZA := Kp.mk (fun (w1 : World) (hb : Below wA.drew.heap.size wA.drew w1) (o : Obj) => show (w1.alloc o).cell? ⟨b7, 0, none⟩ = some (.slice (some ⟨g, 0, none⟩) (k + 1) ac) from by
        obtain ⟨e1, _⟩ := HZ.out w1 hb
        exact ((below_alloc (Nat.le_refl w1.heap.size) o).cell (p := ⟨b7, 0, none⟩) (World.block_lt_of_cell? _ _ e1)).trans e1)
      have hbtg : bt ≠ g := fun e => box_own' HRW.out HTB.out (by decide) (by rw [e]; rfl)
      have hbt7 : bt ≠ b7 := fun e => box_two HTB.out HP.out.box (by decide) e
      have h7g : b7 ≠ g := fun e => box_own' HRW.out HP.out.box (by decide) (by rw [e]; rfl)
      have HSA := Kp.mk (fun (w1 : World) (hs : w1.cell? ⟨bt, 1, none⟩ = some (.int .i64 cf) ∧ w1.cell? ⟨bt, 2, none⟩ = some (.int .i64 ct) ∧ w1.cell? ⟨bt, 3, none⟩ = some (.int .i64 cy) ∧ w1.cell? ⟨g, cf, none⟩ = some (.pointer (some ⟨sb, 0, none⟩))) (o : Obj) => show (w1.alloc o).cell? ⟨bt, 1, none⟩ = some (.int .i64 cf) ∧ (w1.alloc o).cell? ⟨bt, 2, none⟩ = some (.int .i64 ct) ∧ (w1.alloc o).cell? ⟨bt, 3, none⟩ = some (.int .i64 cy) ∧ (w1.alloc o).cell? ⟨g, cf, none⟩ = some (.pointer (some ⟨sb, 0, none⟩)) from by
        obtain ⟨e1, e2, e3, e4⟩ := hs
        have hb := below_alloc (Nat.le_refl w1.heap.size) o
        exact ⟨(hb.cell (p := ⟨bt, 1, none⟩) (World.block_lt_of_cell? _ _ e1)).trans e1, (hb.cell (p := ⟨bt, 2, none⟩) (World.block_lt_of_cell? _ _ e2)).trans e2, (hb.cell (p := ⟨bt, 3, none⟩) (World.block_lt_of_cell? _ _ e3)).trans e3, (hb.cell (p := ⟨g, cf, none⟩) (World.block_lt_of_cell? _ _ e4)).trans e4⟩)
      have HSB := Kp.mk (fun (w1 : World) (hs : w1.cell? ⟨bt, 1, none⟩ = some (.int .i64 cf) ∧ w1.cell? ⟨bt, 2, none⟩ = some (.int .i64 ct) ∧ w1.cell? ⟨bt, 3, none⟩ = some (.int .i64 cy) ∧ w1.cell? ⟨g, cf, none⟩ = some (.pointer (some ⟨sb, 0, none⟩))) (v : Value) => show (w1.setCell ⟨b7, 0, none⟩ v).cell? ⟨bt, 1, none⟩ = some (.int .i64 cf) ∧ (w1.setCell ⟨b7, 0, none⟩ v).cell? ⟨bt, 2, none⟩ = some (.int .i64 ct) ∧ (w1.setCell ⟨b7, 0, none⟩ v).cell? ⟨bt, 3, none⟩ = some (.int .i64 cy) ∧ (w1.setCell ⟨b7, 0, none⟩ v).cell? ⟨g, cf, none⟩ = some (.pointer (some ⟨sb, 0, none⟩)) from by
        rw [World.cell?_setCell_far _ _ _ _ (fun e => hbt7 e.symm), World.cell?_setCell_far _ _ _ _ (fun e => hbt7 e.symm), World.cell?_setCell_far _ _ _ _ (fun e => hbt7 e.symm), World.cell?_setCell_far _ _ _ _ h7g]
        exact hs)
      have HPS2 := Kp.mk (show (ptrs bs)[cw]? = some (.pointer (some ⟨wb, 0, none⟩)) from by simp [ptrs, wb1])
      have HSS2 := Kp.mk (fun (w1 : World) (hb : Below wA.drew.heap.size wA.drew w1) => show w1.cell? ⟨bt, 1, none⟩ = some (.int .i64 cf) ∧ w1.cell? ⟨bt, 2, none⟩ = some (.int .i64 ct) ∧ w1.cell? ⟨bt, 4, none⟩ = some (.int .i64 cw) ∧ w1.cell? ⟨g, cf, none⟩ = some (.pointer (some ⟨sb, 0, none⟩)) ∧ w1.cell? ⟨g, cw, none⟩ = some (.pointer (some ⟨wb, 0, none⟩)) from by
        have hx := HTB.out.below (HDR.out.trans hb)
        exact ⟨hx.cell 1 rfl, hx.cell 2 rfl, hx.cell 4 rfl, (HZ.out w1 hb).2.1, (HZ.out w1 hb).2.2.1⟩)
      have HSG2 := Kp.mk (fun (w1 : World) (hb : Below wA.drew.heap.size wA.drew w1) (w3 : World) {o : Obj} (hgr : (w1.alloc o).grownBy w3 (blk (some ⟨g, 0, none⟩))) (hk : SlC w3 (some ⟨g, 0, none⟩) (k + 1) ac 1 (ptrs bs)) => show w3.cell? ⟨bt, 1, none⟩ = some (.int .i64 cf) ∧ w3.cell? ⟨bt, 2, none⟩ = some (.int .i64 ct) ∧ w3.cell? ⟨bt, 4, none⟩ = some (.int .i64 cw) ∧ w3.cell? ⟨g, cf, none⟩ = some (.pointer (some ⟨sb, 0, none⟩)) ∧ w3.cell? ⟨g, cw, none⟩ = some (.pointer (some ⟨wb, 0, none⟩)) from by
        have hx := box_gr ((HTB.out.below (HDR.out.trans hb)).alloc o) hgr (box_own' HRW.out HTB.out (by decide))
        have hn := hk.news cf _ HPS.out
        have hm := hk.news cw _ HPS2.out
        rw [add_none, Nat.zero_add] at hn hm
        exact ⟨hx.cell 1 rfl, hx.cell 2 rfl, hx.cell 4 rfl, hn, hm⟩)
      have HSA2 := Kp.mk (fun (w1 : World) (hs : w1.cell? ⟨bt, 1, none⟩ = some (.int .i64 cf) ∧ w1.cell? ⟨bt, 2, none⟩ = some (.int .i64 ct) ∧ w1.cell? ⟨bt, 4, none⟩ = some (.int .i64 cw) ∧ w1.cell? ⟨g, cf, none⟩ = some (.pointer (some ⟨sb, 0, none⟩)) ∧ w1.cell? ⟨g, cw, none⟩ = some (.pointer (some ⟨wb, 0, none⟩))) (o : Obj) => show (w1.alloc o).cell? ⟨bt, 1, none⟩ = some (.int .i64 cf) ∧ (w1.alloc o).cell? ⟨bt, 2, none⟩ = some (.int .i64 ct) ∧ (w1.alloc o).cell? ⟨bt, 4, none⟩ = some (.int .i64 cw) ∧ (w1.alloc o).cell? ⟨g, cf, none⟩ = some (.pointer (some ⟨sb, 0, none⟩)) ∧ (w1.alloc o).cell? ⟨g, cw, none⟩ = some (.pointer (some ⟨wb, 0, none⟩)) from by
        obtain ⟨e1, e2, e3, e4, e5⟩ := hs
        have hb := below_alloc (Nat.le_refl w1.heap.size) o
        exact ⟨(hb.cell (p := ⟨bt, 1, none⟩) (World.block_lt_of_cell? _ _ e1)).trans e1, (hb.cell (p := ⟨bt, 2, none⟩) (World.block_lt_of_cell? _ _ e2)).trans e2, (hb.cell (p := ⟨bt, 4, none⟩) (World.block_lt_of_cell? _ _ e3)).trans e3, (hb.cell (p := ⟨g, cf, none⟩) (World.block_lt_of_cell? _ _ e4)).trans e4, (hb.cell (p := ⟨g, cw, none⟩) (World.block_lt_of_cell? _ _ e5)).trans e5⟩)
      have HSB2 := Kp.mk (fun (w1 : World) (hs : w1.cell? ⟨bt, 1, none⟩ = some (.int .i64 cf) ∧ w1.cell? ⟨bt, 2, none⟩ = some (.int .i64 ct) ∧ w1.cell? ⟨bt, 4, none⟩ = some (.int .i64 cw) ∧ w1.cell? ⟨g, cf, none⟩ = some (.pointer (some ⟨sb, 0, none⟩)) ∧ w1.cell? ⟨g, cw, none⟩ = some (.pointer (some ⟨wb, 0, none⟩))) (v : Value) => show (w1.setCell ⟨b7, 0, none⟩ v).cell? ⟨bt, 1, none⟩ = some (.int .i64 cf) ∧ (w1.setCell ⟨b7, 0, none⟩ v).cell? ⟨bt, 2, none⟩ = some (.int .i64 ct) ∧ (w1.setCell ⟨b7, 0, none⟩ v).cell? ⟨bt, 4, none⟩ = some (.int .i64 cw) ∧ (w1.setCell ⟨b7, 0, none⟩ v).cell? ⟨g, cf, none⟩ = some (.pointer (some ⟨sb, 0, none⟩)) ∧ (w1.setCell ⟨b7, 0, none⟩ v).cell? ⟨g, cw, none⟩ = some (.pointer (some ⟨wb, 0, none⟩)) from by
        rw [World.cell?_setCell_far _ _ _ _ (fun e => hbt7 e.symm), World.cell?_setCell_far _ _ _ _ (fun e => hbt7 e.symm), World.cell?_setCell_far _ _ _ _ (fun e => hbt7 e.symm), World.cell?_setCell_far _ _ _ _ h7g, World.cell?_setCell_far _ _ _ _ h7g]
        exact hs)
      have CT := Kp.mk (there_any cf k b7 (some ⟨g, 0, none⟩) ac wA z1 hs (by omega))
      have u1 : decide ((ct : Int) < 0) = false := decide_eq_false (by omega)
      have u2 : decide ((n : Int) ≤ ct) = false := decide_eq_false (by omega)
      have u3 : decide (n ≤ ct) = false := decide_eq_false (by omega)
      have hvs : ∀ i, i ≤ k → ((verT l cs k).1.getD i pt0).Bal ∧ ((verT l cs k).1.getD i pt0).wide = n := fun i hi => HV2.out _ (by rw [getD_at _ _ (by rw [HVL.out]; omega)]; exact List.getElem_mem _)
      obtain ⟨vs1, vs2⟩ := hvs cf hs
      obtain ⟨vw1, vw2⟩ := hvs cw hwi
      have hnd : Nods wA.drew N := HP.out.nods.below HDR.out
      rcases hk1 with rfl | rfl
      · have CS := Kp.mk (pset_any ((verT l cs k).1.getD cf pt0) ct sb cy N wA.drew hnd (sb3.below HDR.out) vs1 (by rw [vs2]; exact ha) (by rw [vs2]; omega) sb2)
        rw [if_pos rfl] at HSV HSN
        rw [HP.out.len] at CS
        have hcfz : (cf : Int) < (k : Int) + 1 := by omega
        clear hvs vs1 vs2 vw1 vw2 hnd sb1 sb2 sb3 wb1 wb2 wb3 HV2
        generalize setT ((verT l cs k).1.getD cf pt0) ct cy (verT l cs k).2 = R at *
        go_wp2_with fail
        refine CT.out.mono ?_
        rintro e w' ⟨rfl, rfl⟩
        go_wp2
        have hbtl := HTB.out.lt
        have HBT := Kp.mk (fun (w1 : World) (hb : Below wA.drew.heap.size wA.drew w1) => show Box w1 bt #[.int .i64 1, .int .i64 cf, .int .i64 ct, .int .i64 cy, .int .i64 cw] 36 from HTB.out.below (HDR.out.trans hb))
        refine wp_region_noPanic ?_
        refine wp_region_held_drew (S := fun w' => w'.cell? ⟨bt, 1, none⟩ = some (.int .i64 cf) ∧ w'.cell? ⟨bt, 2, none⟩ = some (.int .i64 ct) ∧ w'.cell? ⟨bt, 3, none⟩ = some (.int .i64 cy) ∧ w'.cell? ⟨g, cf, none⟩ = some (.pointer (some ⟨sb, 0, none⟩))) (by kernel_rfl) ?_ (fun hHeld => ?_)
        · exact ⟨q1, q2, q3, r1⟩
        refine wpAnyH_take (i := 2) (v := ?_) rfl (by kernel_rfl) (by kernel_rfl) (by kernel_rfl) (fun _ _ _ h => h) (Or.inl ⟨by rfl, ?_⟩) (by assumption) ?_
        rotate_left
        · (intro w hSw; (try dsimp only at hSw); go_simp; try with_reducible rfl)
        try simp only [Act.put]
        refine wpAnyH_take (i := 3) (v := ?_) rfl (by kernel_rfl) (by kernel_rfl) (by kernel_rfl) (fun _ _ _ h => h) (Or.inl ⟨by rfl, ?_⟩) (by assumption) ?_
        rotate_left
        · (intro w hSw; (try dsimp only at hSw); go_simp; try with_reducible rfl)
        try simp only [Act.put]
        refine wpAnyH_take (i := 6) (v := ?_) rfl (by kernel_rfl) (by kernel_rfl) (by kernel_rfl) (fun _ _ _ h => h) (Or.inl ⟨by rfl, ?_⟩) (by assumption) ?_
        rotate_left
        · (intro w hSw; (try dsimp only at hSw); go_simp; try with_reducible rfl)
        try simp only [Act.put]
        refine wpAnyH_take (i := 7) (v := ?_) rfl (by kernel_rfl) (by kernel_rfl) (by kernel_rfl) (fun _ _ _ h => h) (Or.inl ⟨by rfl, ?_⟩) (by assumption) ?_
        rotate_left
        · (intro w hSw; (try dsimp only at hSw); go_simp; try with_reducible rfl)
        try simp only [Act.put]
        refine wpAnyH_take (i := 8) (v := ?_) rfl (by kernel_rfl) (by kernel_rfl) (by kernel_rfl) (fun _ _ _ h => h) (Or.inl ⟨by rfl, ?_⟩) (by assumption) ?_
        rotate_left
        · (intro w hSw; (try dsimp only at hSw); go_simp; try with_reducible rfl)
        try simp only [Act.put]
        refine wpAnyH_take (i := 9) (v := ?_) rfl (by kernel_rfl) (by kernel_rfl) (by kernel_rfl) (fun _ _ _ h => h) (Or.inl ⟨by rfl, ?_⟩) (by assumption) ?_
        rotate_left
        · (intro w hSw; (try dsimp only at hSw); go_simp; try with_reducible rfl)
        try simp only [Act.put]
        refine wpAnyH_ready (rs := [0, 1]) (by kernel_rfl) (by simp) ?_
        refine AllReadyH.cons rfl (fun K hK => ?_) (AllReadyH.cons rfl (fun K hK => ?_) AllReadyH.nil)
        go_simp
        refine hK.out _ _ ?_ (fun hHeld => ?_)
        · exact hHeld
        clear hK K
        try simp only [Act.put]
        refine wpAnyH_ready (rs := [1]) (by kernel_rfl) (by simp) ?_
        refine AllReadyH.cons rfl (fun K hK => ?_) AllReadyH.nil
        go_simp
        refine hK.out _ _ ?_ (fun hHeld => ?_)
        · exact hHeld
        clear hK K
        try simp only [Act.put]
        refine wpAnyH_take (i := 4) (v := ?_) rfl (by kernel_rfl) (by kernel_rfl) (by kernel_rfl) (fun _ _ _ h => h) (Or.inl ⟨by rfl, ?_⟩) (by assumption) ?_
        rotate_left
        · (intro w hSw; (try dsimp only at hSw); go_simp; try with_reducible rfl)
        try simp only [Act.put]
        refine wpAnyH_take (i := 5) (v := ?_) rfl (by kernel_rfl) (by kernel_rfl) (by kernel_rfl) (fun _ _ _ h => h) (Or.inl ⟨by rfl, ?_⟩) (by assumption) ?_
        rotate_left
        · (intro w hSw; (try dsimp only at hSw); go_simp; try with_reducible rfl)
        try simp only [Act.put]
        refine wpAnyH_ready (rs := [10]) (by kernel_rfl) (by simp) ?_
        refine AllReadyH.cons rfl (fun K hK => ?_) AllReadyH.nil
        go_simp
        go_at_call 14
        refine CS.out.mono ?_
        rintro e w1 ⟨N1, x1, rfl, hg1⟩
        obtain ⟨z1', z2, z3, z4⟩ := HZ.out w1 hg1.bel
        have z7 := fun o => HZA.out w1 hg1.bel o
        have hS1 := HSS.out w1 hg1.bel
        try dsimp only
        refine hK.out _ _ ?_ (fun hHeld => ?_)
        · exact hS1
        clear hK K
        try simp only [Act.put]
        refine wpAnyH_ready (rs := [11]) (by kernel_rfl) (by simp) ?_
        refine AllReadyH.cons rfl (fun K hK => ?_) AllReadyH.nil
        go_simp
        refine hK.out _ _ ?_ (fun hHeld => ?_)
        · exact HSA.out w1 hS1 _
        clear hK K
        try simp only [Act.put]
        refine wpAnyH_ready (rs := [12]) (by kernel_rfl) (by simp) ?_
        refine AllReadyH.cons rfl (fun K hK => ?_) AllReadyH.nil
        refine step_pushK tPtrs (by rfl) _ _ (by rfl) w.heap.size (some ⟨g, 0, none⟩) (k + 1) ac _ (by rfl) ((own_below HP.out.row (HDR.out.trans hg1.bel)).alloc _) 1 w1.heap.size _ (heap_alloc_new w1 _) (by rfl) (by rfl) (by simp [Value.oneCell']) (by omega) (by omega) (by omega) (by rw [alloc_size]; have := HP.out.bel.size; have : wA.heap.size ≤ w1.heap.size := hg1.bel.size; omega) ?_
        intro sa sc w3 ho3 hgr3 hno3 hk3
        obtain ⟨z5, z6⟩ := HY.out w1 hg1.bel w3 hgr3
        have hS3 := HSG.out w1 hg1.bel w3 hgr3 hk3
        refine hK.out _ _ ?_ (fun hHeld => ?_)
        · exact hS3
        clear hK K
        try simp only [Act.put]
        refine wpAnyH_ready (rs := [13]) (by kernel_rfl) (by simp) ?_
        refine AllReadyH.cons rfl (fun K hK => ?_) AllReadyH.nil
        go_simp
        refine hK.out _ _ ?_ (fun hHeld => ?_)
        · exact HSB.out w3 hS3 _
        clear hK K
        try simp only [Act.put]
        refine wpAnyH_done (by kernel_rfl) ?_ _
        refine NoPanic.normal ?_
        rotate_left
        go_simp
        refine hK.out _ _ ?_ (fun hHeld => ?_)
        · exact hHeld
        clear hK K
        try simp only [Act.put]
        refine wpAnyH_take (i := 4) (v := ?_) rfl (by kernel_rfl) (by kernel_rfl) (by kernel_rfl) (fun _ _ _ h => h) (Or.inl ⟨by rfl, ?_⟩) (by assumption) ?_
        rotate_left
        · (intro w hSw; (try dsimp only at hSw); go_simp; try with_reducible rfl)
        try simp only [Act.put]
        refine wpAnyH_take (i := 5) (v := ?_) rfl (by kernel_rfl) (by kernel_rfl) (by kernel_rfl) (fun _ _ _ h => h) (Or.inl ⟨by rfl, ?_⟩) (by assumption) ?_
        rotate_left
        · (intro w hSw; (try dsimp only at hSw); go_simp; try with_reducible rfl)
        try simp only [Act.put]
        refine wpAnyH_ready (rs := [0, 10]) (by kernel_rfl) (by simp) ?_
        refine AllReadyH.cons rfl (fun K hK => ?_) (AllReadyH.cons rfl (fun K hK => ?_) AllReadyH.nil)
        go_simp
        refine hK.out _ _ ?_ (fun hHeld => ?_)
        · exact hHeld
        clear hK K
        try simp only [Act.put]
        refine wpAnyH_ready (rs := [10]) (by kernel_rfl) (by simp) ?_
        refine AllReadyH.cons rfl (fun K hK => ?_) AllReadyH.nil
        go_simp
        go_at_call 14
        refine CS.out.mono ?_
        rintro e w1 ⟨N1, x1, rfl, hg1⟩
        obtain ⟨z1', z2, z3, z4⟩ := HZ.out w1 hg1.bel
        have z7 := fun o => HZA.out w1 hg1.bel o
        have hS1 := HSS.out w1 hg1.bel
        try dsimp only
        refine hK.out _ _ ?_ (fun hHeld => ?_)
        · exact hS1
        clear hK K
        try simp only [Act.put]
        refine wpAnyH_ready (rs := [11]) (by kernel_rfl) (by simp) ?_
        refine AllReadyH.cons rfl (fun K hK => ?_) AllReadyH.nil
        go_simp
        refine hK.out _ _ ?_ (fun hHeld => ?_)
        · exact HSA.out w1 hS1 _
        clear hK K
        try simp only [Act.put]
        refine wpAnyH_ready (rs := [12]) (by kernel_rfl) (by simp) ?_
        refine AllReadyH.cons rfl (fun K hK => ?_) AllReadyH.nil
        refine step_pushK tPtrs (by rfl) _ _ (by rfl) w.heap.size (some ⟨g, 0, none⟩) (k + 1) ac _ (by rfl) ((own_below HP.out.row (HDR.out.trans hg1.bel)).alloc _) 1 w1.heap.size _ (heap_alloc_new w1 _) (by rfl) (by rfl) (by simp [Value.oneCell']) (by omega) (by omega) (by omega) (by rw [alloc_size]; have := HP.out.bel.size; have : wA.heap.size ≤ w1.heap.size := hg1.bel.size; omega) ?_
        intro sa sc w3 ho3 hgr3 hno3 hk3
        obtain ⟨z5, z6⟩ := HY.out w1 hg1.bel w3 hgr3
        have hS3 := HSG.out w1 hg1.bel w3 hgr3 hk3
        refine hK.out _ _ ?_ (fun hHeld => ?_)
        · exact hS3
        clear hK K
        try simp only [Act.put]
        refine wpAnyH_ready (rs := [13]) (by kernel_rfl) (by simp) ?_
        refine AllReadyH.cons rfl (fun K hK => ?_) AllReadyH.nil
        go_simp
        refine hK.out _ _ ?_ (fun hHeld => ?_)
        · exact HSB.out w3 hS3 _
        clear hK K
        try simp only [Act.put]
        refine wpAnyH_done (by kernel_rfl) ?_ _
        refine NoPanic.normal ?_
        rotate_left
        go_simp
        go_at_call 14
        refine CS.out.mono ?_
        rintro e w1 ⟨N1, x1, rfl, hg1⟩
        obtain ⟨z1', z2, z3, z4⟩ := HZ.out w1 hg1.bel
        have z7 := fun o => HZA.out w1 hg1.bel o
        have hS1 := HSS.out w1 hg1.bel
        try dsimp only
        refine hK.out _ _ ?_ (fun hHeld => ?_)
        · exact hS1
        clear hK K
        try simp only [Act.put]
        refine wpAnyH_ready (rs := [0, 11]) (by kernel_rfl) (by simp) ?_
        refine AllReadyH.cons rfl (fun K hK => ?_) (AllReadyH.cons rfl (fun K hK => ?_) AllReadyH.nil)
        go_simp
        refine hK.out _ _ ?_ (fun hHeld => ?_)
        · exact hHeld
        clear hK K
        try simp only [Act.put]
        refine wpAnyH_ready (rs := [11]) (by kernel_rfl) (by simp) ?_
        refine AllReadyH.cons rfl (fun K hK => ?_) AllReadyH.nil
        go_simp
        refine hK.out _ _ ?_ (fun hHeld => ?_)
        · exact HSA.out w1 hS1 _
        clear hK K
        try simp only [Act.put]
        refine wpAnyH_ready (rs := [12]) (by kernel_rfl) (by simp) ?_
        refine AllReadyH.cons rfl (fun K hK => ?_) AllReadyH.nil
        refine step_pushK tPtrs (by rfl) _ _ (by rfl) w.heap.size (some ⟨g, 0, none⟩) (k + 1) ac _ (by rfl) ((own_below HP.out.row (HDR.out.trans hg1.bel)).alloc _) 1 w1.heap.size _ (heap_alloc_new w1 _) (by rfl) (by rfl) (by simp [Value.oneCell']) (by omega) (by omega) (by omega) (by rw [alloc_size]; have := HP.out.bel.size; have : wA.heap.size ≤ w1.heap.size := hg1.bel.size; omega) ?_
        intro sa sc w3 ho3 hgr3 hno3 hk3
        obtain ⟨z5, z6⟩ := HY.out w1 hg1.bel w3 hgr3
        have hS3 := HSG.out w1 hg1.bel w3 hgr3 hk3
        refine hK.out _ _ ?_ (fun hHeld => ?_)
        · exact hS3
        clear hK K
        try simp only [Act.put]
        refine wpAnyH_ready (rs := [13]) (by kernel_rfl) (by simp) ?_
        refine AllReadyH.cons rfl (fun K hK => ?_) AllReadyH.nil
        go_simp
        refine hK.out _ _ ?_ (fun hHeld => ?_)
        · exact HSB.out w3 hS3 _
        clear hK K
        try simp only [Act.put]
        refine wpAnyH_done (by kernel_rfl) ?_ _
        refine NoPanic.normal ?_
        rotate_left
        go_simp
        refine hK.out _ _ ?_ (fun hHeld => ?_)
        · exact HSA.out w1 hS1 _
        clear hK K
        try simp only [Act.put]
        refine wpAnyH_ready (rs := [0]) (by kernel_rfl) (by simp) ?_
        refine AllReadyH.cons rfl (fun K hK => ?_) AllReadyH.nil
        go_simp
        refine hK.out _ _ ?_ (fun hHeld => ?_)
        · exact hHeld
        clear hK K
        try simp only [Act.put]
        refine wpAnyH_ready (rs := [12]) (by kernel_rfl) (by simp) ?_
        refine AllReadyH.cons rfl (fun K hK => ?_) AllReadyH.nil
        refine step_pushK tPtrs (by rfl) _ _ (by rfl) w.heap.size (some ⟨g, 0, none⟩) (k + 1) ac _ (by rfl) ((own_below HP.out.row (HDR.out.trans hg1.bel)).alloc _) 1 w1.heap.size _ (heap_alloc_new w1 _) (by rfl) (by rfl) (by simp [Value.oneCell']) (by omega) (by omega) (by omega) (by rw [alloc_size]; have := HP.out.bel.size; have : wA.heap.size ≤ w1.heap.size := hg1.bel.size; omega) ?_
        intro sa sc w3 ho3 hgr3 hno3 hk3
        obtain ⟨z5, z6⟩ := HY.out w1 hg1.bel w3 hgr3
        have hS3 := HSG.out w1 hg1.bel w3 hgr3 hk3
        refine hK.out _ _ ?_ (fun hHeld => ?_)
        · exact hS3
        clear hK K
        try simp only [Act.put]
        refine wpAnyH_ready (rs := [13]) (by kernel_rfl) (by simp) ?_
        refine AllReadyH.cons rfl (fun K hK => ?_) AllReadyH.nil
        go_simp
        refine hK.out _ _ ?_ (fun hHeld => ?_)
        · exact HSB.out w3 hS3 _
        clear hK K
        try simp only [Act.put]
        refine wpAnyH_done (by kernel_rfl) ?_ _
        refine NoPanic.normal ?_
        rotate_left
        all_goals
          have hg1' := hg1.drew
          obtain ⟨p1, p2, p3, p4, p5, p6, p7⟩ := HP.out.push HVL.out HBL.out hb7 hg1' (below_alloc (Nat.le_refl _) _) ho3 hgr3
          have HQ1 := Kp.mk p1
          have HQ2 := Kp.mk p2
          have HQ3 := Kp.mk p3
          have HQ4 := Kp.mk p4
          have HQ5 := Kp.mk p5
          have HQ6 := Kp.mk p6
          rw [← HSV.out] at p7
          have HQ7 := Kp.mk p7
          have HQ8 := Kp.mk (show N1.length = (verT l cs (k + 1)).2 from by rw [hg1'.len, HSN.out])
          have hsz := HQ2.out.size
          clear p1 p2 p3 p4 p5 p6 p7 hg1 hg1' ho3 hgr3 hno3 hk3 z5 z6 z1 z1' z2 z3 z4 z7 CS hS1 hS3 hHeld q0 q1 q2 q3 q4 r1 r2
          go_upto_region 21 with (fail)
          generalize w3.setCell ⟨b7, 0, none⟩ (.slice sa (k + 1 + 1) sc) = w4 at *
          go_wp2_with (at_builtin; refine wpList_pushS tErrs rfl _ _ rfl w.heap.size xa k xc _ rfl HQ5.out 1 _ rfl rfl ?y1 ?y2 (by decide) hsz ?y4)
          case y1 => simp [Value.oneCell']
          case y2 => omega
          case y4 =>
            intro ya yc w5 ho5 hgr5 hno5
            have HPN := Kp.mk (PlM.code (V := verT l cs (k + 1)) HQ2.out HQ3.out HQ4.out HQ5.out HQ6.out HQ8.out HQ7.out rfl ho5 hgr5)
            clear ho5 hgr5 hno5
            go_wp2
            go_roundw
            case rel => exact ⟨k + 1, ya, yc, sa, sc, N1, bs ++ [x1], by omega, by go_num, rfl, HQ1, HPN⟩
            case measure => simp [intOf]; omega

      · have CT2 := Kp.mk (there_any cw k b7 (some ⟨g, 0, none⟩) ac wA z1 hwi (by omega))
        have CS := Kp.mk (pwith_any ((verT l cs k).1.getD cf pt0) ((verT l cs k).1.getD cw pt0) ct sb wb N wA.drew hnd (sb3.below HDR.out) (wb3.below HDR.out) vs1 vw1 (by rw [vs2, vw2]) (by rw [vs2]; omega) (by omega) (by omega) sb2 wb2)
        rw [if_neg (by decide)] at HSV HSN
        rw [HP.out.len] at CS
        have hcfz : (cf : Int) < (k : Int) + 1 := by omega
        have hcwz : (cw : Int) < (k : Int) + 1 := by omega
        clear hvs vs1 vs2 vw1 vw2 hnd sb1 sb2 sb3 wb1 wb2 wb3 HV2
        generalize withT ((verT l cs k).1.getD cf pt0) ((verT l cs k).1.getD cw pt0) ct (verT l cs k).2 = R at *
        go_wp2_with fail
        refine CT.out.mono ?_
        rintro e w' ⟨rfl, rfl⟩
        go_wp2_with fail
        refine CT2.out.mono ?_
        rintro e w' ⟨rfl, rfl⟩
        go_wp2
        refine wp_region_noPanic ?_
        refine wp_region_held_drew (S := fun w' => w'.cell? ⟨bt, 1, none⟩ = some (.int .i64 cf) ∧ w'.cell? ⟨bt, 2, none⟩ = some (.int .i64 ct) ∧ w'.cell? ⟨bt, 4, none⟩ = some (.int .i64 cw) ∧ w'.cell? ⟨g, cf, none⟩ = some (.pointer (some ⟨sb, 0, none⟩)) ∧ w'.cell? ⟨g, cw, none⟩ = some (.pointer (some ⟨wb, 0, none⟩))) (by kernel_rfl) ?_ (fun hHeld => ?_)
        · exact ⟨q1, q2, q4, r1, r2⟩
        refine wpAnyH_take (i := 2) (v := ?_) rfl (by kernel_rfl) (by kernel_rfl) (by kernel_rfl) (fun _ _ _ h => h) (Or.inl ⟨by rfl, ?_⟩) (by assumption) ?_
        rotate_left
        · (intro w hSw; (try dsimp only at hSw); go_simp; try with_reducible rfl)
        try simp only [Act.put]
        refine wpAnyH_take (i := 3) (v := ?_) rfl (by kernel_rfl) (by kernel_rfl) (by kernel_rfl) (fun _ _ _ h => h) (Or.inl ⟨by rfl, ?_⟩) (by assumption) ?_
        rotate_left
        · (intro w hSw; (try dsimp only at hSw); go_simp; try with_reducible rfl)
        try simp only [Act.put]
        refine wpAnyH_take (i := 6) (v := ?_) rfl (by kernel_rfl) (by kernel_rfl) (by kernel_rfl) (fun _ _ _ h => h) (Or.inl ⟨by rfl, ?_⟩) (by assumption) ?_
        rotate_left
        · (intro w hSw; (try dsimp only at hSw); go_simp; try with_reducible rfl)
        try simp only [Act.put]
        refine wpAnyH_take (i := 7) (v := ?_) rfl (by kernel_rfl) (by kernel_rfl) (by kernel_rfl) (fun _ _ _ h => h) (Or.inl ⟨by rfl, ?_⟩) (by assumption) ?_
        rotate_left
        · (intro w hSw; (try dsimp only at hSw); go_simp; try with_reducible rfl)
        try simp only [Act.put]
        refine wpAnyH_take (i := 9) (v := ?_) rfl (by kernel_rfl) (by kernel_rfl) (by kernel_rfl) (fun _ _ _ h => h) (Or.inl ⟨by rfl, ?_⟩) (by assumption) ?_
        rotate_left
        · (intro w hSw; (try dsimp only at hSw); go_simp; try with_reducible rfl)
        try simp only [Act.put]
        refine wpAnyH_take (i := 10) (v := ?_) rfl (by kernel_rfl) (by kernel_rfl) (by kernel_rfl) (fun _ _ _ h => h) (Or.inl ⟨by rfl, ?_⟩) (by assumption) ?_
        rotate_left
        · (intro w hSw; (try dsimp only at hSw); go_simp; try with_reducible rfl)
        try simp only [Act.put]
        refine wpAnyH_ready (rs := [0, 1, 8]) (by kernel_rfl) (by simp) ?_
        refine AllReadyH.cons rfl (fun K hK => ?_) (AllReadyH.cons rfl (fun K hK => ?_) (AllReadyH.cons rfl (fun K hK => ?_) AllReadyH.nil))
        go_simp
        refine hK.out _ _ ?_ (fun hHeld => ?_)
        · exact hHeld
        clear hK K
        try simp only [Act.put]
        refine wpAnyH_ready (rs := [1, 8]) (by kernel_rfl) (by simp) ?_
        refine AllReadyH.cons rfl (fun K hK => ?_) (AllReadyH.cons rfl (fun K hK => ?_) AllReadyH.nil)
        go_simp
        refine hK.out _ _ ?_ (fun hHeld => ?_)
        · exact hHeld
        clear hK K
        try simp only [Act.put]
        refine wpAnyH_take (i := 4) (v := ?_) rfl (by kernel_rfl) (by kernel_rfl) (by kernel_rfl) (fun _ _ _ h => h) (Or.inl ⟨by rfl, ?_⟩) (by assumption) ?_
        rotate_left
        · (intro w hSw; (try dsimp only at hSw); go_simp; try with_reducible rfl)
        try simp only [Act.put]
        refine wpAnyH_take (i := 5) (v := ?_) rfl (by kernel_rfl) (by kernel_rfl) (by kernel_rfl) (fun _ _ _ h => h) (Or.inl ⟨by rfl, ?_⟩) (by assumption) ?_
        rotate_left
        · (intro w hSw; (try dsimp only at hSw); go_simp; try with_reducible rfl)
        try simp only [Act.put]
        refine wpAnyH_ready (rs := [8]) (by kernel_rfl) (by simp) ?_
        refine AllReadyH.cons rfl (fun K hK => ?_) AllReadyH.nil
        go_simp
        refine hK.out _ _ ?_ (fun hHeld => ?_)
        · exact hHeld
        clear hK K
        try simp only [Act.put]
        refine wpAnyH_take (i := 11) (v := ?_) rfl (by kernel_rfl) (by kernel_rfl) (by kernel_rfl) (fun _ _ _ h => h) (Or.inl ⟨by rfl, ?_⟩) (by assumption) ?_
        rotate_left
        · (intro w hSw; (try dsimp only at hSw); go_simp; try with_reducible rfl)
        try simp only [Act.put]
        refine wpAnyH_take (i := 12) (v := ?_) rfl (by kernel_rfl) (by kernel_rfl) (by kernel_rfl) (fun _ _ _ h => h) (Or.inl ⟨by rfl, ?_⟩) (by assumption) ?_
        rotate_left
        · (intro w hSw; (try dsimp only at hSw); go_simp; try with_reducible rfl)
        try simp only [Act.put]
        refine wpAnyH_ready (rs := [13]) (by kernel_rfl) (by simp) ?_
        refine AllReadyH.cons rfl (fun K hK => ?_) AllReadyH.nil
        go_simp
        go_at_call 15
        refine CS.out.mono ?_
        rintro e w1 ⟨N1, x1, rfl, hg1⟩
        obtain ⟨z1', z2, z3, z4⟩ := HZ.out w1 hg1.bel
        have z7 := fun o => HZA.out w1 hg1.bel o
        have hS1 := HSS2.out w1 hg1.bel
        try dsimp only
        refine hK.out _ _ ?_ (fun hHeld => ?_)
        · exact hS1
        clear hK K
        try simp only [Act.put]
        refine wpAnyH_ready (rs := [14]) (by kernel_rfl) (by simp) ?_
        refine AllReadyH.cons rfl (fun K hK => ?_) AllReadyH.nil
        go_simp
        refine hK.out _ _ ?_ (fun hHeld => ?_)
        · exact HSA2.out w1 hS1 _
        clear hK K
        try simp only [Act.put]
        refine wpAnyH_ready (rs := [15]) (by kernel_rfl) (by simp) ?_
        refine AllReadyH.cons rfl (fun K hK => ?_) AllReadyH.nil
        refine step_pushK tPtrs (by rfl) _ _ (by rfl) w.heap.size (some ⟨g, 0, none⟩) (k + 1) ac _ (by rfl) ((own_below HP.out.row (HDR.out.trans hg1.bel)).alloc _) 1 w1.heap.size _ (heap_alloc_new w1 _) (by rfl) (by rfl) (by simp [Value.oneCell']) (by omega) (by omega) (by omega) (by rw [alloc_size]; have := HP.out.bel.size; have : wA.heap.size ≤ w1.heap.size := hg1.bel.size; omega) ?_
        intro sa sc w3 ho3 hgr3 hno3 hk3
        obtain ⟨z5, z6⟩ := HY.out w1 hg1.bel w3 hgr3
        have hS3 := HSG2.out w1 hg1.bel w3 hgr3 hk3
        refine hK.out _ _ ?_ (fun hHeld => ?_)
        · exact hS3
        clear hK K
        try simp only [Act.put]
        refine wpAnyH_ready (rs := [16]) (by kernel_rfl) (by simp) ?_
        refine AllReadyH.cons rfl (fun K hK => ?_) AllReadyH.nil
        go_simp
        refine hK.out _ _ ?_ (fun hHeld => ?_)
        · exact HSB2.out w3 hS3 _
        clear hK K
        try simp only [Act.put]
        refine wpAnyH_done (by kernel_rfl) ?_ _
        refine NoPanic.normal ?_
        rotate_left
        go_simp
        refine hK.out _ _ ?_ (fun hHeld => ?_)
        · exact hHeld
        clear hK K
        try simp only [Act.put]
        refine wpAnyH_take (i := 11) (v := ?_) rfl (by kernel_rfl) (by kernel_rfl) (by kernel_rfl) (fun _ _ _ h => h) (Or.inl ⟨by rfl, ?_⟩) (by assumption) ?_
        rotate_left
        · (intro w hSw; (try dsimp only at hSw); go_simp; try with_reducible rfl)
        try simp only [Act.put]
        refine wpAnyH_take (i := 12) (v := ?_) rfl (by kernel_rfl) (by kernel_rfl) (by kernel_rfl) (fun _ _ _ h => h) (Or.inl ⟨by rfl, ?_⟩) (by assumption) ?_
        rotate_left
        · (intro w hSw; (try dsimp only at hSw); go_simp; try with_reducible rfl)
        try simp only [Act.put]
        refine wpAnyH_ready (rs := [1]) (by kernel_rfl) (by simp) ?_
        refine AllReadyH.cons rfl (fun K hK => ?_) AllReadyH.nil
        go_simp
        refine hK.out _ _ ?_ (fun hHeld => ?_)
        · exact hHeld
        clear hK K
        try simp only [Act.put]
        refine wpAnyH_take (i := 4) (v := ?_) rfl (by kernel_rfl) (by kernel_rfl) (by kernel_rfl) (fun _ _ _ h => h) (Or.inl ⟨by rfl, ?_⟩) (by assumption) ?_
        rotate_left
        · (intro w hSw; (try dsimp only at hSw); go_simp; try with_reducible rfl)
        try simp only [Act.put]
        refine wpAnyH_take (i := 5) (v := ?_) rfl (by kernel_rfl) (by kernel_rfl) (by kernel_rfl) (fun _ _ _ h => h) (Or.inl ⟨by rfl, ?_⟩) (by assumption) ?_
        rotate_left
        · (intro w hSw; (try dsimp only at hSw); go_simp; try with_reducible rfl)
        try simp only [Act.put]
        refine wpAnyH_ready (rs := [13]) (by kernel_rfl) (by simp) ?_
        refine AllReadyH.cons rfl (fun K hK => ?_) AllReadyH.nil
        go_simp
        go_at_call 15
        refine CS.out.mono ?_
        rintro e w1 ⟨N1, x1, rfl, hg1⟩
        obtain ⟨z1', z2, z3, z4⟩ := HZ.out w1 hg1.bel
        have z7 := fun o => HZA.out w1 hg1.bel o
        have hS1 := HSS2.out w1 hg1.bel
        try dsimp only
        refine hK.out _ _ ?_ (fun hHeld => ?_)
        · exact hS1
        clear hK K
        try simp only [Act.put]
        refine wpAnyH_ready (rs := [14]) (by kernel_rfl) (by simp) ?_
        refine AllReadyH.cons rfl (fun K hK => ?_) AllReadyH.nil
        go_simp
        refine hK.out _ _ ?_ (fun hHeld => ?_)
        · exact HSA2.out w1 hS1 _
        clear hK K
        try simp only [Act.put]
        refine wpAnyH_ready (rs := [15]) (by kernel_rfl) (by simp) ?_
        refine AllReadyH.cons rfl (fun K hK => ?_) AllReadyH.nil
        refine step_pushK tPtrs (by rfl) _ _ (by rfl) w.heap.size (some ⟨g, 0, none⟩) (k + 1) ac _ (by rfl) ((own_below HP.out.row (HDR.out.trans hg1.bel)).alloc _) 1 w1.heap.size _ (heap_alloc_new w1 _) (by rfl) (by rfl) (by simp [Value.oneCell']) (by omega) (by omega) (by omega) (by rw [alloc_size]; have := HP.out.bel.size; have : wA.heap.size ≤ w1.heap.size := hg1.bel.size; omega) ?_
        intro sa sc w3 ho3 hgr3 hno3 hk3
        obtain ⟨z5, z6⟩ := HY.out w1 hg1.bel w3 hgr3
        have hS3 := HSG2.out w1 hg1.bel w3 hgr3 hk3
        refine hK.out _ _ ?_ (fun hHeld => ?_)
        · exact hS3
        clear hK K
        try simp only [Act.put]
        refine wpAnyH_ready (rs := [16]) (by kernel_rfl) (by simp) ?_
        refine AllReadyH.cons rfl (fun K hK => ?_) AllReadyH.nil
        go_simp
        refine hK.out _ _ ?_ (fun hHeld => ?_)
        · exact HSB2.out w3 hS3 _
        clear hK K
        try simp only [Act.put]
        refine wpAnyH_done (by kernel_rfl) ?_ _
        refine NoPanic.normal ?_
        rotate_left
        go_simp
        refine hK.out _ _ ?_ (fun hHeld => ?_)
        · exact hHeld
        clear hK K
        try simp only [Act.put]
        refine wpAnyH_take (i := 4) (v := ?_) rfl (by kernel_rfl) (by kernel_rfl) (by kernel_rfl) (fun _ _ _ h => h) (Or.inl ⟨by rfl, ?_⟩) (by assumption) ?_
        rotate_left
        · (intro w hSw; (try dsimp only at hSw); go_simp; try with_reducible rfl)
        try simp only [Act.put]
        refine wpAnyH_take (i := 5) (v := ?_) rfl (by kernel_rfl) (by kernel_rfl) (by kernel_rfl) (fun _ _ _ h => h) (Or.inl ⟨by rfl, ?_⟩) (by assumption) ?_
        rotate_left
        · (intro w hSw; (try dsimp only at hSw); go_simp; try with_reducible rfl)
        try simp only [Act.put]
        refine wpAnyH_ready (rs := [0, 8]) (by kernel_rfl) (by simp) ?_
        refine AllReadyH.cons rfl (fun K hK => ?_) (AllReadyH.cons rfl (fun K hK => ?_) AllReadyH.nil)
        go_simp
        refine hK.out _ _ ?_ (fun hHeld => ?_)
        · exact hHeld
        clear hK K
        try simp only [Act.put]
        refine wpAnyH_ready (rs := [8]) (by kernel_rfl) (by simp) ?_
        refine AllReadyH.cons rfl (fun K hK => ?_) AllReadyH.nil
        go_simp
        refine hK.out _ _ ?_ (fun hHeld => ?_)
        · exact hHeld
        clear hK K
        try simp only [Act.put]
        refine wpAnyH_take (i := 11) (v := ?_) rfl (by kernel_rfl) (by kernel_rfl) (by kernel_rfl) (fun _ _ _ h => h) (Or.inl ⟨by rfl, ?_⟩) (by assumption) ?_
        rotate_left
        · (intro w hSw; (try dsimp only at hSw); go_simp; try with_reducible rfl)
        try simp only [Act.put]
        refine wpAnyH_take (i := 12) (v := ?_) rfl (by kernel_rfl) (by kernel_rfl) (by kernel_rfl) (fun _ _ _ h => h) (Or.inl ⟨by rfl, ?_⟩) (by assumption) ?_
        rotate_left
        · (intro w hSw; (try dsimp only at hSw); go_simp; try with_reducible rfl)
        try simp only [Act.put]
        refine wpAnyH_ready (rs := [13]) (by kernel_rfl) (by simp) ?_
        refine AllReadyH.cons rfl (fun K hK => ?_) AllReadyH.nil
        go_simp
        go_at_call 15
        refine CS.out.mono ?_
        rintro e w1 ⟨N1, x1, rfl, hg1⟩
        obtain ⟨z1', z2, z3, z4⟩ := HZ.out w1 hg1.bel
        have z7 := fun o => HZA.out w1 hg1.bel o
        have hS1 := HSS2.out w1 hg1.bel
        try dsimp only
        refine hK.out _ _ ?_ (fun hHeld => ?_)
        · exact hS1
        clear hK K
        try simp only [Act.put]
        refine wpAnyH_ready (rs := [14]) (by kernel_rfl) (by simp) ?_
        refine AllReadyH.cons rfl (fun K hK => ?_) AllReadyH.nil
        go_simp
        refine hK.out _ _ ?_ (fun hHeld => ?_)
        · exact HSA2.out w1 hS1 _
        clear hK K
        try simp only [Act.put]
        refine wpAnyH_ready (rs := [15]) (by kernel_rfl) (by simp) ?_
        refine AllReadyH.cons rfl (fun K hK => ?_) AllReadyH.nil
        refine step_pushK tPtrs (by rfl) _ _ (by rfl) w.heap.size (some ⟨g, 0, none⟩) (k + 1) ac _ (by rfl) ((own_below HP.out.row (HDR.out.trans hg1.bel)).alloc _) 1 w1.heap.size _ (heap_alloc_new w1 _) (by rfl) (by rfl) (by simp [Value.oneCell']) (by omega) (by omega) (by omega) (by rw [alloc_size]; have := HP.out.bel.size; have : wA.heap.size ≤ w1.heap.size := hg1.bel.size; omega) ?_
        intro sa sc w3 ho3 hgr3 hno3 hk3
        obtain ⟨z5, z6⟩ := HY.out w1 hg1.bel w3 hgr3
        have hS3 := HSG2.out w1 hg1.bel w3 hgr3 hk3
        refine hK.out _ _ ?_ (fun hHeld => ?_)
        · exact hS3
        clear hK K
        try simp only [Act.put]
        refine wpAnyH_ready (rs := [16]) (by kernel_rfl) (by simp) ?_
        refine AllReadyH.cons rfl (fun K hK => ?_) AllReadyH.nil
        go_simp
        refine hK.out _ _ ?_ (fun hHeld => ?_)
        · exact HSB2.out w3 hS3 _
        clear hK K
        try simp only [Act.put]
        refine wpAnyH_done (by kernel_rfl) ?_ _
        refine NoPanic.normal ?_
        rotate_left
        go_simp
        refine hK.out _ _ ?_ (fun hHeld => ?_)
        · exact hHeld
        clear hK K
        try simp only [Act.put]
        refine wpAnyH_take (i := 11) (v := ?_) rfl (by kernel_rfl) (by kernel_rfl) (by kernel_rfl) (fun _ _ _ h => h) (Or.inl ⟨by rfl, ?_⟩) (by assumption) ?_
        rotate_left
        · (intro w hSw; (try dsimp only at hSw); go_simp; try with_reducible rfl)
        try simp only [Act.put]
        refine wpAnyH_take (i := 12) (v := ?_) rfl (by kernel_rfl) (by kernel_rfl) (by kernel_rfl) (fun _ _ _ h => h) (Or.inl ⟨by rfl, ?_⟩) (by assumption) ?_
        rotate_left
        · (intro w hSw; (try dsimp only at hSw); go_simp; try with_reducible rfl)
        try simp only [Act.put]
        refine wpAnyH_ready (rs := [0, 13]) (by kernel_rfl) (by simp) ?_
        refine AllReadyH.cons rfl (fun K hK => ?_) (AllReadyH.cons rfl (fun K hK => ?_) AllReadyH.nil)
        go_simp
        refine hK.out _ _ ?_ (fun hHeld => ?_)
        · exact hHeld
        clear hK K
        try simp only [Act.put]
        refine wpAnyH_ready (rs := [13]) (by kernel_rfl) (by simp) ?_
        refine AllReadyH.cons rfl (fun K hK => ?_) AllReadyH.nil
        go_simp
        go_at_call 15
        refine CS.out.mono ?_
        rintro e w1 ⟨N1, x1, rfl, hg1⟩
        obtain ⟨z1', z2, z3, z4⟩ := HZ.out w1 hg1.bel
        have z7 := fun o => HZA.out w1 hg1.bel o
        have hS1 := HSS2.out w1 hg1.bel
        try dsimp only
        refine hK.out _ _ ?_ (fun hHeld => ?_)
        · exact hS1
        clear hK K
        try simp only [Act.put]
        refine wpAnyH_ready (rs := [14]) (by kernel_rfl) (by simp) ?_
        refine AllReadyH.cons rfl (fun K hK => ?_) AllReadyH.nil
        go_simp
        refine hK.out _ _ ?_ (fun hHeld => ?_)
        · exact HSA2.out w1 hS1 _
        clear hK K
        try simp only [Act.put]
        refine wpAnyH_ready (rs := [15]) (by kernel_rfl) (by simp) ?_
        refine AllReadyH.cons rfl (fun K hK => ?_) AllReadyH.nil
        refine step_pushK tPtrs (by rfl) _ _ (by rfl) w.heap.size (some ⟨g, 0, none⟩) (k + 1) ac _ (by rfl) ((own_below HP.out.row (HDR.out.trans hg1.bel)).alloc _) 1 w1.heap.size _ (heap_alloc_new w1 _) (by rfl) (by rfl) (by simp [Value.oneCell']) (by omega) (by omega) (by omega) (by rw [alloc_size]; have := HP.out.bel.size; have : wA.heap.size ≤ w1.heap.size := hg1.bel.size; omega) ?_
        intro sa sc w3 ho3 hgr3 hno3 hk3
        obtain ⟨z5, z6⟩ := HY.out w1 hg1.bel w3 hgr3
        have hS3 := HSG2.out w1 hg1.bel w3 hgr3 hk3
        refine hK.out _ _ ?_ (fun hHeld => ?_)
        · exact hS3
        clear hK K
        try simp only [Act.put]
        refine wpAnyH_ready (rs := [16]) (by kernel_rfl) (by simp) ?_
        refine AllReadyH.cons rfl (fun K hK => ?_) AllReadyH.nil
        go_simp
        refine hK.out _ _ ?_ (fun hHeld => ?_)
        · exact HSB2.out w3 hS3 _
        clear hK K
        try simp only [Act.put]
        refine wpAnyH_done (by kernel_rfl) ?_ _
        refine NoPanic.normal ?_
        rotate_left
        go_simp
        go_at_call 15
        refine CS.out.mono ?_
        rintro e w1 ⟨N1, x1, rfl, hg1⟩
        obtain ⟨z1', z2, z3, z4⟩ := HZ.out w1 hg1.bel
        have z7 := fun o => HZA.out w1 hg1.bel o
        have hS1 := HSS2.out w1 hg1.bel
        try dsimp only
        refine hK.out _ _ ?_ (fun hHeld => ?_)
        · exact hS1
        clear hK K
        try simp only [Act.put]
        refine wpAnyH_ready (rs := [0, 14]) (by kernel_rfl) (by simp) ?_
        refine AllReadyH.cons rfl (fun K hK => ?_) (AllReadyH.cons rfl (fun K hK => ?_) AllReadyH.nil)
        go_simp
        refine hK.out _ _ ?_ (fun hHeld => ?_)
        · exact hHeld
        clear hK K
        try simp only [Act.put]
        refine wpAnyH_ready (rs := [14]) (by kernel_rfl) (by simp) ?_
        refine AllReadyH.cons rfl (fun K hK => ?_) AllReadyH.nil
        go_simp
        refine hK.out _ _ ?_ (fun hHeld => ?_)
        · exact HSA2.out w1 hS1 _
        clear hK K
        try simp only [Act.put]
        refine wpAnyH_ready (rs := [15]) (by kernel_rfl) (by simp) ?_
        refine AllReadyH.cons rfl (fun K hK => ?_) AllReadyH.nil
        refine step_pushK tPtrs (by rfl) _ _ (by rfl) w.heap.size (some ⟨g, 0, none⟩) (k + 1) ac _ (by rfl) ((own_below HP.out.row (HDR.out.trans hg1.bel)).alloc _) 1 w1.heap.size _ (heap_alloc_new w1 _) (by rfl) (by rfl) (by simp [Value.oneCell']) (by omega) (by omega) (by omega) (by rw [alloc_size]; have := HP.out.bel.size; have : wA.heap.size ≤ w1.heap.size := hg1.bel.size; omega) ?_
        intro sa sc w3 ho3 hgr3 hno3 hk3
        obtain ⟨z5, z6⟩ := HY.out w1 hg1.bel w3 hgr3
        have hS3 := HSG2.out w1 hg1.bel w3 hgr3 hk3
        refine hK.out _ _ ?_ (fun hHeld => ?_)
        · exact hS3
        clear hK K
        try simp only [Act.put]
        refine wpAnyH_ready (rs := [16]) (by kernel_rfl) (by simp) ?_
        refine AllReadyH.cons rfl (fun K hK => ?_) AllReadyH.nil
        go_simp
        refine hK.out _ _ ?_ (fun hHeld => ?_)
        · exact HSB2.out w3 hS3 _
        clear hK K
        try simp only [Act.put]
        refine wpAnyH_done (by kernel_rfl) ?_ _
        refine NoPanic.normal ?_
        rotate_left
        go_simp
        refine hK.out _ _ ?_ (fun hHeld => ?_)
        · exact HSA2.out w1 hS1 _
        clear hK K
        try simp only [Act.put]
        refine wpAnyH_ready (rs := [0]) (by kernel_rfl) (by simp) ?_
        refine AllReadyH.cons rfl (fun K hK => ?_) AllReadyH.nil
        go_simp
        refine hK.out _ _ ?_ (fun hHeld => ?_)
        · exact hHeld
        clear hK K
        try simp only [Act.put]
        refine wpAnyH_ready (rs := [15]) (by kernel_rfl) (by simp) ?_
        refine AllReadyH.cons rfl (fun K hK => ?_) AllReadyH.nil
        refine step_pushK tPtrs (by rfl) _ _ (by rfl) w.heap.size (some ⟨g, 0, none⟩) (k + 1) ac _ (by rfl) ((own_below HP.out.row (HDR.out.trans hg1.bel)).alloc _) 1 w1.heap.size _ (heap_alloc_new w1 _) (by rfl) (by rfl) (by simp [Value.oneCell']) (by omega) (by omega) (by omega) (by rw [alloc_size]; have := HP.out.bel.size; have : wA.heap.size ≤ w1.heap.size := hg1.bel.size; omega) ?_
        intro sa sc w3 ho3 hgr3 hno3 hk3
        obtain ⟨z5, z6⟩ := HY.out w1 hg1.bel w3 hgr3
        have hS3 := HSG2.out w1 hg1.bel w3 hgr3 hk3
        refine hK.out _ _ ?_ (fun hHeld => ?_)
        · exact hS3
        clear hK K
        try simp only [Act.put]
        refine wpAnyH_ready (rs := [16]) (by kernel_rfl) (by simp) ?_
        refine AllReadyH.cons rfl (fun K hK => ?_) AllReadyH.nil
        go_simp
        refine hK.out _ _ ?_ (fun hHeld => ?_)
        · exact HSB2.out w3 hS3 _
        clear hK K
        try simp only [Act.put]
        refine wpAnyH_done (by kernel_rfl) ?_ _
        refine NoPanic.normal ?_
        rotate_left
        go_simp
        refine hK.out _ _ ?_ (fun hHeld => ?_)
        · exact hHeld
        clear hK K
        try simp only [Act.put]
        refine wpAnyH_take (i := 11) (v := ?_) rfl (by kernel_rfl) (by kernel_rfl) (by kernel_rfl) (fun _ _ _ h => h) (Or.inl ⟨by rfl, ?_⟩) (by assumption) ?_
        rotate_left
        · (intro w hSw; (try dsimp only at hSw); go_simp; try with_reducible rfl)
        try simp only [Act.put]
        refine wpAnyH_take (i := 12) (v := ?_) rfl (by kernel_rfl) (by kernel_rfl) (by kernel_rfl) (fun _ _ _ h => h) (Or.inl ⟨by rfl, ?_⟩) (by assumption) ?_
        rotate_left
        · (intro w hSw; (try dsimp only at hSw); go_simp; try with_reducible rfl)
        try simp only [Act.put]
        refine wpAnyH_ready (rs := [0, 1]) (by kernel_rfl) (by simp) ?_
        refine AllReadyH.cons rfl (fun K hK => ?_) (AllReadyH.cons rfl (fun K hK => ?_) AllReadyH.nil)
        go_simp
        refine hK.out _ _ ?_ (fun hHeld => ?_)
        · exact hHeld
        clear hK K
        try simp only [Act.put]
        refine wpAnyH_ready (rs := [1]) (by kernel_rfl) (by simp) ?_
        refine AllReadyH.cons rfl (fun K hK => ?_) AllReadyH.nil
        go_simp
        refine hK.out _ _ ?_ (fun hHeld => ?_)
        · exact hHeld
        clear hK K
        try simp only [Act.put]
        refine wpAnyH_take (i := 4) (v := ?_) rfl (by kernel_rfl) (by kernel_rfl) (by kernel_rfl) (fun _ _ _ h => h) (Or.inl ⟨by rfl, ?_⟩) (by assumption) ?_
        rotate_left
        · (intro w hSw; (try dsimp only at hSw); go_simp; try with_reducible rfl)
        try simp only [Act.put]
        refine wpAnyH_take (i := 5) (v := ?_) rfl (by kernel_rfl) (by kernel_rfl) (by kernel_rfl) (fun _ _ _ h => h) (Or.inl ⟨by rfl, ?_⟩) (by assumption) ?_
        rotate_left
        · (intro w hSw; (try dsimp only at hSw); go_simp; try with_reducible rfl)
        try simp only [Act.put]
        refine wpAnyH_ready (rs := [13]) (by kernel_rfl) (by simp) ?_
        refine AllReadyH.cons rfl (fun K hK => ?_) AllReadyH.nil
        go_simp
        go_at_call 15
        refine CS.out.mono ?_
        rintro e w1 ⟨N1, x1, rfl, hg1⟩
        obtain ⟨z1', z2, z3, z4⟩ := HZ.out w1 hg1.bel
        have z7 := fun o => HZA.out w1 hg1.bel o
        have hS1 := HSS2.out w1 hg1.bel
        try dsimp only
        refine hK.out _ _ ?_ (fun hHeld => ?_)
        · exact hS1
        clear hK K
        try simp only [Act.put]
        refine wpAnyH_ready (rs := [14]) (by kernel_rfl) (by simp) ?_
        refine AllReadyH.cons rfl (fun K hK => ?_) AllReadyH.nil
        go_simp
        refine hK.out _ _ ?_ (fun hHeld => ?_)
        · exact HSA2.out w1 hS1 _
        clear hK K
        try simp only [Act.put]
        refine wpAnyH_ready (rs := [15]) (by kernel_rfl) (by simp) ?_
        refine AllReadyH.cons rfl (fun K hK => ?_) AllReadyH.nil
        refine step_pushK tPtrs (by rfl) _ _ (by rfl) w.heap.size (some ⟨g, 0, none⟩) (k + 1) ac _ (by rfl) ((own_below HP.out.row (HDR.out.trans hg1.bel)).alloc _) 1 w1.heap.size _ (heap_alloc_new w1 _) (by rfl) (by rfl) (by simp [Value.oneCell']) (by omega) (by omega) (by omega) (by rw [alloc_size]; have := HP.out.bel.size; have : wA.heap.size ≤ w1.heap.size := hg1.bel.size; omega) ?_
        intro sa sc w3 ho3 hgr3 hno3 hk3
        obtain ⟨z5, z6⟩ := HY.out w1 hg1.bel w3 hgr3
        have hS3 := HSG2.out w1 hg1.bel w3 hgr3 hk3
        refine hK.out _ _ ?_ (fun hHeld => ?_)
        · exact hS3
        clear hK K
        try simp only [Act.put]
        refine wpAnyH_ready (rs := [16]) (by kernel_rfl) (by simp) ?_
        refine AllReadyH.cons rfl (fun K hK => ?_) AllReadyH.nil
        go_simp
        refine hK.out _ _ ?_ (fun hHeld => ?_)
        · exact HSB2.out w3 hS3 _
        clear hK K
        try simp only [Act.put]
        refine wpAnyH_done (by kernel_rfl) ?_ _
        refine NoPanic.normal ?_
        rotate_left
        go_simp
        refine hK.out _ _ ?_ (fun hHeld => ?_)
        · exact hHeld
        clear hK K
        try simp only [Act.put]
        refine wpAnyH_take (i := 4) (v := ?_) rfl (by kernel_rfl) (by kernel_rfl) (by kernel_rfl) (fun _ _ _ h => h) (Or.inl ⟨by rfl, ?_⟩) (by assumption) ?_
        rotate_left
        · (intro w hSw; (try dsimp only at hSw); go_simp; try with_reducible rfl)
        try simp only [Act.put]
        refine wpAnyH_take (i := 5) (v := ?_) rfl (by kernel_rfl) (by kernel_rfl) (by kernel_rfl) (fun _ _ _ h => h) (Or.inl ⟨by rfl, ?_⟩) (by assumption) ?_
        rotate_left
        · (intro w hSw; (try dsimp only at hSw); go_simp; try with_reducible rfl)
        try simp only [Act.put]
        refine wpAnyH_ready (rs := [0, 13]) (by kernel_rfl) (by simp) ?_
        refine AllReadyH.cons rfl (fun K hK => ?_) (AllReadyH.cons rfl (fun K hK => ?_) AllReadyH.nil)
        go_simp
        refine hK.out _ _ ?_ (fun hHeld => ?_)
        · exact hHeld
        clear hK K
        try simp only [Act.put]
        refine wpAnyH_ready (rs := [13]) (by kernel_rfl) (by simp) ?_
        refine AllReadyH.cons rfl (fun K hK => ?_) AllReadyH.nil
        go_simp
        go_at_call 15
        refine CS.out.mono ?_
        rintro e w1 ⟨N1, x1, rfl, hg1⟩
        obtain ⟨z1', z2, z3, z4⟩ := HZ.out w1 hg1.bel
        have z7 := fun o => HZA.out w1 hg1.bel o
        have hS1 := HSS2.out w1 hg1.bel
        try dsimp only
        refine hK.out _ _ ?_ (fun hHeld => ?_)
        · exact hS1
        clear hK K
        try simp only [Act.put]
        refine wpAnyH_ready (rs := [14]) (by kernel_rfl) (by simp) ?_
        refine AllReadyH.cons rfl (fun K hK => ?_) AllReadyH.nil
        go_simp
        refine hK.out _ _ ?_ (fun hHeld => ?_)
        · exact HSA2.out w1 hS1 _
        clear hK K
        try simp only [Act.put]
        refine wpAnyH_ready (rs := [15]) (by kernel_rfl) (by simp) ?_
        refine AllReadyH.cons rfl (fun K hK => ?_) AllReadyH.nil
        refine step_pushK tPtrs (by rfl) _ _ (by rfl) w.heap.size (some ⟨g, 0, none⟩) (k + 1) ac _ (by rfl) ((own_below HP.out.row (HDR.out.trans hg1.bel)).alloc _) 1 w1.heap.size _ (heap_alloc_new w1 _) (by rfl) (by rfl) (by simp [Value.oneCell']) (by omega) (by omega) (by omega) (by rw [alloc_size]; have := HP.out.bel.size; have : wA.heap.size ≤ w1.heap.size := hg1.bel.size; omega) ?_
        intro sa sc w3 ho3 hgr3 hno3 hk3
        obtain ⟨z5, z6⟩ := HY.out w1 hg1.bel w3 hgr3
        have hS3 := HSG2.out w1 hg1.bel w3 hgr3 hk3
        refine hK.out _ _ ?_ (fun hHeld => ?_)
        · exact hS3
        clear hK K
        try simp only [Act.put]
        refine wpAnyH_ready (rs := [16]) (by kernel_rfl) (by simp) ?_
        refine AllReadyH.cons rfl (fun K hK => ?_) AllReadyH.nil
        go_simp
        refine hK.out _ _ ?_ (fun hHeld => ?_)
        · exact HSB2.out w3 hS3 _
        clear hK K
        try simp only [Act.put]
        refine wpAnyH_done (by kernel_rfl) ?_ _
        refine NoPanic.normal ?_
        rotate_left
        go_simp
        go_at_call 15
        refine CS.out.mono ?_
        rintro e w1 ⟨N1, x1, rfl, hg1⟩
        obtain ⟨z1', z2, z3, z4⟩ := HZ.out w1 hg1.bel
        have z7 := fun o => HZA.out w1 hg1.bel o
        have hS1 := HSS2.out w1 hg1.bel
        try dsimp only
        refine hK.out _ _ ?_ (fun hHeld => ?_)
        · exact hS1
        clear hK K
        try simp only [Act.put]
        refine wpAnyH_ready (rs := [0, 14]) (by kernel_rfl) (by simp) ?_
        refine AllReadyH.cons rfl (fun K hK => ?_) (AllReadyH.cons rfl (fun K hK => ?_) AllReadyH.nil)
        go_simp
        refine hK.out _ _ ?_ (fun hHeld => ?_)
        · exact hHeld
        clear hK K
        try simp only [Act.put]
        refine wpAnyH_ready (rs := [14]) (by kernel_rfl) (by simp) ?_
        refine AllReadyH.cons rfl (fun K hK => ?_) AllReadyH.nil
        go_simp
        refine hK.out _ _ ?_ (fun hHeld => ?_)
        · exact HSA2.out w1 hS1 _
        clear hK K
        try simp only [Act.put]
        refine wpAnyH_ready (rs := [15]) (by kernel_rfl) (by simp) ?_
        refine AllReadyH.cons rfl (fun K hK => ?_) AllReadyH.nil
        refine step_pushK tPtrs (by rfl) _ _ (by rfl) w.heap.size (some ⟨g, 0, none⟩) (k + 1) ac _ (by rfl) ((own_below HP.out.row (HDR.out.trans hg1.bel)).alloc _) 1 w1.heap.size _ (heap_alloc_new w1 _) (by rfl) (by rfl) (by simp [Value.oneCell']) (by omega) (by omega) (by omega) (by rw [alloc_size]; have := HP.out.bel.size; have : wA.heap.size ≤ w1.heap.size := hg1.bel.size; omega) ?_
        intro sa sc w3 ho3 hgr3 hno3 hk3
        obtain ⟨z5, z6⟩ := HY.out w1 hg1.bel w3 hgr3
        have hS3 := HSG2.out w1 hg1.bel w3 hgr3 hk3
        refine hK.out _ _ ?_ (fun hHeld => ?_)
        · exact hS3
        clear hK K
        try simp only [Act.put]
        refine wpAnyH_ready (rs := [16]) (by kernel_rfl) (by simp) ?_
        refine AllReadyH.cons rfl (fun K hK => ?_) AllReadyH.nil
        go_simp
        refine hK.out _ _ ?_ (fun hHeld => ?_)
        · exact HSB2.out w3 hS3 _
        clear hK K
        try simp only [Act.put]
        refine wpAnyH_done (by kernel_rfl) ?_ _
        refine NoPanic.normal ?_
        rotate_left
        go_simp
        refine hK.out _ _ ?_ (fun hHeld => ?_)
        · exact HSA2.out w1 hS1 _
        clear hK K
        try simp only [Act.put]
        refine wpAnyH_ready (rs := [0]) (by kernel_rfl) (by simp) ?_
        refine AllReadyH.cons rfl (fun K hK => ?_) AllReadyH.nil
        go_simp
        refine hK.out _ _ ?_ (fun hHeld => ?_)
        · exact hHeld
        clear hK K
        try simp only [Act.put]
        refine wpAnyH_ready (rs := [15]) (by kernel_rfl) (by simp) ?_
        refine AllReadyH.cons rfl (fun K hK => ?_) AllReadyH.nil
        refine step_pushK tPtrs (by rfl) _ _ (by rfl) w.heap.size (some ⟨g, 0, none⟩) (k + 1) ac _ (by rfl) ((own_below HP.out.row (HDR.out.trans hg1.bel)).alloc _) 1 w1.heap.size _ (heap_alloc_new w1 _) (by rfl) (by rfl) (by simp [Value.oneCell']) (by omega) (by omega) (by omega) (by rw [alloc_size]; have := HP.out.bel.size; have : wA.heap.size ≤ w1.heap.size := hg1.bel.size; omega) ?_
        intro sa sc w3 ho3 hgr3 hno3 hk3
        obtain ⟨z5, z6⟩ := HY.out w1 hg1.bel w3 hgr3
        have hS3 := HSG2.out w1 hg1.bel w3 hgr3 hk3
        refine hK.out _ _ ?_ (fun hHeld => ?_)
        · exact hS3
        clear hK K
        try simp only [Act.put]
        refine wpAnyH_ready (rs := [16]) (by kernel_rfl) (by simp) ?_
        refine AllReadyH.cons rfl (fun K hK => ?_) AllReadyH.nil
        go_simp
        refine hK.out _ _ ?_ (fun hHeld => ?_)
        · exact HSB2.out w3 hS3 _
        clear hK K
        try simp only [Act.put]
        refine wpAnyH_done (by kernel_rfl) ?_ _
        refine NoPanic.normal ?_
        rotate_left
        all_goals
          have hg1' := hg1.drew
          obtain ⟨p1, p2, p3, p4, p5, p6, p7⟩ := HP.out.push HVL.out HBL.out hb7 hg1' (below_alloc (Nat.le_refl _) _) ho3 hgr3
          have HQ1 := Kp.mk p1
          have HQ2 := Kp.mk p2
          have HQ3 := Kp.mk p3
          have HQ4 := Kp.mk p4
          have HQ5 := Kp.mk p5
          have HQ6 := Kp.mk p6
          rw [← HSV.out] at p7
          have HQ7 := Kp.mk p7
          have HQ8 := Kp.mk (show N1.length = (verT l cs (k + 1)).2 from by rw [hg1'.len, HSN.out])
          have hsz := HQ2.out.size
          clear p1 p2 p3 p4 p5 p6 p7 hg1 hg1' ho3 hgr3 hno3 hk3 z5 z6 z1 z1' z2 z3 z4 z7 CS hS1 hS3 hHeld q0 q1 q2 q3 q4 r1 r2
          go_upto_region 21 with (fail)
          generalize w3.setCell ⟨b7, 0, none⟩ (.slice sa (k + 1 + 1) sc) = w4 at *
          go_wp2_with (at_builtin; refine wpList_pushS tErrs rfl _ _ rfl w.heap.size xa k xc _ rfl HQ5.out 1 _ rfl rfl ?y1 ?y2 (by decide) hsz ?y4)
          case y1 => simp [Value.oneCell']
          case y2 => omega
          case y4 =>
            intro ya yc w5 ho5 hgr5 hno5
            have HPN := Kp.mk (PlM.code (V := verT l cs (k + 1)) HQ2.out HQ3.out HQ4.out HQ5.out HQ6.out HQ8.out HQ7.out rfl ho5 hgr5)
            clear ho5 hgr5 hno5
            go_wp2
            go_roundw
            case rel => exact ⟨k + 1, ya, yc, sa, sc, N1, bs ++ [x1], by omega, by go_num, rfl, HQ1, HPN⟩
            case measure => simp [intOf]; omega

end Go.Proofs.Ytdjcmemdlmfgpaa
