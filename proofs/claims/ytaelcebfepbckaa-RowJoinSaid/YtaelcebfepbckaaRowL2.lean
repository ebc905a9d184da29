/- The walk of RowJoin. -/
import Derived.Test.YtaelcebfepbckaaRowK
import Derived.Test.YtaelcebfepbckaaRank
namespace Go.Proofs.Ytaelcebfepbckaa
set_option linter.unusedVariables false
open Go.RowKit

set_option maxRecDepth 100000 in
set_option maxHeartbeats 1000000 in
theorem walk_RowJoin (a0 : Option Addr) (len0 cap0 : Nat) (z0 : Nat → Bool) (a1 : Option Addr) (len1 cap1 : Nat) (z1 : Nat → Bool) (a2 : Int) (w : World) (w0 : IsBools w a0 len0 cap0 z0) (w1 : IsBools w a1 len1 cap1 z1) (w2 : (Lit.int .i64 a2).wf = true) :
    Calls Try.prog 7 #[.slice a0 len0 cap0, .slice a1 len1 cap1, .int .i64 a2] w fun e w' => e = .returned (.bool true) ∧ Below w.heap.size w w' := by
  obtain ⟨l0, -, hl0, nl0⟩ := row_bools w0
  obtain ⟨l1, -, hl1, nl1⟩ := row_bools w1
  obtain ⟨b1, b2⟩ := wf_bd w2
  have HL0 := Kp.mk hl0
  have HL1 := Kp.mk hl1
  unfold maxLen at nl0 nl1
  clear w0 w1 w2 hl0 hl1
  go_enter Try.func7, Try.ntmps7
  go_wp2_with fail
  refine (flags_any a0 cap0 len0 200 l0 w HL0.out (by omega) (by omega)).mono ?_
  rintro e wa ⟨sf, cf, rfl, hof, hb⟩
  have hm200 : min len0 200 ≤ 200 := Nat.min_le_right _ _
  generalize l0.take (min len0 200) = E at *
  generalize min len0 200 = n at *
  have HF := Kp.mk hof.sl
  have HB := Kp.mk hb
  have HN := Kp.mk hof.len
  clear hof hb
  go_wp2_with fail
  refine (flags_any a1 cap1 len1 200 l1 _ (HL1.out.below HB.out) (by omega) (by omega)).mono ?_
  rintro e wb ⟨sg, cg, rfl, hog, hb⟩
  have hm201 : min len1 200 ≤ 200 := Nat.min_le_right _ _
  generalize l1.take (min len1 200) = G at *
  generalize min len1 200 = m at *
  have HF2 := Kp.mk (HF.out.below hb)
  have HG := Kp.mk hog.sl
  have HB2 := Kp.mk (below_step HB.out hb)
  have HM := Kp.mk hog.len
  clear hog hb HB HF
  unfold SlBo at HF2
  go_wp2_with (at_builtin; refine wpList_cat tBools rfl _ _ rfl wb.heap.size none 0 0 [] rfl (World.ownsRow_nil _ _ _ _) _ _ _ _ rfl HF2.out (bls_one _) ?c1 (by decide) (Nat.le_refl _) ?c2)
  case c1 => omega
  case c2 =>
    intro sh ch wc hown hbel
    have HO := Kp.mk hown
    have hsz : Kp (wb.heap.size ≤ wc.heap.size) := ⟨hbel.size⟩
    have HGc := Kp.mk (HG.out.below hbel)
    have HBc := Kp.mk hbel
    unfold SlBo at HGc
    clear hown hbel
    go_wp2_with (at_builtin; refine wpList_cat tBools rfl _ _ rfl wb.heap.size _ _ _ _ rfl HO.out _ _ _ _ rfl HGc.out (bls_one _) ?d1 (by decide) hsz.out ?d2)
    case d1 => omega
    case d2 =>
      intro sz cz wd hown hbel
      have HZ : Kp (SlBo wd sz (n + m) cz (E ++ G)) := ⟨by
        unfold SlBo
        rw [bls_append]
        exact own_slc hown⟩
      have hqq : n + m ≤ 400 := by omega
      generalize hq : n + m = q at *
      have e2 : (n : Int) + (m : Int) = (q : Int) := by omega
      have HQ := Kp.mk hq
      clear hq
      have hbd := HBc.out.trans hbel
      have HFd := Kp.mk (SlC.below HF2.out hbd)
      have HGd := Kp.mk (HG.out.below hbd)
      have HBd := Kp.mk (below_step HB2.out hbd)
      clear hown hbel hbd HBc HGc HO hsz HF2 HG HB2
      go_wp2_with fail
      refine (row_any sf cf n E _ HFd.out (by omega)).mono ?_
      rintro e we ⟨sx, cx, rfl, hox, hbx⟩
      have hal := below_alloc (Nat.le_refl we.heap.size) (Obj.cells #[Value.int IntKind.i64 ↑n, Value.slice sx (bwN n) cx] 57)
      have hbb := below_step hbx hal
      have HX := Kp.mk (own_below hox hal)
      have HGe := Kp.mk (HGd.out.below hbb)
      have HZe := Kp.mk (HZ.out.below hbb)
      have HBe := Kp.mk (below_step HBd.out hbb)
      have HX1 := Kp.mk (Box.new we #[Value.int IntKind.i64 ↑n, Value.slice sx (bwN n) cx] 57)
      clear hox hbx hal hbb HGd HZ HBd HFd
      go_wp2_with fail
      refine (row_any sg cg m G _ HGe.out (by omega)).mono ?_
      rintro e wf ⟨sy, cy, rfl, hoy, hby⟩
      have hal := below_alloc (Nat.le_refl wf.heap.size) (Obj.cells #[Value.int IntKind.i64 ↑m, Value.slice sy (bwN m) cy] 57)
      have hwe1 : we.heap.size < wf.heap.size := by have := hby.size; rw [alloc_size] at this; omega
      have hbb := below_step hby hal
      have HXf := Kp.mk (own_below HX.out hbb)
      have HX1f := Kp.mk (HX1.out.below hbb)
      have HY := Kp.mk (own_below hoy hal)
      have HZf := Kp.mk (HZe.out.below hbb)
      have HBf := Kp.mk (below_step HBe.out hbb)
      have HY1 := Kp.mk (Box.new wf #[Value.int IntKind.i64 ↑m, Value.slice sy (bwN m) cy] 57)
      clear hoy hby hal hbb HGe HZe HBe HX HX1
      go_wp2_with fail
      refine (row_any sz cz q (E ++ G) _ HZf.out (by omega)).mono ?_
      rintro e wg ⟨sv, cv, rfl, hov, hbv⟩
      have hal := below_alloc (Nat.le_refl wg.heap.size) (Obj.cells #[Value.int IntKind.i64 (q : Int), Value.slice sv (bwN q) cv] 57)
      have hwe2 : wf.heap.size < wg.heap.size := by have := hbv.size; rw [alloc_size] at this; omega
      have hbb := below_step hbv hal
      have HXg := Kp.mk (own_below HXf.out hbb)
      have HX1g := Kp.mk (HX1f.out.below hbb)
      have HYg := Kp.mk (own_below HY.out hbb)
      have HY1g := Kp.mk (HY1.out.below hbb)
      have HV := Kp.mk (own_below hov hal)
      have HBg := Kp.mk (below_step HBf.out hbb)
      have HV1 := Kp.mk (Box.new wg #[Value.int IntKind.i64 (q : Int), Value.slice sv (bwN q) cv] 57)
      clear hov hbv hal hbb HXf HX1f HY HY1 HBf HZf
      have hpb := pick_bd a2 ((q : Int) + 1) (by omega)
      obtain ⟨k, hk⟩ : ∃ k' : Nat, pick a2 ((q : Int) + 1) = k' := ⟨_, (Int.toNat_of_nonneg hpb.1).symm⟩
      have hkn : k ≤ q := by omega
      have HK := Kp.mk hk
      clear hpb hk
      have hcat := Kp.mk (cntB_append E G k)
      rw [HN.out] at hcat
      have hEG : Kp ((E ++ G).length = q) := ⟨by rw [List.length_append, HN.out, HM.out]; exact HQ.out⟩
      go_wp2_with fail
      refine (picked_any a2 (q + 1) _ (by omega) (by omega) b1 b2).mono ?_
      rintro e w' ⟨rfl, rfl⟩
      rw [HK.out]
      have C3 : ∀ W, Below (wg.alloc (Obj.cells #[Value.int IntKind.i64 (q : Int), Value.slice sv (bwN q) cv] 57)).heap.size (wg.alloc (Obj.cells #[Value.int IntKind.i64 (q : Int), Value.slice sv (bwN q) cv] 57)) W →
          Calls Try.prog 30 #[.agg #[.int .i64 q, .slice sv (bwN q) cv], .int .i64 k] W (fun e w' => e = .returned (.tuple #[.int .i64 (cntB (E ++ G) k : Nat), .int .i64 0]) ∧ Below W.heap.size W w') := fun W hW => by
        have h1 := brank_ok _ sv (bwN q) cv q k (bitsN (E ++ G) q) W rfl (own_below HV.out hW) (by omega) (by omega) (bitsN_lt _ _)
        have h2 := pcn_bits (E ++ G) k (by rw [hEG.out]; exact hkn)
        rw [hEG.out] at h2
        rwa [h2] at h1
      have C1 : ∀ W i, i ≤ n → Below (wg.alloc (Obj.cells #[Value.int IntKind.i64 (q : Int), Value.slice sv (bwN q) cv] 57)).heap.size (wg.alloc (Obj.cells #[Value.int IntKind.i64 (q : Int), Value.slice sv (bwN q) cv] 57)) W →
          Calls Try.prog 30 #[.agg #[.int .i64 n, .slice sx (bwN n) cx], .int .i64 i] W (fun e w' => e = .returned (.tuple #[.int .i64 (cntB E i : Nat), .int .i64 0]) ∧ Below W.heap.size W w') := fun W i hi hW => by
        have h1 := brank_ok _ sx (bwN n) cx n i (bitsN E n) W rfl (own_below HXg.out hW) (by omega) (by omega) (bitsN_lt _ _)
        have h2 := pcn_bits E i (by rw [HN.out]; exact hi)
        rw [HN.out] at h2
        rwa [h2] at h1
      have C2 : ∀ W i, i ≤ m → Below (wg.alloc (Obj.cells #[Value.int IntKind.i64 (q : Int), Value.slice sv (bwN q) cv] 57)).heap.size (wg.alloc (Obj.cells #[Value.int IntKind.i64 (q : Int), Value.slice sv (bwN q) cv] 57)) W →
          Calls Try.prog 30 #[.agg #[.int .i64 m, .slice sy (bwN m) cy], .int .i64 i] W (fun e w' => e = .returned (.tuple #[.int .i64 (cntB G i : Nat), .int .i64 0]) ∧ Below W.heap.size W w') := fun W i hi hW => by
        have h1 := brank_ok _ sy (bwN m) cy m i (bitsN G m) W rfl (own_below HYg.out hW) (by omega) (by omega) (bitsN_lt _ _)
        have h2 := pcn_bits G i (by rw [HM.out]; exact hi)
        rw [HM.out] at h2
        rwa [h2] at h1
      have HC1 := Kp.mk C1
      have HC2 := Kp.mk C2
      have HC3 := Kp.mk C3
      clear C1 C2 C3 HXg HYg HV
      generalize wg.alloc (Obj.cells #[Value.int IntKind.i64 (q : Int), Value.slice sv (bwN q) cv] 57) = W at *
      obtain ⟨⟨x0, x1⟩, -⟩ := box2 HX1g.out
      have hcase : ∃ i1 i2 : Nat, i1 ≤ n ∧ i2 ≤ m ∧ cntB (E ++ G) k = cntB E i1 + cntB G i2 ∧ ((k ≤ n ∧ i1 = k ∧ i2 = 0) ∨ (n < k ∧ i1 = n ∧ i2 = k - n)) := by
        have hc := hcat.out
        by_cases hkn2 : k ≤ n
        · refine ⟨k, 0, hkn2, Nat.zero_le _, ?_, .inl ⟨hkn2, rfl, rfl⟩⟩
          rw [hc, Nat.min_eq_left hkn2, Nat.sub_eq_zero_of_le hkn2]
        · refine ⟨n, k - n, Nat.le_refl _, by omega, ?_, .inr ⟨by omega, rfl, rfl⟩⟩
          rw [hc, Nat.min_eq_right (by omega)]
      obtain ⟨i1, i2, hi1, hi2, hsum, hor⟩ := hcase
      have HSUM := Kp.mk hsum
      have hb1 := cntB_le E i1
      have hb2 := cntB_le G i2
      clear hsum
      rcases hor with ⟨hkn2, h1, h2⟩ | ⟨hkn2, h1, h2⟩
      · subst h1
        subst h2
        go_wp2_with fail
        refine (HC1.out W i1 hi1 (Below.refl _ _)).mono ?_
        rintro e w1 ⟨rfl, hbb⟩
        obtain ⟨⟨y0, y1⟩, -⟩ := box2 (HY1g.out.below hbb)
        have HB1 := Kp.mk hbb
        clear hbb x0 x1
        go_wp2_with fail
        refine (HC2.out w1 0 hi2 HB1.out).mono ?_
        rintro e w2 ⟨rfl, hbb⟩
        have HB2 := Kp.mk (below_step HB1.out hbb)
        obtain ⟨⟨v0, v1⟩, -⟩ := box2 (HV1.out.below HB2.out)
        clear hbb y0 y1
        go_wp2_with fail
        refine (HC3.out w2 HB2.out).mono ?_
        rintro e w3 ⟨rfl, hbb⟩
        have HB3 := Kp.mk (below_step HBg.out (below_step HB2.out hbb))
        have hs := HSUM.out
        clear hbb v0 v1 HSUM
        generalize cntB (E ++ G) i1 = u at *
        generalize cntB E i1 = u1 at *
        generalize cntB G 0 = u2 at *
        have t1 : ((u1 : Int) + (u2 : Int) == (u : Int)) = true := beq_iff_eq.2 (by omega)
        clear hs
        go_wp2
        go_ret
        exact ⟨rfl, HB3.out⟩
      · subst h1
        have e5 : (k : Int) - (i1 : Int) = (i2 : Int) := by omega
        have e6 : ((i2 : Nat) : Int) = ((i2 : Nat) : Int) := rfl
        clear h2
        go_wp2_with fail
        refine (HC1.out W i1 hi1 (Below.refl _ _)).mono ?_
        rintro e w1 ⟨rfl, hbb⟩
        obtain ⟨⟨y0, y1⟩, -⟩ := box2 (HY1g.out.below hbb)
        have HB1 := Kp.mk hbb
        clear hbb x0 x1
        go_wp2_with fail
        refine (HC2.out w1 i2 hi2 HB1.out).mono ?_
        rintro e w2 ⟨rfl, hbb⟩
        have HB2 := Kp.mk (below_step HB1.out hbb)
        obtain ⟨⟨v0, v1⟩, -⟩ := box2 (HV1.out.below HB2.out)
        clear hbb y0 y1
        go_wp2_with fail
        refine (HC3.out w2 HB2.out).mono ?_
        rintro e w3 ⟨rfl, hbb⟩
        have HB3 := Kp.mk (below_step HBg.out (below_step HB2.out hbb))
        have hs := HSUM.out
        clear hbb v0 v1 HSUM
        generalize cntB (E ++ G) k = u at *
        generalize cntB E i1 = u1 at *
        generalize cntB G i2 = u2 at *
        have t1 : ((u1 : Int) + (u2 : Int) == (u : Int)) = true := beq_iff_eq.2 (by omega)
        clear hs
        go_wp2
        go_ret
        exact ⟨rfl, HB3.out⟩

end Go.Proofs.Ytaelcebfepbckaa
