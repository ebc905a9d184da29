import Derived.Test.YtedchegejalolaaGreatDoorMp5
import Derived.Test.YtedchegejalolaaGreatDoorMp9
import Derived.Test.YtedchegejalolaaGreatDoorMp1
import Derived.Test.YtedchegejalolaaGreatDoorMp35
import Derived.Test.YtedchegejalolaaGreatDoorMp2
/- desk: Run. -/
namespace Go.Proofs.YtedchegejalolaaGreatDoor.Dk
set_option linter.unusedVariables false
open Go.RowKit

theorem trim_end (t : Wd) : Lib.trimSuffix (t ++ [10]) [10] = t := by
  unfold Lib.trimSuffix Lib.hasSuffix
  rw [if_pos (by rw [List.isSuffixOf_iff_suffix]; exact List.suffix_append t [10])]
  simp
theorem bcr_str (x y : Wd) : Lib.byteCells x ++ Lib.strCells ⟨y.toArray⟩ = Lib.byteCells (x ++ y) := by simp [Lib.byteCells, Lib.strCells]
/-- A builder stays where blocks of other types change. -/
theorem bldAt_chg {F : Nat → Prop} {B b : Nat} {p : Value} {bs : List Value} {w w' : World} (h : Lib.BuilderAt 48 5 B b p bs w) (hc : Chg F w w') (hF : ∀ k, F k → ∃ e, e ≠ 5 ∧ e ≠ 48 ∧ TyAt w k e) : Lib.BuilderAt 48 5 B b p bs w' := by
  obtain ⟨hB, v, hbk, hown, hne⟩ := h
  refine ⟨hB, v, ?_, ?_, hne⟩
  · rw [hc.block b (Array.getElem?_eq_some_iff.1 hbk).1 (fun e => by
      obtain ⟨t, _, h2, h3⟩ := hF b e
      exact TyAt.ne ⟨_, hbk⟩ h3 (Ne.symm h2) rfl)]
    exact hbk
  · refine ⟨hown.1, ?_⟩
    rcases hown.2 with h0 | ⟨g, cap, cur, hv, hB2, hgb, h1, h2, h3, h4⟩
    · exact .inl h0
    · refine .inr ⟨g, cap, cur, hv, hB2, ?_, h1, h2, h3, h4⟩
      rw [hc.block g (Array.getElem?_eq_some_iff.1 hgb).1 (fun e => by
        obtain ⟨t, h5, _, h6⟩ := hF g e
        exact TyAt.ne ⟨_, hgb⟩ h6 (Ne.symm h5) rfl)]
      exact hgb
theorem bld_chg {F : Nat → Prop} {B b : Nat} {bs : List Value} {w w' : World} (h : Lib.IsBuilder 48 5 B b bs w) (hc : Chg F w w') (hF : ∀ k, F k → ∃ e, e ≠ 5 ∧ e ≠ 48 ∧ TyAt w k e) : Lib.IsBuilder 48 5 B b bs w' := by
  rcases h with h | h
  · exact .inl (bldAt_chg h hc hF)
  · exact .inr (bldAt_chg h hc hF)
theorem DS.types {w : World} {B db pc : Nat} {pa : Option Addr} {L : List Pt} (h : DS w B db pa pc L) : ∀ k, Fd db pa k → ∃ e, e ≠ 5 ∧ e ≠ 48 ∧ TyAt w k e := fun k hk => by
  rcases hk with rfl | hk
  · exact ⟨44, by decide, by decide, ⟨_, h.box⟩⟩
  · exact ⟨78, by decide, by decide, (ty_own h.row hk).1⟩
theorem DS.low {w : World} {B db pc : Nat} {pa : Option Addr} {L : List Pt} (h : DS w B db pa pc L) : ∀ k, Fd db pa k → B ≤ k := fun k hk => by
  rcases hk with rfl | hk
  · exact h.lo
  · exact (ty_own h.row hk).2
/-- A desk stays where a builder writes. -/
theorem DS.kept8 {w w' : World} {B db pc b : Nat} {pa : Option Addr} {L : List Pt} (h : DS w B db pa pc L) (hk : Kept8 b w w') (hb : TyAt w b 48) : DS w' B db pa pc L := by
  refine ⟨?_, ⟨h.row.1, ?_⟩, h.lo⟩
  · exact (hk.same db h.box.lt (TyAt.ne ⟨_, h.box⟩ hb (by decide)) (fun cs fr e => by
      have := h.box
      unfold Box at this
      rw [this] at e; cases e)).trans h.box
  · rcases h.row.2 with h0 | ⟨g, cap, cur, hv, hB, hgb, h1, h2, h3, h4⟩
    · exact .inl h0
    · refine .inr ⟨g, cap, cur, hv, hB, ?_, h1, h2, h3, h4⟩
      rw [hk.same g (Array.getElem?_eq_some_iff.1 hgb).1 (TyAt.ne ⟨_, hgb⟩ hb (by decide)) (fun cs fr e => by rw [hgb] at e; cases e)]
      exact hgb
theorem bld_ty {B b : Nat} {bs : List Value} {w : World} (h : Lib.IsBuilder 48 5 B b bs w) : TyAt w b 48 := by
  obtain ⟨q, hq⟩ := isBld_heap h
  exact ⟨_, hq⟩
theorem run_none (w : World) : Calls Tryz.prog 7 #[str []] w fun e w' => e = .returned (.tuple #[str [], .int .i64 0]) ∧ Kp (Below w.heap.size w w') := by
  go_enter Tryz.func7, Tryz.ntmps7
  go_wp2
  refine bodyPost_ret (v := .tuple #[str [], .int .i64 0]) (by simp [results, Tryz.results7, go_sem]) rfl ?_
  exact ⟨rfl, ⟨Below.refl _ _⟩⟩

set_option maxRecDepth 100000 in
set_option maxHeartbeats 16000000 in
theorem run_some (A : List Cmd) (hA : ∀ c ∈ A, c.Ok) (hl : A.length ≤ 60) (h0 : A ≠ []) (w : World) (hT : Tab w) (hBig : Big w) :
    Calls Tryz.prog 7 #[str (textOf A)] w fun e w' => e = .returned (.tuple #[str (tell [] A), .int .i64 0]) ∧ Kp (Below w.heap.size w w') := by
  have htl := textOf_len A hA
  have HJ := textOf_join A h0
  have hjl : (joinC 10 (A.map (·.t))).length ≤ 24060 := by
    rw [HJ, List.length_append] at htl
    omega
  have hne : (textOf A == []) = false := by
    rw [beq_eq_false_iff_ne, HJ]
    intro e
    simp at e
  have CTR := Kp.mk (Tryz.strings_TrimSuffix ⟨(textOf A).toArray⟩ ⟨#[10]⟩ w (by have := str_size (t := textOf A) (n := 25000) (by omega); omega))
  rw [show Lib.trimSuffix (⟨(textOf A).toArray⟩ : ByteArray).data.toList (⟨#[10]⟩ : ByteArray).data.toList = joinC 10 (A.map (·.t)) from by
    show Lib.trimSuffix (textOf A).toArray.toList [10] = _
    simp only [HJ]
    exact trim_end _] at CTR
  have CSP := Kp.mk (fun W hW => split_any 10 (A.map (·.t)) (by simpa using h0) (by
    intro t ht
    obtain ⟨c, hc, rfl⟩ := List.mem_map.1 ht
    exact (hA c hc).nl) (by omega) W (hBig.below hW))
  have HA := Kp.mk hA
  have HTB := Kp.mk hT
  have HBG := Kp.mk hBig
  obtain ⟨n, hn⟩ : ∃ n, A.length = n := ⟨_, rfl⟩
  have HN := Kp.mk hn
  have hlm : (A.map (·.t)).length = n := by rw [List.length_map]; exact hn
  rw [hlm] at CSP
  rw [hn] at hl
  have hn0 : 0 < n := by rw [← hn]; exact List.length_pos_iff.2 h0
  generalize textOf A = txt at *
  generalize joinC 10 (A.map (·.t)) = jn at *
  clear hA hT hBig htl HJ hjl h0 hn
  go_enter Tryz.func7, Tryz.ntmps7
  go_wp2_with fail
  refine CTR.out.mono ?_
  rintro e wo' ⟨rfl, rfl⟩
  obtain ⟨wo, rfl⟩ : ∃ x : World, x = wo' := ⟨_, rfl⟩
  go_wp2_with fail
  refine (CSP.out _ (Below.refl _ _)).mono ?_
  rintro e w1 ⟨rfl, hw1⟩
  have hal := below_alloc (Nat.le_refl wo.heap.size) (.cells (strs (A.map (·.t))).toArray 9)
  have HSL := Kp.mk (show SlC w1 (some ⟨wo.heap.size, 0, none⟩) n n 1 (strs (A.map (·.t))) from by
    rw [hw1]
    exact own_slc (B := 0) (e := 9) ⟨by rw [strs_length, hlm, Nat.mul_one], .inr ⟨wo.heap.size, n, (strs (A.map (·.t))).toArray, rfl, Nat.zero_le _, heap_alloc_new wo _, Nat.le_refl _, by unfold maxLen; omega, by simp [strs_length, hlm], by simp [List.take_of_length_le, strs_length, hlm]⟩⟩)
  rw [← hw1] at hal
  have HB1 := Kp.mk hal
  have hdal := below_alloc (Nat.le_refl w1.heap.size) (.cells #[.slice none 0 0] 44)
  have hd := Box.new w1 #[.slice none 0 0] 44
  obtain ⟨B, hB⟩ : ∃ B, w1.heap.size = B := ⟨_, rfl⟩
  have HBE := Kp.mk hB
  have hs2 : (w1.alloc (.cells #[.slice none 0 0] 44)).heap.size = B + 1 := by rw [alloc_size, hB]
  obtain ⟨w2, hw2⟩ : ∃ w2, w1.alloc (.cells #[.slice none 0 0] 44) = w2 := ⟨_, rfl⟩
  rw [hw2] at hs2 hd hdal
  rw [hB] at hd hdal
  have hal3 := below_alloc (Nat.le_refl w2.heap.size) (.cells #[.pointer none, .slice none 0 0] 48)
  have hbx := Box.new w2 #[.pointer none, .slice none 0 0] 48
  rw [hs2] at hbx hal3
  have hd3 := hd.alloc (.cells #[.pointer none, .slice none 0 0] 48)
  obtain ⟨w3, hw3⟩ : ∃ w3, w2.alloc (.cells #[.pointer none, .slice none 0 0] 48) = w3 := ⟨_, rfl⟩
  rw [hw3] at hbx hd3 hal3
  have HD3 := Kp.mk (show DS w3 B B none 0 [] from ⟨hd3, World.ownsRow_nil _ _ _ _, Nat.le_refl _⟩)
  have HI3 := Kp.mk (show Lib.IsBuilder 48 5 B (B + 1) (Lib.byteCells []) w3 from
    .inl ⟨Nat.le_succ _, .slice none 0 0, hbx, World.ownsRow_nil _ _ _ _, by simp [Value.ownBlock]⟩)
  have HSZ3 := Kp.mk (show B ≤ w3.heap.size from by have := hal3.size; omega)
  have HB3 := Kp.mk (show Below B w1 w3 from hdal.trans (hal3.mono (Nat.le_succ _)))
  have HW2 := Kp.mk hw2
  have HW3 := Kp.mk hw3
  have HS2 := Kp.mk hs2
  clear hal hw1 hdal hd hs2 hw2 hal3 hbx hd3 hw3 hB CTR CSP hlm
  go_upto_region 8 with (fail)
  simp only [HBE.out, HW2.out, HW3.out]
  clear HW2 HW3 HS2
  obtain ⟨wp, rfl⟩ : ∃ wp : World, wp = w3 := ⟨_, rfl⟩
  go_wp2
  go_loopw [21] (fun iv wr => ∃ (k pc : Nat) (pa : Option Addr), k ≤ n ∧ iv = .int .i64 k ∧ Kp (DS wr B B pa pc (after [] (A.take k))) ∧ Kp (Lib.IsBuilder 48 5 B (B + 1) (Lib.byteCells (tell [] (A.take k))) wr) ∧ Kp (Below B w1 wr) ∧ B ≤ wr.heap.size) (fun iv _ => n - (intOf iv).toNat)
  case atStart => exact ⟨0, 0, none, Nat.zero_le _, rfl, HD3, HI3, HB3, HSZ3.out⟩
  case round =>
    clear HD3 HI3 HB3 HSZ3
    obtain ⟨k, pc, pa, hk, rfl, HD, HI, HB, hsz⟩ := hrel
    by_cases hlt : k < n
    · have hkA : k < A.length := by rw [HN.out]; exact hlt
      have hbw : Below w1.heap.size w1 wr := by rw [HBE.out]; exact HB.out
      obtain ⟨lb, lo, ee, c1⟩ := (HSL.out.below hbw).cell k (by rw [strs_length, List.length_map]; exact hkA)
      cases ee
      simp only [Nat.zero_add] at c1
      rw [show (strs (A.map (·.t)))[k]'(by rw [strs_length, List.length_map]; exact hkA) = str A[k].t by simp [strs]] at c1
      have hok := HA.out _ (List.getElem_mem hkA)
      have hfit := fit_after A HA.out (by rw [HN.out]; exact hl) k (by omega)
      have htl := tell_len A HA.out (by rw [HN.out]; exact hl) k (by omega)
      have hal := hok.alen k _ (by omega) hfit
      have HTS := Kp.mk (tell_snoc A [] k hkA)
      have HAS := Kp.mk (after_snoc A [] k hkA)
      have hlow : ∀ W, Below B wr W → Below wo.heap.size wo W := fun W hW => below_step HB1.out (show Below w1.heap.size w1 W from by rw [HBE.out]; exact HB.out.trans hW)
      have CR := hok.runs k (by omega) (after [] (A.take k)) B B pc pa wr hfit HD.out hsz (fun W hW => HTB.out.below (hlow W hW)) (fun W hW => HBG.out.below (hlow W hW))
      obtain ⟨X, hX⟩ : ∃ X, A[k].nxt (after [] (A.take k)) = X := ⟨_, rfl⟩
      rw [hX] at CR HAS
      have hcl := hok.len
      obtain ⟨T, hT⟩ : ∃ T, A[k].t = T := ⟨_, rfl⟩
      obtain ⟨N, hN⟩ : ∃ N, A[k].ans (after [] (A.take k)) = N := ⟨_, rfl⟩
      obtain ⟨P, hP⟩ : ∃ P, tell [] (A.take k) = P := ⟨_, rfl⟩
      rw [hT] at c1 CR hcl
      rw [hN] at CR hal HTS
      rw [hP] at HI htl HTS
      have CRK := Kp.mk CR
      have szT : (⟨T.toArray⟩ : ByteArray).size ≤ 400 := str_size hcl
      have szN : (⟨N.toArray⟩ : ByteArray).size ≤ 10000 := str_size hal
      have sz1 : (⟨#[10]⟩ : ByteArray).size ≤ 1 := by decide
      have hadd : (⟨N.toArray⟩ : ByteArray) ++ ⟨#[10]⟩ = ⟨(N ++ [10]).toArray⟩ := str_add N [10]
      have hNl : (N ++ [10]).length ≤ 10001 := by rw [List.length_append, List.length_singleton]; omega
      obtain ⟨N1, hN1⟩ : ∃ N1, N ++ [10] = N1 := ⟨_, rfl⟩
      rw [hN1] at hadd HTS hNl
      have szN1 : (⟨N1.toArray⟩ : ByteArray).size ≤ 10001 := str_size hNl
      clear hok hfit hal CR hT hN hP hX hN1 hbw hlow hkA
      go_wp2_with fail
      refine CRK.out.mono ?_
      rintro e w4 ⟨pa', pc', rfl, HO⟩
      have hB4 := HO.out.chg.below hsz HD.out.low
      have HI4 := Kp.mk (bld_chg HI.out HO.out.chg HD.out.types)
      have HB4 := Kp.mk (HB.out.trans hB4)
      have hsz4 : B ≤ w4.heap.size := Nat.le_trans hsz HO.out.chg.size
      have hbl : (Lib.byteCells P).length ≤ 610000 := by rw [Lib.byteCells_length]; omega
      have CW := Kp.mk (writeString_any B (B + 1) _ ⟨N1.toArray⟩ w4 HI4.out (by have := szN1; omega) hsz4)
      rw [bcr_str] at CW
      clear CRK HI HB c1 hB4 hbl
      go_wp2_with fail
      refine CW.out.mono ?_
      rintro e w5 ⟨rfl, hbd5, hb5, hk5⟩
      have HD5 := Kp.mk (show DS w5 B B pa' pc' (after [] (A.take (k + 1))) from by rw [HAS.out]; exact HO.out.ds.kept8 hk5 (bld_ty HI4.out))
      have HI5 := Kp.mk (show Lib.IsBuilder 48 5 B (B + 1) (Lib.byteCells (tell [] (A.take (k + 1)))) w5 from by rw [HTS.out]; exact .inr hbd5)
      have HB5 := Kp.mk (HB4.out.trans hb5)
      have hsz5 : B ≤ w5.heap.size := Nat.le_trans hsz4 hk5.size
      clear CW hbd5 hb5 hk5 HI4 HB4 HO HD HTS HAS
      go_wp2
      go_roundw
      case rel => exact ⟨k + 1, pc', pa', by omega, by go_num, HD5, HI5, HB5, hsz5⟩
      case measure => simp [intOf]; omega
    · obtain rfl : k = n := by omega
      have HTK := Kp.mk (show A.take k = A from List.take_of_length_le (by rw [HN.out]; exact Nat.le_refl _))
      rw [HTK.out] at HI
      have CS := Kp.mk (Tryz.Builder_String_any B (B + 1) (tell [] A) wr HI.out hsz)
      have HBW := Kp.mk (below_step HB1.out (show Below w1.heap.size w1 wr from by rw [HBE.out]; exact HB.out))
      obtain ⟨res, hres⟩ : ∃ r, tell [] A = r := ⟨_, rfl⟩
      rw [hres] at CS
      have HRES := Kp.mk hres
      clear HI HD HB HTK hres
      go_wp2_with fail
      refine CS.out.mono ?_
      rintro e w5 ⟨rfl, hb5⟩
      have HBF := Kp.mk (HBW.out.trans (hb5.mono (by have := HB1.out.size; have := HBE.out; omega)))
      clear CS
      go_wp2
      refine bodyPost_ret (v := .tuple #[str res, .int .i64 0]) (by simp [results, Tryz.results7, go_sem]) rfl ?_
      exact ⟨by rw [HRES.out], HBF⟩
theorem run_any (A : List Cmd) (hA : ∀ c ∈ A, c.Ok) (hl : A.length ≤ 60) (w : World) (hT : Tab w) (hBig : Big w) :
    Calls Tryz.prog 7 #[str (textOf A)] w fun e w' => e = .returned (.tuple #[str (tell [] A), .int .i64 0]) ∧ Kp (Below w.heap.size w w') := by
  by_cases h : A = []
  · subst h; exact run_none w
  · exact run_some A hA hl h w hT hBig

end Go.Proofs.YtedchegejalolaaGreatDoor.Dk

/- desk: a beginning of a session is a session: the walk. -/
namespace Go.Proofs.YtedchegejalolaaGreatDoor.Dk
set_option linter.unusedVariables false
open Go.RowKit Go.Deep

theorem sure_text : textOf [putC 1 2 3] = [112, 117, 116, 32, 49, 32, 50, 32, 51, 10] := by
  have i1 := itoa_dig 1 (by omega)
  have i2 := itoa_dig 2 (by omega)
  have i3 := itoa_dig 3 (by omega)
  unfold textOf putC
  rw [show Lib.itoa 1 = [49] from i1, show Lib.itoa 2 = [50] from i2, show Lib.itoa 3 = [51] from i3]
  decide
theorem sure_tell : tell [] [putC 1 2 3] = [111, 107, 32, 48, 10] := by
  have i0 := itoa_dig 0 (by omega)
  show toldT okW [((0 : Nat) : Int)] ++ [10] ++ [] = _
  unfold toldT Ex.num
  rw [List.map_cons, i0]
  decide
theorem sure_any (w : World) (hT : Tab w) (hBig : Big w) : Calls Tryz.prog 8 #[] w fun e w' => e = .returned (.bool true) ∧ Kp (Below w.heap.size w w') := by
  have CR := Kp.mk (run_any [putC 1 2 3] (fun c hc => by rw [List.mem_singleton.1 hc]; exact put_ok (num3 (by omega) (by omega)) (num3 (by omega) (by omega)) (num3 (by omega) (by omega))) (by decide) w hT hBig)
  rw [sure_text, sure_tell] at CR
  clear hT hBig
  go_enter Tryz.func8, Tryz.ntmps8
  go_wp2_with fail
  refine CR.out.mono ?_
  rintro e w1 ⟨rfl, HB⟩
  clear CR
  go_wp2
  go_ret
  exact ⟨rfl, HB⟩
theorem cmds_ok (C : List Ch) (n : Nat) : ∀ c ∈ (C.take n).map cmdOf, c.Ok := fun c hc => by
  obtain ⟨h, _, rfl⟩ := List.mem_map.1 hc
  exact cmdOf_ok h
theorem cmds_len (C : List Ch) (n : Nat) : ((C.take n).map cmdOf).length ≤ n := by
  rw [List.length_map, List.length_take]; exact Nat.min_le_left _ _
theorem ext_front (X Y : Wd) (n : Nat) (h : X.length = n) : (⟨(X ++ Y).toArray⟩ : ByteArray).extract 0 n = ⟨X.toArray⟩ := by
  apply ByteArray.ext
  apply Array.ext'
  simp only [ByteArray.data_extract, Array.toList_extract, List.extract_eq_take_drop]
  subst h
  simp
set_option maxRecDepth 100000 in
set_option maxHeartbeats 8000000 in
theorem walk_DeskParts (a0 : Option Addr) (len0 cap0 : Nat) (z0 : List Int) (a1 : Option Addr) (len1 cap1 : Nat) (z1 : List Int) (w : World) (w0 : IsFlat 8 w a0 len0 cap0 z0) (w1 : IsFlat 8 w a1 len1 cap1 z1) (hT : Tab w) (hBig : Big w) :
    Calls Tryz.prog 3 #[.slice a0 len0 cap0, .slice a1 len1 cap1] w fun e w' => e = .returned (.bool true) ∧ Below w.heap.size w w' := by
  obtain ⟨C0, h0, c0, m0⟩ := chores_in w0
  obtain ⟨C1, h1, c1, m1⟩ := chores_in w1
  have CA := Kp.mk (lines_any a0 cap0 len0 C0 25 (by omega) w h0 (h0.len chL_len (by omega)) m0 c0)
  have CB := Kp.mk (fun W (hW : Below w.heap.size w W) => lines_any a1 cap1 len1 C1 25 (by omega) W (SlF.below h1 hW) (h1.len chL_len (by omega)) m1 c1)
  have o0 := cmds_ok C0 25
  have o1 := cmds_ok C1 25
  have l0 := cmds_len C0 25
  have l1 := cmds_len C1 25
  clear w0 w1 h0 h1 c0 c1 m0 m1
  generalize (C0.take 25).map cmdOf = A at *
  generalize (C1.take 25).map cmdOf = B at *
  have oAB : ∀ c ∈ A ++ B, c.Ok := fun c hc => (List.mem_append.1 hc).elim (o0 c) (o1 c)
  have lAB : (A ++ B).length ≤ 60 := by rw [List.length_append]; omega
  have CR1 := Kp.mk (fun W (hW : Below w.heap.size w W) => run_any A o0 (by omega) W (hT.below hW) (hBig.below hW))
  have CR2 := Kp.mk (fun W (hW : Below w.heap.size w W) => run_any (A ++ B) oAB lAB W (hT.below hW) (hBig.below hW))
  have CSU := Kp.mk (fun W (hW : Below w.heap.size w W) => sure_any W (hT.below hW) (hBig.below hW))
  have tA := textOf_len A o0
  have tB := textOf_len B o1
  have tAB := textOf_len (A ++ B) oAB
  have xA := tell_len A o0 (by omega) A.length (Nat.le_refl _)
  have xAB := tell_len (A ++ B) oAB lAB (A ++ B).length (Nat.le_refl _)
  rw [List.take_length] at xA xAB
  rw [textOf_append] at CR2 tAB
  rw [tell_append] at CR2 xAB
  have hadd : (⟨(textOf A).toArray⟩ : ByteArray) ++ ⟨(textOf B).toArray⟩ = ⟨(textOf A ++ textOf B).toArray⟩ := str_add _ _
  have sA : (⟨(textOf A).toArray⟩ : ByteArray).size ≤ 30000 := str_size (by omega)
  have sB : (⟨(textOf B).toArray⟩ : ByteArray).size ≤ 30000 := str_size (by omega)
  have sAB : (⟨(textOf A ++ textOf B).toArray⟩ : ByteArray).size ≤ 30000 := str_size (by omega)
  have xl : (tell [] A).length ≤ 1000000 := by omega
  have xl2 : (tell [] A ++ tell (after [] A) B).length ≤ 1000000 := by omega
  clear o0 o1 oAB tA tB tAB xA xAB lAB l0 l1 hT hBig
  generalize textOf A ++ textOf B = TAB at *
  generalize textOf A = TA0 at *
  generalize textOf B = TB0 at *
  generalize tell (after [] A) B = Z at *
  generalize tell [] A = X at *
  obtain ⟨n, hn⟩ : ∃ n, X.length = n := ⟨_, rfl⟩
  obtain ⟨m, hm⟩ : ∃ m, (X ++ Z).length = m := ⟨_, rfl⟩
  have hnm : n ≤ m := by rw [← hn, ← hm, List.length_append]; omega
  have hext := ext_front X Z n hn
  have szX : (⟨X.toArray⟩ : ByteArray).size = n := by show X.toArray.size = n; simpa using hn
  have szY : (⟨(X ++ Z).toArray⟩ : ByteArray).size = m := by show (X ++ Z).toArray.size = m; simpa using hm
  have hnz : (n : Int) ≤ (m : Int) := by omega
  rw [hn] at xl
  rw [hm] at xl2
  clear hn hm
  generalize X ++ Z = Y at *
  go_enter Tryz.func3, Tryz.ntmps3
  go_wp2_with fail
  refine CA.out.mono ?_
  rintro e w2 ⟨rfl, HB2⟩
  go_wp2_with fail
  refine (CB.out _ HB2.out).mono ?_
  rintro e w3 ⟨rfl, hb3⟩
  have HB3 := Kp.mk (below_step HB2.out hb3.out)
  clear CA CB hb3
  go_wp2_with fail
  refine (CR1.out _ HB3.out).mono ?_
  rintro e w4 ⟨rfl, hb4⟩
  have HB4 := Kp.mk (below_step HB3.out hb4.out)
  clear CR1 hb4
  go_wp2_with fail
  refine (CR2.out _ HB4.out).mono ?_
  rintro e w5 ⟨rfl, hb5⟩
  have HB5 := Kp.mk (below_step HB4.out hb5.out)
  clear CR2 hb5
  go_wp2_with fail
  refine (CSU.out _ HB5.out).mono ?_
  rintro e w6 ⟨rfl, hb6⟩
  have HB6 := Kp.mk (below_step HB5.out hb6.out)
  clear CSU hb6 HB2 HB3 HB4 HB5
  go_wp2
  go_ret
  exact ⟨rfl, HB6.out⟩

end Go.Proofs.YtedchegejalolaaGreatDoor.Dk

