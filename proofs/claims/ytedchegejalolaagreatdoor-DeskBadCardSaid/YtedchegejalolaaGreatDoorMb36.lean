import Derived.Test.YtedchegejalolaaGreatDoorMb5
import Derived.Test.YtedchegejalolaaGreatDoorMb9
import Derived.Test.YtedchegejalolaaGreatDoorMb1
import Derived.Test.YtedchegejalolaaGreatDoorMb35
import Derived.Test.YtedchegejalolaaGreatDoorMb2
/- desk: Run. -/
namespace Go.Proofs.YtedchegejalolaaGreatDoor.Dk
set_option linter.unusedVariables false
open Go.RowKit

theorem trim_end (t : Wd) : Lib.trimSuffix (t ++ [10]) [10] = t := by
  unfold Lib.trimSuffix Lib.hasSuffix
  rw [if_pos (by rw [List.isSuffixOf_iff_suffix]; exact List.suffix_append t [10])]
  simp
theorem bcr_str (x y : Wd) : Lib.byteCells x ++ Lib.strCells ⟨y.toArray⟩ = Lib.byteCells (x ++ y) := by simp [Lib.byteCells, Lib.strCells]
/-- A builder stays where blocks of other types change. -/
theorem bldAt_chg {F : Nat → Prop} {B b : Nat} {p : Value} {bs : List Value} {w w' : World} (h : Lib.BuilderAt 48 5 B b p bs w) (hc : Chg F w w') (hF : ∀ k, F k → ∃ e, e ≠ 5 ∧ e ≠ 48 ∧ TyAt w k e) : Lib.BuilderAt 48 5 B b p bs w' := by
  obtain ⟨hB, v, hbk, hown, hne⟩ := h
  refine ⟨hB, v, ?_, ?_, hne⟩
  · rw [hc.block b (Array.getElem?_eq_some_iff.1 hbk).1 (fun e => by
      obtain ⟨t, _, h2, h3⟩ := hF b e
      exact TyAt.ne ⟨_, hbk⟩ h3 (Ne.symm h2) rfl)]
    exact hbk
  · refine ⟨hown.1, ?_⟩
    rcases hown.2 with h0 | ⟨g, cap, cur, hv, hB2, hgb, h1, h2, h3, h4⟩
    · exact .inl h0
    · refine .inr ⟨g, cap, cur, hv, hB2, ?_, h1, h2, h3, h4⟩
      rw [hc.block g (Array.getElem?_eq_some_iff.1 hgb).1 (fun e => by
        obtain ⟨t, h5, _, h6⟩ := hF g e
        exact TyAt.ne ⟨_, hgb⟩ h6 (Ne.symm h5) rfl)]
      exact hgb
theorem bld_chg {F : Nat → Prop} {B b : Nat} {bs : List Value} {w w' : World} (h : Lib.IsBuilder 48 5 B b bs w) (hc : Chg F w w') (hF : ∀ k, F k → ∃ e, e ≠ 5 ∧ e ≠ 48 ∧ TyAt w k e) : Lib.IsBuilder 48 5 B b bs w' := by
  rcases h with h | h
  · exact .inl (bldAt_chg h hc hF)
  · exact .inr (bldAt_chg h hc hF)
theorem DS.types {w : World} {B db pc : Nat} {pa : Option Addr} {L : List Pt} (h : DS w B db pa pc L) : ∀ k, Fd db pa k → ∃ e, e ≠ 5 ∧ e ≠ 48 ∧ TyAt w k e := fun k hk => by
  rcases hk with rfl | hk
  · exact ⟨44, by decide, by decide, ⟨_, h.box⟩⟩
  · exact ⟨78, by decide, by decide, (ty_own h.row hk).1⟩
theorem DS.low {w : World} {B db pc : Nat} {pa : Option Addr} {L : List Pt} (h : DS w B db pa pc L) : ∀ k, Fd db pa k → B ≤ k := fun k hk => by
  rcases hk with rfl | hk
  · exact h.lo
  · exact (ty_own h.row hk).2
/-- A desk stays where a builder writes. -/
theorem DS.kept8 {w w' : World} {B db pc b : Nat} {pa : Option Addr} {L : List Pt} (h : DS w B db pa pc L) (hk : Kept8 b w w') (hb : TyAt w b 48) : DS w' B db pa pc L := by
  refine ⟨?_, ⟨h.row.1, ?_⟩, h.lo⟩
  · exact (hk.same db h.box.lt (TyAt.ne ⟨_, h.box⟩ hb (by decide)) (fun cs fr e => by
      have := h.box
      unfold Box at this
      rw [this] at e; cases e)).trans h.box
  · rcases h.row.2 with h0 | ⟨g, cap, cur, hv, hB, hgb, h1, h2, h3, h4⟩
    · exact .inl h0
    · refine .inr ⟨g, cap, cur, hv, hB, ?_, h1, h2, h3, h4⟩
      rw [hk.same g (Array.getElem?_eq_some_iff.1 hgb).1 (TyAt.ne ⟨_, hgb⟩ hb (by decide)) (fun cs fr e => by rw [hgb] at e; cases e)]
      exact hgb
theorem bld_ty {B b : Nat} {bs : List Value} {w : World} (h : Lib.IsBuilder 48 5 B b bs w) : TyAt w b 48 := by
  obtain ⟨q, hq⟩ := isBld_heap h
  exact ⟨_, hq⟩
theorem run_none (w : World) : Calls Tryz.prog 7 #[str []] w fun e w' => e = .returned (.tuple #[str [], .int .i64 0]) ∧ Kp (Below w.heap.size w w') := by
  go_enter Tryz.func7, Tryz.ntmps7
  go_wp2
  refine bodyPost_ret (v := .tuple #[str [], .int .i64 0]) (by simp [results, Tryz.results7, go_sem]) rfl ?_
  exact ⟨rfl, ⟨Below.refl _ _⟩⟩

set_option maxRecDepth 100000 in
set_option maxHeartbeats 16000000 in
theorem run_some (A : List Cmd) (hA : ∀ c ∈ A, c.Ok) (hl : A.length ≤ 60) (h0 : A ≠ []) (w : World) (hT : Tab w) (hBig : Big w) :
    Calls Tryz.prog 7 #[str (textOf A)] w fun e w' => e = .returned (.tuple #[str (tell [] A), .int .i64 0]) ∧ Kp (Below w.heap.size w w') := by
  have htl := textOf_len A hA
  have HJ := textOf_join A h0
  have hjl : (joinC 10 (A.map (·.t))).length ≤ 24060 := by
    rw [HJ, List.length_append] at htl
    omega
  have hne : (textOf A == []) = false := by
    rw [beq_eq_false_iff_ne, HJ]
    intro e
    simp at e
  have CTR := Kp.mk (Tryz.strings_TrimSuffix ⟨(textOf A).toArray⟩ ⟨#[10]⟩ w (by have := str_size (t := textOf A) (n := 25000) (by omega); omega))
  rw [show Lib.trimSuffix (⟨(textOf A).toArray⟩ : ByteArray).data.toList (⟨#[10]⟩ : ByteArray).data.toList = joinC 10 (A.map (·.t)) from by
    show Lib.trimSuffix (textOf A).toArray.toList [10] = _
    simp only [HJ]
    exact trim_end _] at CTR
  have CSP := Kp.mk (fun W hW => split_any 10 (A.map (·.t)) (by simpa using h0) (by
    intro t ht
    obtain ⟨c, hc, rfl⟩ := List.mem_map.1 ht
    exact (hA c hc).nl) (by omega) W (hBig.below hW))
  have HA := Kp.mk hA
  have HTB := Kp.mk hT
  have HBG := Kp.mk hBig
  obtain ⟨n, hn⟩ : ∃ n, A.length = n := ⟨_, rfl⟩
  have HN := Kp.mk hn
  have hlm : (A.map (·.t)).length = n := by rw [List.length_map]; exact hn
  rw [hlm] at CSP
  rw [hn] at hl
  have hn0 : 0 < n := by rw [← hn]; exact List.length_pos_iff.2 h0
  generalize textOf A = txt at *
  generalize joinC 10 (A.map (·.t)) = jn at *
  clear hA hT hBig htl HJ hjl h0 hn
  go_enter Tryz.func7, Tryz.ntmps7
  go_wp2_with fail
  refine CTR.out.mono ?_
  rintro e wo' ⟨rfl, rfl⟩
  obtain ⟨wo, rfl⟩ : ∃ x : World, x = wo' := ⟨_, rfl⟩
  go_wp2_with fail
  refine (CSP.out _ (Below.refl _ _)).mono ?_
  rintro e w1 ⟨rfl, hw1⟩
  have hal := below_alloc (Nat.le_refl wo.heap.size) (.cells (strs (A.map (·.t))).toArray 9)
  have HSL := Kp.mk (show SlC w1 (some ⟨wo.heap.size, 0, none⟩) n n 1 (strs (A.map (·.t))) from by
    rw [hw1]
    exact own_slc (B := 0) (e := 9) ⟨by rw [strs_length, hlm, Nat.mul_one], .inr ⟨wo.heap.size, n, (strs (A.map (·.t))).toArray, rfl, Nat.zero_le _, heap_alloc_new wo _, Nat.le_refl _, by unfold maxLen; omega, by simp [strs_length, hlm], by simp [List.take_of_length_le, strs_length, hlm]⟩⟩)
  rw [← hw1] at hal
  have HB1 := Kp.mk hal
  have hdal := below_alloc (Nat.le_refl w1.heap.size) (.cells #[.slice none 0 0] 44)
  have hd := Box.new w1 #[.slice none 0 0] 44
  obtain ⟨B, hB⟩ : ∃ B, w1.heap.size = B := ⟨_, rfl⟩
  have HBE := Kp.mk hB
  have hs2 : (w1.alloc (.cells #[.slice none 0 0] 44)).heap.size = B + 1 := by rw [alloc_size, hB]
  obtain ⟨w2, hw2⟩ : ∃ w2, w1.alloc (.cells #[.slice none 0 0] 44) = w2 := ⟨_, rfl⟩
  rw [hw2] at hs2 hd hdal
  rw [hB] at hd hdal
  have hal3 := below_alloc (Nat.le_refl w2.heap.size) (.cells #[.pointer none, .slice none 0 0] 48)
  have hbx := Box.new w2 #[.pointer none, .slice none 0 0] 48
  rw [hs2] at hbx hal3
  have hd3 := hd.alloc (.cells #[.pointer none, .slice none 0 0] 48)
  obtain ⟨w3, hw3⟩ : ∃ w3, w2.alloc (.cells #[.pointer none, .slice none 0 0] 48) = w3 := ⟨_, rfl⟩
  rw [hw3] at hbx hd3 hal3
  have HD3 := Kp.mk (show DS w3 B B none 0 [] from ⟨hd3, World.ownsRow_nil _ _ _ _, Nat.le_refl _⟩)
  have HI3 := Kp.mk (show Lib.IsBuilder 48 5 B (B + 1) (Lib.byteCells []) w3 from
    .inl ⟨Nat.le_succ _, .slice none 0 0, hbx, World.ownsRow_nil _ _ _ _, by simp [Value.ownBlock]⟩)
  have HSZ3 := Kp.mk (show B ≤ w3.heap.size from by have := hal3.size; omega)
  have HB3 := Kp.mk (show Below B w1 w3 from hdal.trans (hal3.mono (Nat.le_succ _)))
  have HW2 := Kp.mk hw2
  have HW3 := Kp.mk hw3
  have HS2 := Kp.mk hs2
  clear hal hw1 hdal hd hs2 hw2 hal3 hbx hd3 hw3 hB CTR CSP hlm
  go_upto_region 8 with (fail)
  simp only [HBE.out, HW2.out, HW3.out]
  clear HW2 HW3 HS2
  obtain ⟨wp, rfl⟩ : ∃ wp : World, wp = w3 := ⟨_, rfl⟩
  go_wp2
  go_loopw [21] (fun iv wr => ∃ (k pc : Nat) (pa : Option Addr), k ≤ n ∧ iv = .int .i64 k ∧ Kp (DS wr B B pa pc (after [] (A.take k))) ∧ Kp (Lib.IsBuilder 48 5 B (B + 1) (Lib.byteCells (tell [] (A.take k))) wr) ∧ Kp (Below B w1 wr) ∧ B ≤ wr.heap.size) (fun iv _ => n - (intOf iv).toNat)
  case atStart => exact ⟨0, 0, none, Nat.zero_le _, rfl, HD3, HI3, HB3, HSZ3.out⟩
  case round =>
    clear HD3 HI3 HB3 HSZ3
    obtain ⟨k, pc, pa, hk, rfl, HD, HI, HB, hsz⟩ := hrel
    by_cases hlt : k < n
    · have hkA : k < A.length := by rw [HN.out]; exact hlt
      have hbw : Below w1.heap.size w1 wr := by rw [HBE.out]; exact HB.out
      obtain ⟨lb, lo, ee, c1⟩ := (HSL.out.below hbw).cell k (by rw [strs_length, List.length_map]; exact hkA)
      cases ee
      simp only [Nat.zero_add] at c1
      rw [show (strs (A.map (·.t)))[k]'(by rw [strs_length, List.length_map]; exact hkA) = str A[k].t by simp [strs]] at c1
      have hok := HA.out _ (List.getElem_mem hkA)
      have hfit := fit_after A HA.out (by rw [HN.out]; exact hl) k (by omega)
      have htl := tell_len A HA.out (by rw [HN.out]; exact hl) k (by omega)
      have hal := hok.alen k _ (by omega) hfit
      have HTS := Kp.mk (tell_snoc A [] k hkA)
      have HAS := Kp.mk (after_snoc A [] k hkA)
      have hlow : ∀ W, Below B wr W → Below wo.heap.size wo W := fun W hW => below_step HB1.out (show Below w1.heap.size w1 W from by rw [HBE.out]; exact HB.out.trans hW)
      have CR := hok.runs k (by omega) (after [] (A.take k)) B B pc pa wr hfit HD.out hsz (fun W hW => HTB.out.below (hlow W hW)) (fun W hW => HBG.out.below (hlow W hW))
      obtain ⟨X, hX⟩ : ∃ X, A[k].nxt (after [] (A.take k)) = X := ⟨_, rfl⟩
      rw [hX] at CR HAS
      have hcl := hok.len
      obtain ⟨T, hT⟩ : ∃ T, A[k].t = T := ⟨_, rfl⟩
      obtain ⟨N, hN⟩ : ∃ N, A[k].ans (after [] (A.take k)) = N := ⟨_, rfl⟩
      obtain ⟨P, hP⟩ : ∃ P, tell [] (A.take k) = P := ⟨_, rfl⟩
      rw [hT] at c1 CR hcl
      rw [hN] at CR hal HTS
      rw [hP] at HI htl HTS
      have CRK := Kp.mk CR
      have szT : (⟨T.toArray⟩ : ByteArray).size ≤ 400 := str_size hcl
      have szN : (⟨N.toArray⟩ : ByteArray).size ≤ 10000 := str_size hal
      have sz1 : (⟨#[10]⟩ : ByteArray).size ≤ 1 := by decide
      have hadd : (⟨N.toArray⟩ : ByteArray) ++ ⟨#[10]⟩ = ⟨(N ++ [10]).toArray⟩ := str_add N [10]
      have hNl : (N ++ [10]).length ≤ 10001 := by rw [List.length_append, List.length_singleton]; omega
      obtain ⟨N1, hN1⟩ : ∃ N1, N ++ [10] = N1 := ⟨_, rfl⟩
      rw [hN1] at hadd HTS hNl
      have szN1 : (⟨N1.toArray⟩ : ByteArray).size ≤ 10001 := str_size hNl
      clear hok hfit hal CR hT hN hP hX hN1 hbw hlow hkA
      go_wp2_with fail
      refine CRK.out.mono ?_
      rintro e w4 ⟨pa', pc', rfl, HO⟩
      have hB4 := HO.out.chg.below hsz HD.out.low
      have HI4 := Kp.mk (bld_chg HI.out HO.out.chg HD.out.types)
      have HB4 := Kp.mk (HB.out.trans hB4)
      have hsz4 : B ≤ w4.heap.size := Nat.le_trans hsz HO.out.chg.size
      have hbl : (Lib.byteCells P).length ≤ 610000 := by rw [Lib.byteCells_length]; omega
      have CW := Kp.mk (writeString_any B (B + 1) _ ⟨N1.toArray⟩ w4 HI4.out (by have := szN1; omega) hsz4)
      rw [bcr_str] at CW
      clear CRK HI HB c1 hB4 hbl
      go_wp2_with fail
      refine CW.out.mono ?_
      rintro e w5 ⟨rfl, hbd5, hb5, hk5⟩
      have HD5 := Kp.mk (show DS w5 B B pa' pc' (after [] (A.take (k + 1))) from by rw [HAS.out]; exact HO.out.ds.kept8 hk5 (bld_ty HI4.out))
      have HI5 := Kp.mk (show Lib.IsBuilder 48 5 B (B + 1) (Lib.byteCells (tell [] (A.take (k + 1)))) w5 from by rw [HTS.out]; exact .inr hbd5)
      have HB5 := Kp.mk (HB4.out.trans hb5)
      have hsz5 : B ≤ w5.heap.size := Nat.le_trans hsz4 hk5.size
      clear CW hbd5 hb5 hk5 HI4 HB4 HO HD HTS HAS
      go_wp2
      go_roundw
      case rel => exact ⟨k + 1, pc', pa', by omega, by go_num, HD5, HI5, HB5, hsz5⟩
      case measure => simp [intOf]; omega
    · obtain rfl : k = n := by omega
      have HTK := Kp.mk (show A.take k = A from List.take_of_length_le (by rw [HN.out]; exact Nat.le_refl _))
      rw [HTK.out] at HI
      have CS := Kp.mk (Tryz.Builder_String_any B (B + 1) (tell [] A) wr HI.out hsz)
      have HBW := Kp.mk (below_step HB1.out (show Below w1.heap.size w1 wr from by rw [HBE.out]; exact HB.out))
      obtain ⟨res, hres⟩ : ∃ r, tell [] A = r := ⟨_, rfl⟩
      rw [hres] at CS
      have HRES := Kp.mk hres
      clear HI HD HB HTK hres
      go_wp2_with fail
      refine CS.out.mono ?_
      rintro e w5 ⟨rfl, hb5⟩
      have HBF := Kp.mk (HBW.out.trans (hb5.mono (by have := HB1.out.size; have := HBE.out; omega)))
      clear CS
      go_wp2
      refine bodyPost_ret (v := .tuple #[str res, .int .i64 0]) (by simp [results, Tryz.results7, go_sem]) rfl ?_
      exact ⟨by rw [HRES.out], HBF⟩
theorem run_any (A : List Cmd) (hA : ∀ c ∈ A, c.Ok) (hl : A.length ≤ 60) (w : World) (hT : Tab w) (hBig : Big w) :
    Calls Tryz.prog 7 #[str (textOf A)] w fun e w' => e = .returned (.tuple #[str (tell [] A), .int .i64 0]) ∧ Kp (Below w.heap.size w w') := by
  by_cases h : A = []
  · subst h; exact run_none w
  · exact run_some A hA hl h w hT hBig

end Go.Proofs.YtedchegejalolaaGreatDoor.Dk

/- desk: a beginning of a session is a session: the walk. -/
namespace Go.Proofs.YtedchegejalolaaGreatDoor.Dk
set_option linter.unusedVariables false
open Go.RowKit Go.Deep

theorem sure_text : textOf [putC 1 2 3] = [112, 117, 116, 32, 49, 32, 50, 32, 51, 10] := by
  have i1 := itoa_dig 1 (by omega)
  have i2 := itoa_dig 2 (by omega)
  have i3 := itoa_dig 3 (by omega)
  unfold textOf putC
  rw [show Lib.itoa 1 = [49] from i1, show Lib.itoa 2 = [50] from i2, show Lib.itoa 3 = [51] from i3]
  decide
theorem sure_tell : tell [] [putC 1 2 3] = [111, 107, 32, 48, 10] := by
  have i0 := itoa_dig 0 (by omega)
  show toldT okW [((0 : Nat) : Int)] ++ [10] ++ [] = _
  unfold toldT Ex.num
  rw [List.map_cons, i0]
  decide
theorem sure_any (w : World) (hT : Tab w) (hBig : Big w) : Calls Tryz.prog 8 #[] w fun e w' => e = .returned (.bool true) ∧ Kp (Below w.heap.size w w') := by
  have CR := Kp.mk (run_any [putC 1 2 3] (fun c hc => by rw [List.mem_singleton.1 hc]; exact put_ok (num3 (by omega) (by omega)) (num3 (by omega) (by omega)) (num3 (by omega) (by omega))) (by decide) w hT hBig)
  rw [sure_text, sure_tell] at CR
  clear hT hBig
  go_enter Tryz.func8, Tryz.ntmps8
  go_wp2_with fail
  refine CR.out.mono ?_
  rintro e w1 ⟨rfl, HB⟩
  clear CR
  go_wp2
  go_ret
  exact ⟨rfl, HB⟩
theorem cmds_ok (C : List Ch) (n : Nat) : ∀ c ∈ (C.take n).map cmdOf, c.Ok := fun c hc => by
  obtain ⟨h, _, rfl⟩ := List.mem_map.1 hc
  exact cmdOf_ok h
theorem cmds_len (C : List Ch) (n : Nat) : ((C.take n).map cmdOf).length ≤ n := by
  rw [List.length_map, List.length_take]; exact Nat.min_le_left _ _
theorem ext_front (X Y : Wd) (n : Nat) (h : X.length = n) : (⟨(X ++ Y).toArray⟩ : ByteArray).extract 0 n = ⟨X.toArray⟩ := by
  apply ByteArray.ext
  apply Array.ext'
  simp only [ByteArray.data_extract, Array.toList_extract, List.extract_eq_take_drop]
  subst h
  simp
theorem ext_back (X Y : Wd) (n m : Nat) (h : X.length = n) (hm : (X ++ Y).length = m) : (⟨(X ++ Y).toArray⟩ : ByteArray).extract n m = ⟨Y.toArray⟩ := by
  apply ByteArray.ext
  apply Array.ext'
  simp only [ByteArray.data_extract, Array.toList_extract, List.extract_eq_take_drop]
  subst h hm
  rw [List.length_append, Nat.add_sub_cancel_left, List.drop_left, List.take_length]

end Go.Proofs.YtedchegejalolaaGreatDoor.Dk

/- desk: what is bad does nothing: the walk. -/
namespace Go.Proofs.YtedchegejalolaaGreatDoor.Dk
set_option linter.unusedVariables false
open Go.RowKit Go.Deep

theorem ext_tail (X Y : Wd) (n m : Nat) (h : X.length = n) (hm : (X ++ Y).length = m) : (⟨(X ++ Y).toArray⟩ : ByteArray).extract n m = ⟨Y.toArray⟩ := ext_back X Y n m h hm
theorem cut_len (A : List Cmd) (j : Nat) : textOf A = textOf (A.take j) ++ textOf (A.drop j) := by
  rw [← textOf_append, List.take_append_drop]

set_option maxRecDepth 100000 in
set_option maxHeartbeats 16000000 in
/-- The walk once the place and the odd line are chosen. -/
theorem bad_tail (a0 : Option Addr) (len0 cap0 : Nat) (C0 : List Ch) (a1 : Int) (va : Nat) (w : World) (h0 : SlF chL 8 w a0 len0 cap0 C0) (c0 : ∀ x ∈ C0, x.Wf) (m0 : len0 ≤ maxLen) (i1 : -9223372036854775808 ≤ a1) (i2 : a1 ≤ 9223372036854775807) (ea : pick a1 9 = (va : Int)) (hva : va < 9) (q : Wd) (hQ : (badC q).Ok)
    (HLD : ∀ W : World, (W.alloc (.cells #[.string ⟨#[112, 117, 116, 32, 49, 32, 50]⟩, .string ⟨#[112, 117, 116, 32, 48, 49, 32, 50, 32, 51]⟩, .string ⟨#[100, 114, 111, 112, 32]⟩, .string ⟨#[97, 115, 107, 32, 119]⟩, .string ⟨#[99, 111, 117, 110, 116, 32, 49, 32, 50, 32, 51]⟩, .string ⟨#[108, 111, 97, 100, 32, 48]⟩, .string ⟨#[115, 107, 121, 32, 115, 107, 121]⟩, .string ⟨#[]⟩, .string ⟨#[97, 115, 107, 32, 105, 110, 32, 49, 32, 50, 32, 51, 32, 52, 32, 53]⟩] 9)).cell? ⟨W.heap.size, va, none⟩ = some (str q)) (hT : Tab w) (hBig : Big w) :
    Calls Tryz.prog 5 #[.slice a0 len0 cap0, .int .i64 a1] w fun e w' => e = .returned (.bool true) ∧ Below w.heap.size w w' := by
  have CA := Kp.mk (lines_any a0 cap0 len0 C0 20 (by omega) w h0 (h0.len chL_len (by omega)) m0 c0)
  have o0 := cmds_ok C0 20
  have l0 := cmds_len C0 20
  have CPK := Kp.mk (fun W => picked_any a1 9 W (by omega) (by omega) i1 i2)
  rw [ea] at CPK
  have HI1 := Kp.mk (And.intro i1 i2)
  clear h0 c0 m0 ea i1 i2
  generalize (C0.take 20).map cmdOf = A at *
  have tA := textOf_len A o0
  obtain ⟨T, hTT⟩ : ∃ T, textOf A = T := ⟨_, rfl⟩
  have HTT := Kp.mk hTT
  have HCUT := Kp.mk (text_cut A (fun c hc => (o0 c hc).nl))
  rw [hTT] at CA tA HCUT
  obtain ⟨N, hN⟩ : ∃ N, T.length = N := ⟨_, rfl⟩
  have HN := Kp.mk hN
  rw [hN] at tA
  have szT : (⟨T.toArray⟩ : ByteArray).size = N := by show T.toArray.size = N; simpa using hN
  have HO := Kp.mk o0
  have HTB := Kp.mk hT
  have HBG := Kp.mk hBig
  have HQ := Kp.mk hQ
  have HLDK := Kp.mk HLD
  have HL0 := Kp.mk l0
  have hN10 : N ≤ 10000 := by omega
  clear hTT hN o0 hT hBig hQ HLD l0 tA
  go_enter Tryz.func5, Tryz.ntmps5
  go_wp2_with fail
  refine CA.out.mono ?_
  rintro e w2 ⟨rfl, HB2⟩
  clear CA
  obtain ⟨wo, rfl⟩ : ∃ x : World, x = w2 := ⟨_, rfl⟩
  go_wp2
  go_loopw [6, 7] (fun cv iv wr => ∃ (i c : Nat) (oa : Option Addr) (oc : Nat) (P : List Int), i ≤ N ∧ c ≤ i ∧ iv = .int .i64 i ∧ cv = .slice oa c oc ∧ Kp (P.length = c) ∧ Kp (∀ p ∈ P, ∃ j, j ≤ A.length ∧ p = ((textOf (A.take j)).length : Int)) ∧ Kp (wr.ownsRow wo.heap.size 3 1 (.slice oa c oc) c (ints P)) ∧ Kp (Below wo.heap.size wo wr)) (fun _ iv _ => N - (intOf iv).toNat)
  case atStart => exact ⟨0, 0, none, 0, [], Nat.zero_le _, Nat.le_refl _, rfl, rfl, ⟨rfl⟩, ⟨by simp⟩, ⟨World.ownsRow_nil _ _ _ _⟩, ⟨Below.refl _ _⟩⟩
  case round =>
    obtain ⟨i, c, oa, oc, P, hi, hci, rfl, rfl, HPL, HP, HOW, HB⟩ := hrel
    by_cases hlt : i < N
    · have hiT : i < T.length := by rw [HN.out]; exact hlt
      have hidx := str_idx T i hiT
      have hcut : T[i] = 10 → ∃ j, j ≤ A.length ∧ i + 1 = (textOf (A.take j)).length := fun e => HCUT.out i (by rw [List.getElem?_eq_getElem hiT, e])
      have HCT := Kp.mk hcut
      generalize T[i] = b at *
      have e1 : IntKind.i64.wrap ((i : Int) + 1) = (i : Int) + 1 := IntWalk.i64_in _ (by omega)
      have hsw : wo.heap.size ≤ wr.heap.size := HB.out.size
      clear hiT hcut
      by_cases hb : b = 10
      · subst hb
        obtain ⟨j, hj, hje⟩ := HCT.out rfl
        have HJ := Kp.mk (And.intro hj hje)
        clear hj hje HCT
        go_wp2_with (at_builtin; refine wpList_pushS tInts (by rfl) _ _ (by rfl) wo.heap.size oa c oc _ (by rfl) HOW.out 1 _ (by rfl) (by rfl) ?d1 ?d2 (by decide) hsw ?d4)
        case d1 => rfl
        case d2 => omega
        case d4 =>
          intro oa2 oc2 w5 ho5 hg5 hn5
          have HO5 := Kp.mk (show w5.ownsRow wo.heap.size 3 1 (.slice oa2 (c + 1) oc2) (c + 1) (ints (P ++ [(i : Int) + 1])) from by simpa [ints] using ho5)
          have HB5 := Kp.mk (HB.out.trans (below_of_grown hg5 hsw (fun g hg => (own_lt HOW.out g hg).1)))
          have HPL5 := Kp.mk (show (P ++ [(i : Int) + 1]).length = c + 1 from by rw [List.length_append, HPL.out]; rfl)
          have HP5 := Kp.mk (show ∀ p ∈ P ++ [(i : Int) + 1], ∃ j, j ≤ A.length ∧ p = ((textOf (A.take j)).length : Int) from fun p hp => by
            rcases List.mem_append.1 hp with hp | hp
            · exact HP.out p hp
            · rw [List.mem_singleton.1 hp]
              exact ⟨j, HJ.out.1, by have := HJ.out.2; omega⟩)
          clear ho5 hg5 hn5 HOW HB HPL HP HJ
          go_wp2
          go_roundw
          case rel => exact ⟨i + 1, c + 1, oa2, oc2, P ++ [(i : Int) + 1], by omega, by omega, by go_num, rfl, HPL5, HP5, HO5, HB5⟩
          case measure => simp [intOf]; omega
      · have hbz : ((b.toNat : Int) == 10) = false := by
          rw [beq_eq_false_iff_ne]
          intro e
          have hn : b.toNat = 10 := by omega
          exact hb (UInt8.toNat_inj.1 (by simpa using hn))
        clear HCT hb
        go_wp2
        go_roundw
        case rel => exact ⟨i + 1, c, oa, oc, P, by omega, by omega, by go_num, rfl, HPL, HP, HOW, HB⟩
        case measure => simp [intOf]; omega
    · obtain rfl : i = N := by omega
      clear HCUT hlt
      go_upto_if 35 with (fail)
      go_cut [8] (fun v8 wx => ∃ (j k : Nat), v8 = .int .i64 k ∧ j ≤ A.length ∧ k = (textOf (A.take j)).length ∧ Kp (Below wo.heap.size wo wx))
      case first =>
        by_cases h0 : c = 0
        · subst h0
          go_wp2
          go_meet
          exact ⟨0, 0, rfl, Nat.zero_le _, by simp [textOf], HB⟩
        · have hcz : (0 : Int) < (c : Int) := by omega
          obtain ⟨vp, ep, gp⟩ := pick_nat a1 (c : Int) (by omega)
          have hvp : vp < c := by omega
          have CPC := Kp.mk (fun W => picked_any a1 (c : Int) W (by omega) (by omega) HI1.out.1 HI1.out.2)
          rw [ep] at CPC
          obtain ⟨g, rfl, _, _⟩ := own_some HOW.out (by omega)
          have hvl : vp < P.length := by rw [HPL.out]; exact hvp
          have hcc := (own_slc HOW.out).le
          have cx : wr.cell? ⟨g, vp, none⟩ = some (.int .i64 P[vp]) := by
            have := HOW.out.cellAt vp (by omega)
            rw [this]
            simp [ints, List.getElem?_eq_getElem hvl]
          obtain ⟨j, hj, hje⟩ := HP.out _ (List.getElem_mem hvl)
          rw [hje] at cx
          have HJ := Kp.mk hj
          obtain ⟨k, hk⟩ : ∃ k, (textOf (A.take j)).length = k := ⟨_, rfl⟩
          rw [hk] at cx
          have HK := Kp.mk hk
          clear hj hje hk ep HP HPL HOW hvl
          go_wp2_with (first
            | (go_at_call 9; with_reducible refine (CPC.out _).mono ?_; rintro e w' ⟨rfl, rfl⟩)
            | fail)
          go_meet
          exact ⟨j, k, rfl, HJ.out, HK.out.symm, HB⟩
      case rest =>
      obtain ⟨j, k, rfl, hj, hk, HBC⟩ := hcut
      obtain ⟨wd, rfl⟩ : ∃ x : World, x = wc := ⟨_, rfl⟩
      clear HOW HB HPL HP HI1
      have HBD := Kp.mk (below_step HB2.out HBC.out)
      -- the texts and what is told
      have o0 := HO.out
      have l0 := HL0.out
      have oB : ∀ c ∈ A.take j ++ badC q :: A.drop j, c.Ok := fun c hc => by
        rcases List.mem_append.1 hc with hc | hc
        · exact o0 c (List.mem_of_mem_take hc)
        · rcases List.mem_cons.1 hc with rfl | hc
          · exact HQ.out
          · exact o0 c (List.mem_of_mem_drop hc)
      have o1 : ∀ c ∈ A.take j, c.Ok := fun c hc => o0 c (List.mem_of_mem_take hc)
      have l1 : (A.take j).length ≤ 20 := by rw [List.length_take]; omega
      have lB : (A.take j ++ badC q :: A.drop j).length ≤ 21 := by rw [List.length_append, List.length_cons, List.length_take, List.length_drop]; omega
      have hT := HTB.out
      have hBig := HBG.out
      have CR1 := Kp.mk (fun W (hW : Below w.heap.size w W) => run_any A o0 (by omega) W (hT.below hW) (hBig.below hW))
      have CR2 := Kp.mk (fun W (hW : Below w.heap.size w W) => run_any (A.take j ++ badC q :: A.drop j) oB (by omega) W (hT.below hW) (hBig.below hW))
      have CR3 := Kp.mk (fun W (hW : Below w.heap.size w W) => run_any (A.take j) o1 (by omega) W (hT.below hW) (hBig.below hW))
      have CSU := Kp.mk (fun W (hW : Below w.heap.size w W) => sure_any W (hT.below hW) (hBig.below hW))
      have x1 := tell_len A o0 (by omega) A.length (Nat.le_refl _)
      rw [List.take_length] at x1
      have x1 : (tell [] A).length ≤ 200020 := by omega
      have t1 := textOf_len A o0
      have eT : textOf A = textOf (A.take j) ++ textOf (A.drop j) := cut_len A j
      have eX : tell [] A = tell [] (A.take j) ++ tell (after [] (A.take j)) (A.drop j) := by rw [← tell_append, List.take_append_drop]
      have eTB : textOf (A.take j ++ badC q :: A.drop j) = textOf (A.take j) ++ q ++ [10] ++ textOf (A.drop j) := by
        rw [textOf_append, textOf_cons]
        show _ ++ (q ++ [10] ++ _) = _
        simp only [List.append_assoc]
      have eXB : tell [] (A.take j ++ badC q :: A.drop j) = tell [] (A.take j) ++ [98, 97, 100, 10] ++ tell (after [] (A.take j)) (A.drop j) := by
        rw [tell_append]
        show _ ++ (([98, 97, 100, 10] : Wd) ++ tell (after [] (A.take j)) (A.drop j)) = _
        rw [List.append_assoc]
      have hql := HQ.out.len
      have hql2 : q.length ≤ 400 := hql
      rw [HTT.out, eX] at CR1
      rw [eTB, eXB] at CR2
      have hTT := HTT.out
      rw [eT] at hTT t1
      rw [eX] at x1
      clear o0 oB o1 l0 l1 lB hT hBig eT eX eTB eXB hql
      generalize textOf (A.take j) = U at *
      generalize textOf (A.drop j) = V at *
      generalize tell (after [] (A.take j)) (A.drop j) = Z at *
      generalize tell [] (A.take j) = X at *
      subst hTT
      have hUV : (U ++ V).length = i := HN.out
      have hkU : U.length = k := hk.symm
      have hki : k ≤ i := by rw [← hUV, List.length_append]; omega
      have f1 := ext_front U V k hkU
      have f2 := ext_tail U V k i hkU hUV
      have a1' : (⟨U.toArray⟩ : ByteArray) ++ ⟨q.toArray⟩ = ⟨(U ++ q).toArray⟩ := str_add U q
      have a2' : (⟨(U ++ q).toArray⟩ : ByteArray) ++ ⟨#[10]⟩ = ⟨(U ++ q ++ [10]).toArray⟩ := str_add (U ++ q) [10]
      have a3' : (⟨(U ++ q ++ [10]).toArray⟩ : ByteArray) ++ ⟨V.toArray⟩ = ⟨(U ++ q ++ [10] ++ V).toArray⟩ := str_add (U ++ q ++ [10]) V
      have hVl : V.length ≤ 10000 := by rw [List.length_append] at hUV; omega
      have s1 : (⟨U.toArray⟩ : ByteArray).size ≤ 10000 := str_size (by omega)
      have s2 : (⟨q.toArray⟩ : ByteArray).size ≤ 400 := str_size hql2
      have s3 : (⟨(U ++ q).toArray⟩ : ByteArray).size ≤ 10400 := str_size (by rw [List.length_append]; omega)
      have s4 : (⟨(U ++ q ++ [10]).toArray⟩ : ByteArray).size ≤ 10401 := str_size (by rw [List.length_append, List.length_append, List.length_singleton]; omega)
      have s5 : (⟨V.toArray⟩ : ByteArray).size ≤ 10000 := str_size hVl
      have s6 : (⟨(U ++ q ++ [10] ++ V).toArray⟩ : ByteArray).size ≤ 20401 := str_size (by rw [List.length_append, List.length_append, List.length_append, List.length_singleton]; omega)
      have sl1 : (⟨#[10]⟩ : ByteArray).size ≤ 1 := by decide
      obtain ⟨n1, hn1⟩ : ∃ n1, X.length = n1 := ⟨_, rfl⟩
      obtain ⟨nx, hnx⟩ : ∃ nx, (X ++ Z).length = nx := ⟨_, rfl⟩
      have hn1x : n1 ≤ nx := by rw [← hn1, ← hnx, List.length_append]; omega
      have hny : (X ++ [98, 97, 100, 10] ++ Z).length = nx + 4 := by rw [← hnx, List.length_append, List.length_append, List.length_append]; show _ + 4 + _ = _; omega
      have g1 := ext_tail X Z n1 nx hn1 hnx
      have b1 : (⟨X.toArray⟩ : ByteArray) ++ ⟨#[98, 97, 100, 10]⟩ = ⟨(X ++ [98, 97, 100, 10]).toArray⟩ := str_add X [98, 97, 100, 10]
      have b2 : (⟨(X ++ [98, 97, 100, 10]).toArray⟩ : ByteArray) ++ ⟨Z.toArray⟩ = ⟨(X ++ [98, 97, 100, 10] ++ Z).toArray⟩ := str_add (X ++ [98, 97, 100, 10]) Z
      rw [hnx] at x1
      have hx6 : nx ≤ 1000000 := by omega
      have hZl : Z.length ≤ 1000000 := by rw [List.length_append] at hnx; omega
      have s7 : (⟨X.toArray⟩ : ByteArray).size = n1 := by show X.toArray.size = n1; simpa using hn1
      have s8 : (⟨(X ++ Z).toArray⟩ : ByteArray).size = nx := by show (X ++ Z).toArray.size = nx; simpa using hnx
      have s9 : (⟨(X ++ [98, 97, 100, 10] ++ Z).toArray⟩ : ByteArray).size = nx + 4 := by show (X ++ [98, 97, 100, 10] ++ Z).toArray.size = nx + 4; simpa using hny
      have s10 : (⟨(X ++ [98, 97, 100, 10]).toArray⟩ : ByteArray).size ≤ 1000004 := str_size (by rw [List.length_append]; show _ + 4 ≤ _; omega)
      have s11 : (⟨Z.toArray⟩ : ByteArray).size ≤ 1000000 := str_size hZl
      have sl4 : (⟨#[98, 97, 100, 10]⟩ : ByteArray).size ≤ 4 := by decide
      have e4 : IntKind.i64.wrap ((nx : Int) + 4) = (nx : Int) + 4 := IntWalk.i64_in _ (by omega)
      have d4 : min (n1 : Int) (nx : Int) = (n1 : Int) := by omega
      have k0 : (0 : Int) ≤ (k : Int) := by omega
      have k1 : (k : Int) ≤ (i : Int) := by omega
      have k2 : (n1 : Int) ≤ (nx : Int) := by omega
      have hvz : (va : Int) < 9 := by omega
      have hld := HLDK.out wd
      have HBA := Kp.mk (below_step HBD.out (below_alloc (Nat.le_refl wd.heap.size) (.cells #[.string ⟨#[112, 117, 116, 32, 49, 32, 50]⟩, .string ⟨#[112, 117, 116, 32, 48, 49, 32, 50, 32, 51]⟩, .string ⟨#[100, 114, 111, 112, 32]⟩, .string ⟨#[97, 115, 107, 32, 119]⟩, .string ⟨#[99, 111, 117, 110, 116, 32, 49, 32, 50, 32, 51]⟩, .string ⟨#[108, 111, 97, 100, 32, 48]⟩, .string ⟨#[115, 107, 121, 32, 115, 107, 121]⟩, .string ⟨#[]⟩, .string ⟨#[97, 115, 107, 32, 105, 110, 32, 49, 32, 50, 32, 51, 32, 52, 32, 53]⟩] 9)))
      clear x1 t1 hk hkU hUV hn1 hnx hny hVl hZl hql2 HTT HN HO HL0 HQ HTB HBG HLDK hj
      generalize X ++ [98, 97, 100, 10] ++ Z = Y at *
      generalize X ++ [98, 97, 100, 10] = X4 at *
      generalize X ++ Z = XZ at *
      generalize U ++ q ++ [10] ++ V = Q4 at *
      generalize U ++ q ++ [10] = Q3 at *
      generalize U ++ q = Q2 at *
      generalize U ++ V = T at *
      go_wp2_with (first
        | (go_at_call 9; with_reducible refine (CPK.out _).mono ?_; rintro e w' ⟨rfl, rfl⟩)
        | fail)
      refine (CR1.out _ HBA.out).mono ?_
      rintro e w4 ⟨rfl, hb4⟩
      have HB4 := Kp.mk (below_step HBA.out hb4.out)
      have C2L := Kp.mk (fun X : Later w4 => show Calls Tryz.prog 7 #[str Q4] X.val (fun e w' => e = .returned (.tuple #[str Y, .int .i64 0]) ∧ Below X.val.heap.size X.val w') from (CR2.out X.val (below_step HB4.out X.le)).mono fun e w' ⟨he, hw⟩ => ⟨he, hw.out⟩)
      clear CR1 CR2 hb4 hld
      go_upto_region 13 with (fail)
      refine region_later (by kernel_rfl) (by kernel_rfl) ?_
      iterate 16 (go_big_quiet_step ((go_at_call 7; exact q_later (C2L.out _))))
      refine wpQuiet_nil ?_
      rintro w' ⟨xl, rfl⟩
      have HB5 := Kp.mk (below_step HB4.out xl.le)
      generalize xl.val = w5 at *
      clear C2L HB4
      go_wp2_with fail
      refine (CSU.out _ HB5.out).mono ?_
      rintro e w6 ⟨rfl, hb6⟩
      have HB6 := Kp.mk (below_step HB5.out hb6.out)
      clear CSU hb6
      go_wp2_with fail
      refine (CR3.out _ HB6.out).mono ?_
      rintro e w7 ⟨rfl, hb7⟩
      have HB7 := Kp.mk (below_step HB6.out hb7.out)
      clear CR3 hb7
      go_wp2
      go_ret
      exact ⟨rfl, HB7.out⟩

theorem walk_DeskBad (a0 : Option Addr) (len0 cap0 : Nat) (z0 : List Int) (a1 : Int) (w : World) (w0 : IsFlat 8 w a0 len0 cap0 z0) (w1 : (Lit.int .i64 a1).wf = true) (hT : Tab w) (hBig : Big w) :
    Calls Tryz.prog 5 #[.slice a0 len0 cap0, .int .i64 a1] w fun e w' => e = .returned (.bool true) ∧ Below w.heap.size w w' := by
  obtain ⟨C0, h0, c0, m0⟩ := chores_in w0
  obtain ⟨i1, i2⟩ := wf_bd w1
  obtain ⟨va, ea, ga⟩ := pick_nat a1 9 (by omega)
  have hva : va = 0 ∨ va = 1 ∨ va = 2 ∨ va = 3 ∨ va = 4 ∨ va = 5 ∨ va = 6 ∨ va = 7 ∨ va = 8 := by omega
  rcases hva with rfl | rfl | rfl | rfl | rfl | rfl | rfl | rfl | rfl
  · exact bad_tail a0 len0 cap0 C0 a1 0 w h0 c0 m0 i1 i2 ea (by omega) _ odd0 (fun W => (Box.new W _ 9).cell 0 rfl) hT hBig
  · exact bad_tail a0 len0 cap0 C0 a1 1 w h0 c0 m0 i1 i2 ea (by omega) _ odd1 (fun W => (Box.new W _ 9).cell 1 rfl) hT hBig
  · exact bad_tail a0 len0 cap0 C0 a1 2 w h0 c0 m0 i1 i2 ea (by omega) _ odd2 (fun W => (Box.new W _ 9).cell 2 rfl) hT hBig
  · exact bad_tail a0 len0 cap0 C0 a1 3 w h0 c0 m0 i1 i2 ea (by omega) _ odd3 (fun W => (Box.new W _ 9).cell 3 rfl) hT hBig
  · exact bad_tail a0 len0 cap0 C0 a1 4 w h0 c0 m0 i1 i2 ea (by omega) _ odd4 (fun W => (Box.new W _ 9).cell 4 rfl) hT hBig
  · exact bad_tail a0 len0 cap0 C0 a1 5 w h0 c0 m0 i1 i2 ea (by omega) _ odd5 (fun W => (Box.new W _ 9).cell 5 rfl) hT hBig
  · exact bad_tail a0 len0 cap0 C0 a1 6 w h0 c0 m0 i1 i2 ea (by omega) _ odd6 (fun W => (Box.new W _ 9).cell 6 rfl) hT hBig
  · exact bad_tail a0 len0 cap0 C0 a1 7 w h0 c0 m0 i1 i2 ea (by omega) _ odd7 (fun W => (Box.new W _ 9).cell 7 rfl) hT hBig
  · exact bad_tail a0 len0 cap0 C0 a1 8 w h0 c0 m0 i1 i2 ea (by omega) _ odd8 (fun W => (Box.new W _ 9).cell 8 rfl) hT hBig

end Go.Proofs.YtedchegejalolaaGreatDoor.Dk

