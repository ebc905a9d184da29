import Derived.Test.YtedchegejalolaaGreatDoorMs5
import Derived.Test.YtedchegejalolaaGreatDoorMs9
import Derived.Test.YtedchegejalolaaGreatDoorMs1
import Derived.Test.YtedchegejalolaaGreatDoorMs35
import Derived.Test.YtedchegejalolaaGreatDoorMs2
/- desk: Run. -/
namespace Go.Proofs.YtedchegejalolaaGreatDoor.Dk
set_option linter.unusedVariables false
open Go.RowKit

theorem trim_end (t : Wd) : Lib.trimSuffix (t ++ [10]) [10] = t := by
  unfold Lib.trimSuffix Lib.hasSuffix
  rw [if_pos (by rw [List.isSuffixOf_iff_suffix]; exact List.suffix_append t [10])]
  simp
theorem bcr_str (x y : Wd) : Lib.byteCells x ++ Lib.strCells ⟨y.toArray⟩ = Lib.byteCells (x ++ y) := by simp [Lib.byteCells, Lib.strCells]
/-- A builder stays where blocks of other types change. -/
theorem bldAt_chg {F : Nat → Prop} {B b : Nat} {p : Value} {bs : List Value} {w w' : World} (h : Lib.BuilderAt 48 5 B b p bs w) (hc : Chg F w w') (hF : ∀ k, F k → ∃ e, e ≠ 5 ∧ e ≠ 48 ∧ TyAt w k e) : Lib.BuilderAt 48 5 B b p bs w' := by
  obtain ⟨hB, v, hbk, hown, hne⟩ := h
  refine ⟨hB, v, ?_, ?_, hne⟩
  · rw [hc.block b (Array.getElem?_eq_some_iff.1 hbk).1 (fun e => by
      obtain ⟨t, _, h2, h3⟩ := hF b e
      exact TyAt.ne ⟨_, hbk⟩ h3 (Ne.symm h2) rfl)]
    exact hbk
  · refine ⟨hown.1, ?_⟩
    rcases hown.2 with h0 | ⟨g, cap, cur, hv, hB2, hgb, h1, h2, h3, h4⟩
    · exact .inl h0
    · refine .inr ⟨g, cap, cur, hv, hB2, ?_, h1, h2, h3, h4⟩
      rw [hc.block g (Array.getElem?_eq_some_iff.1 hgb).1 (fun e => by
        obtain ⟨t, h5, _, h6⟩ := hF g e
        exact TyAt.ne ⟨_, hgb⟩ h6 (Ne.symm h5) rfl)]
      exact hgb
theorem bld_chg {F : Nat → Prop} {B b : Nat} {bs : List Value} {w w' : World} (h : Lib.IsBuilder 48 5 B b bs w) (hc : Chg F w w') (hF : ∀ k, F k → ∃ e, e ≠ 5 ∧ e ≠ 48 ∧ TyAt w k e) : Lib.IsBuilder 48 5 B b bs w' := by
  rcases h with h | h
  · exact .inl (bldAt_chg h hc hF)
  · exact .inr (bldAt_chg h hc hF)
theorem DS.types {w : World} {B db pc : Nat} {pa : Option Addr} {L : List Pt} (h : DS w B db pa pc L) : ∀ k, Fd db pa k → ∃ e, e ≠ 5 ∧ e ≠ 48 ∧ TyAt w k e := fun k hk => by
  rcases hk with rfl | hk
  · exact ⟨44, by decide, by decide, ⟨_, h.box⟩⟩
  · exact ⟨78, by decide, by decide, (ty_own h.row hk).1⟩
theorem DS.low {w : World} {B db pc : Nat} {pa : Option Addr} {L : List Pt} (h : DS w B db pa pc L) : ∀ k, Fd db pa k → B ≤ k := fun k hk => by
  rcases hk with rfl | hk
  · exact h.lo
  · exact (ty_own h.row hk).2
/-- A desk stays where a builder writes. -/
theorem DS.kept8 {w w' : World} {B db pc b : Nat} {pa : Option Addr} {L : List Pt} (h : DS w B db pa pc L) (hk : Kept8 b w w') (hb : TyAt w b 48) : DS w' B db pa pc L := by
  refine ⟨?_, ⟨h.row.1, ?_⟩, h.lo⟩
  · exact (hk.same db h.box.lt (TyAt.ne ⟨_, h.box⟩ hb (by decide)) (fun cs fr e => by
      have := h.box
      unfold Box at this
      rw [this] at e; cases e)).trans h.box
  · rcases h.row.2 with h0 | ⟨g, cap, cur, hv, hB, hgb, h1, h2, h3, h4⟩
    · exact .inl h0
    · refine .inr ⟨g, cap, cur, hv, hB, ?_, h1, h2, h3, h4⟩
      rw [hk.same g (Array.getElem?_eq_some_iff.1 hgb).1 (TyAt.ne ⟨_, hgb⟩ hb (by decide)) (fun cs fr e => by rw [hgb] at e; cases e)]
      exact hgb
theorem bld_ty {B b : Nat} {bs : List Value} {w : World} (h : Lib.IsBuilder 48 5 B b bs w) : TyAt w b 48 := by
  obtain ⟨q, hq⟩ := isBld_heap h
  exact ⟨_, hq⟩
theorem run_none (w : World) : Calls Tryz.prog 7 #[str []] w fun e w' => e = .returned (.tuple #[str [], .int .i64 0]) ∧ Kp (Below w.heap.size w w') := by
  go_enter Tryz.func7, Tryz.ntmps7
  go_wp2
  refine bodyPost_ret (v := .tuple #[str [], .int .i64 0]) (by simp [results, Tryz.results7, go_sem]) rfl ?_
  exact ⟨rfl, ⟨Below.refl _ _⟩⟩

set_option maxRecDepth 100000 in
set_option maxHeartbeats 16000000 in
theorem run_some (A : List Cmd) (hA : ∀ c ∈ A, c.Ok) (hl : A.length ≤ 60) (h0 : A ≠ []) (w : World) (hT : Tab w) (hBig : Big w) :
    Calls Tryz.prog 7 #[str (textOf A)] w fun e w' => e = .returned (.tuple #[str (tell [] A), .int .i64 0]) ∧ Kp (Below w.heap.size w w') := by
  have htl := textOf_len A hA
  have HJ := textOf_join A h0
  have hjl : (joinC 10 (A.map (·.t))).length ≤ 24060 := by
    rw [HJ, List.length_append] at htl
    omega
  have hne : (textOf A == []) = false := by
    rw [beq_eq_false_iff_ne, HJ]
    intro e
    simp at e
  have CTR := Kp.mk (Tryz.strings_TrimSuffix ⟨(textOf A).toArray⟩ ⟨#[10]⟩ w (by have := str_size (t := textOf A) (n := 25000) (by omega); omega))
  rw [show Lib.trimSuffix (⟨(textOf A).toArray⟩ : ByteArray).data.toList (⟨#[10]⟩ : ByteArray).data.toList = joinC 10 (A.map (·.t)) from by
    show Lib.trimSuffix (textOf A).toArray.toList [10] = _
    simp only [HJ]
    exact trim_end _] at CTR
  have CSP := Kp.mk (fun W hW => split_any 10 (A.map (·.t)) (by simpa using h0) (by
    intro t ht
    obtain ⟨c, hc, rfl⟩ := List.mem_map.1 ht
    exact (hA c hc).nl) (by omega) W (hBig.below hW))
  have HA := Kp.mk hA
  have HTB := Kp.mk hT
  have HBG := Kp.mk hBig
  obtain ⟨n, hn⟩ : ∃ n, A.length = n := ⟨_, rfl⟩
  have HN := Kp.mk hn
  have hlm : (A.map (·.t)).length = n := by rw [List.length_map]; exact hn
  rw [hlm] at CSP
  rw [hn] at hl
  have hn0 : 0 < n := by rw [← hn]; exact List.length_pos_iff.2 h0
  generalize textOf A = txt at *
  generalize joinC 10 (A.map (·.t)) = jn at *
  clear hA hT hBig htl HJ hjl h0 hn
  go_enter Tryz.func7, Tryz.ntmps7
  go_wp2_with fail
  refine CTR.out.mono ?_
  rintro e wo' ⟨rfl, rfl⟩
  obtain ⟨wo, rfl⟩ : ∃ x : World, x = wo' := ⟨_, rfl⟩
  go_wp2_with fail
  refine (CSP.out _ (Below.refl _ _)).mono ?_
  rintro e w1 ⟨rfl, hw1⟩
  have hal := below_alloc (Nat.le_refl wo.heap.size) (.cells (strs (A.map (·.t))).toArray 9)
  have HSL := Kp.mk (show SlC w1 (some ⟨wo.heap.size, 0, none⟩) n n 1 (strs (A.map (·.t))) from by
    rw [hw1]
    exact own_slc (B := 0) (e := 9) ⟨by rw [strs_length, hlm, Nat.mul_one], .inr ⟨wo.heap.size, n, (strs (A.map (·.t))).toArray, rfl, Nat.zero_le _, heap_alloc_new wo _, Nat.le_refl _, by unfold maxLen; omega, by simp [strs_length, hlm], by simp [List.take_of_length_le, strs_length, hlm]⟩⟩)
  rw [← hw1] at hal
  have HB1 := Kp.mk hal
  have hdal := below_alloc (Nat.le_refl w1.heap.size) (.cells #[.slice none 0 0] 44)
  have hd := Box.new w1 #[.slice none 0 0] 44
  obtain ⟨B, hB⟩ : ∃ B, w1.heap.size = B := ⟨_, rfl⟩
  have HBE := Kp.mk hB
  have hs2 : (w1.alloc (.cells #[.slice none 0 0] 44)).heap.size = B + 1 := by rw [alloc_size, hB]
  obtain ⟨w2, hw2⟩ : ∃ w2, w1.alloc (.cells #[.slice none 0 0] 44) = w2 := ⟨_, rfl⟩
  rw [hw2] at hs2 hd hdal
  rw [hB] at hd hdal
  have hal3 := below_alloc (Nat.le_refl w2.heap.size) (.cells #[.pointer none, .slice none 0 0] 48)
  have hbx := Box.new w2 #[.pointer none, .slice none 0 0] 48
  rw [hs2] at hbx hal3
  have hd3 := hd.alloc (.cells #[.pointer none, .slice none 0 0] 48)
  obtain ⟨w3, hw3⟩ : ∃ w3, w2.alloc (.cells #[.pointer none, .slice none 0 0] 48) = w3 := ⟨_, rfl⟩
  rw [hw3] at hbx hd3 hal3
  have HD3 := Kp.mk (show DS w3 B B none 0 [] from ⟨hd3, World.ownsRow_nil _ _ _ _, Nat.le_refl _⟩)
  have HI3 := Kp.mk (show Lib.IsBuilder 48 5 B (B + 1) (Lib.byteCells []) w3 from
    .inl ⟨Nat.le_succ _, .slice none 0 0, hbx, World.ownsRow_nil _ _ _ _, by simp [Value.ownBlock]⟩)
  have HSZ3 := Kp.mk (show B ≤ w3.heap.size from by have := hal3.size; omega)
  have HB3 := Kp.mk (show Below B w1 w3 from hdal.trans (hal3.mono (Nat.le_succ _)))
  have HW2 := Kp.mk hw2
  have HW3 := Kp.mk hw3
  have HS2 := Kp.mk hs2
  clear hal hw1 hdal hd hs2 hw2 hal3 hbx hd3 hw3 hB CTR CSP hlm
  go_upto_region 8 with (fail)
  simp only [HBE.out, HW2.out, HW3.out]
  clear HW2 HW3 HS2
  obtain ⟨wp, rfl⟩ : ∃ wp : World, wp = w3 := ⟨_, rfl⟩
  go_wp2
  go_loopw [21] (fun iv wr => ∃ (k pc : Nat) (pa : Option Addr), k ≤ n ∧ iv = .int .i64 k ∧ Kp (DS wr B B pa pc (after [] (A.take k))) ∧ Kp (Lib.IsBuilder 48 5 B (B + 1) (Lib.byteCells (tell [] (A.take k))) wr) ∧ Kp (Below B w1 wr) ∧ B ≤ wr.heap.size) (fun iv _ => n - (intOf iv).toNat)
  case atStart => exact ⟨0, 0, none, Nat.zero_le _, rfl, HD3, HI3, HB3, HSZ3.out⟩
  case round =>
    clear HD3 HI3 HB3 HSZ3
    obtain ⟨k, pc, pa, hk, rfl, HD, HI, HB, hsz⟩ := hrel
    by_cases hlt : k < n
    · have hkA : k < A.length := by rw [HN.out]; exact hlt
      have hbw : Below w1.heap.size w1 wr := by rw [HBE.out]; exact HB.out
      obtain ⟨lb, lo, ee, c1⟩ := (HSL.out.below hbw).cell k (by rw [strs_length, List.length_map]; exact hkA)
      cases ee
      simp only [Nat.zero_add] at c1
      rw [show (strs (A.map (·.t)))[k]'(by rw [strs_length, List.length_map]; exact hkA) = str A[k].t by simp [strs]] at c1
      have hok := HA.out _ (List.getElem_mem hkA)
      have hfit := fit_after A HA.out (by rw [HN.out]; exact hl) k (by omega)
      have htl := tell_len A HA.out (by rw [HN.out]; exact hl) k (by omega)
      have hal := hok.alen k _ (by omega) hfit
      have HTS := Kp.mk (tell_snoc A [] k hkA)
      have HAS := Kp.mk (after_snoc A [] k hkA)
      have hlow : ∀ W, Below B wr W → Below wo.heap.size wo W := fun W hW => below_step HB1.out (show Below w1.heap.size w1 W from by rw [HBE.out]; exact HB.out.trans hW)
      have CR := hok.runs k (by omega) (after [] (A.take k)) B B pc pa wr hfit HD.out hsz (fun W hW => HTB.out.below (hlow W hW)) (fun W hW => HBG.out.below (hlow W hW))
      obtain ⟨X, hX⟩ : ∃ X, A[k].nxt (after [] (A.take k)) = X := ⟨_, rfl⟩
      rw [hX] at CR HAS
      have hcl := hok.len
      obtain ⟨T, hT⟩ : ∃ T, A[k].t = T := ⟨_, rfl⟩
      obtain ⟨N, hN⟩ : ∃ N, A[k].ans (after [] (A.take k)) = N := ⟨_, rfl⟩
      obtain ⟨P, hP⟩ : ∃ P, tell [] (A.take k) = P := ⟨_, rfl⟩
      rw [hT] at c1 CR hcl
      rw [hN] at CR hal HTS
      rw [hP] at HI htl HTS
      have CRK := Kp.mk CR
      have szT : (⟨T.toArray⟩ : ByteArray).size ≤ 400 := str_size hcl
      have szN : (⟨N.toArray⟩ : ByteArray).size ≤ 10000 := str_size hal
      have sz1 : (⟨#[10]⟩ : ByteArray).size ≤ 1 := by decide
      have hadd : (⟨N.toArray⟩ : ByteArray) ++ ⟨#[10]⟩ = ⟨(N ++ [10]).toArray⟩ := str_add N [10]
      have hNl : (N ++ [10]).length ≤ 10001 := by rw [List.length_append, List.length_singleton]; omega
      obtain ⟨N1, hN1⟩ : ∃ N1, N ++ [10] = N1 := ⟨_, rfl⟩
      rw [hN1] at hadd HTS hNl
      have szN1 : (⟨N1.toArray⟩ : ByteArray).size ≤ 10001 := str_size hNl
      clear hok hfit hal CR hT hN hP hX hN1 hbw hlow hkA
      go_wp2_with fail
      refine CRK.out.mono ?_
      rintro e w4 ⟨pa', pc', rfl, HO⟩
      have hB4 := HO.out.chg.below hsz HD.out.low
      have HI4 := Kp.mk (bld_chg HI.out HO.out.chg HD.out.types)
      have HB4 := Kp.mk (HB.out.trans hB4)
      have hsz4 : B ≤ w4.heap.size := Nat.le_trans hsz HO.out.chg.size
      have hbl : (Lib.byteCells P).length ≤ 610000 := by rw [Lib.byteCells_length]; omega
      have CW := Kp.mk (writeString_any B (B + 1) _ ⟨N1.toArray⟩ w4 HI4.out (by have := szN1; omega) hsz4)
      rw [bcr_str] at CW
      clear CRK HI HB c1 hB4 hbl
      go_wp2_with fail
      refine CW.out.mono ?_
      rintro e w5 ⟨rfl, hbd5, hb5, hk5⟩
      have HD5 := Kp.mk (show DS w5 B B pa' pc' (after [] (A.take (k + 1))) from by rw [HAS.out]; exact HO.out.ds.kept8 hk5 (bld_ty HI4.out))
      have HI5 := Kp.mk (show Lib.IsBuilder 48 5 B (B + 1) (Lib.byteCells (tell [] (A.take (k + 1)))) w5 from by rw [HTS.out]; exact .inr hbd5)
      have HB5 := Kp.mk (HB4.out.trans hb5)
      have hsz5 : B ≤ w5.heap.size := Nat.le_trans hsz4 hk5.size
      clear CW hbd5 hb5 hk5 HI4 HB4 HO HD HTS HAS
      go_wp2
      go_roundw
      case rel => exact ⟨k + 1, pc', pa', by omega, by go_num, HD5, HI5, HB5, hsz5⟩
      case measure => simp [intOf]; omega
    · obtain rfl : k = n := by omega
      have HTK := Kp.mk (show A.take k = A from List.take_of_length_le (by rw [HN.out]; exact Nat.le_refl _))
      rw [HTK.out] at HI
      have CS := Kp.mk (Tryz.Builder_String_any B (B + 1) (tell [] A) wr HI.out hsz)
      have HBW := Kp.mk (below_step HB1.out (show Below w1.heap.size w1 wr from by rw [HBE.out]; exact HB.out))
      obtain ⟨res, hres⟩ : ∃ r, tell [] A = r := ⟨_, rfl⟩
      rw [hres] at CS
      have HRES := Kp.mk hres
      clear HI HD HB HTK hres
      go_wp2_with fail
      refine CS.out.mono ?_
      rintro e w5 ⟨rfl, hb5⟩
      have HBF := Kp.mk (HBW.out.trans (hb5.mono (by have := HB1.out.size; have := HBE.out; omega)))
      clear CS
      go_wp2
      refine bodyPost_ret (v := .tuple #[str res, .int .i64 0]) (by simp [results, Tryz.results7, go_sem]) rfl ?_
      exact ⟨by rw [HRES.out], HBF⟩
theorem run_any (A : List Cmd) (hA : ∀ c ∈ A, c.Ok) (hl : A.length ≤ 60) (w : World) (hT : Tab w) (hBig : Big w) :
    Calls Tryz.prog 7 #[str (textOf A)] w fun e w' => e = .returned (.tuple #[str (tell [] A), .int .i64 0]) ∧ Kp (Below w.heap.size w w') := by
  by_cases h : A = []
  · subst h; exact run_none w
  · exact run_some A hA hl h w hT hBig

end Go.Proofs.YtedchegejalolaaGreatDoor.Dk

/- desk: a beginning of a session is a session: the walk. -/
namespace Go.Proofs.YtedchegejalolaaGreatDoor.Dk
set_option linter.unusedVariables false
open Go.RowKit Go.Deep

theorem sure_text : textOf [putC 1 2 3] = [112, 117, 116, 32, 49, 32, 50, 32, 51, 10] := by
  have i1 := itoa_dig 1 (by omega)
  have i2 := itoa_dig 2 (by omega)
  have i3 := itoa_dig 3 (by omega)
  unfold textOf putC
  rw [show Lib.itoa 1 = [49] from i1, show Lib.itoa 2 = [50] from i2, show Lib.itoa 3 = [51] from i3]
  decide
theorem sure_tell : tell [] [putC 1 2 3] = [111, 107, 32, 48, 10] := by
  have i0 := itoa_dig 0 (by omega)
  show toldT okW [((0 : Nat) : Int)] ++ [10] ++ [] = _
  unfold toldT Ex.num
  rw [List.map_cons, i0]
  decide
theorem sure_any (w : World) (hT : Tab w) (hBig : Big w) : Calls Tryz.prog 8 #[] w fun e w' => e = .returned (.bool true) ∧ Kp (Below w.heap.size w w') := by
  have CR := Kp.mk (run_any [putC 1 2 3] (fun c hc => by rw [List.mem_singleton.1 hc]; exact put_ok (num3 (by omega) (by omega)) (num3 (by omega) (by omega)) (num3 (by omega) (by omega))) (by decide) w hT hBig)
  rw [sure_text, sure_tell] at CR
  clear hT hBig
  go_enter Tryz.func8, Tryz.ntmps8
  go_wp2_with fail
  refine CR.out.mono ?_
  rintro e w1 ⟨rfl, HB⟩
  clear CR
  go_wp2
  go_ret
  exact ⟨rfl, HB⟩
theorem cmds_ok (C : List Ch) (n : Nat) : ∀ c ∈ (C.take n).map cmdOf, c.Ok := fun c hc => by
  obtain ⟨h, _, rfl⟩ := List.mem_map.1 hc
  exact cmdOf_ok h
theorem cmds_len (C : List Ch) (n : Nat) : ((C.take n).map cmdOf).length ≤ n := by
  rw [List.length_map, List.length_take]; exact Nat.min_le_left _ _
theorem ext_front (X Y : Wd) (n : Nat) (h : X.length = n) : (⟨(X ++ Y).toArray⟩ : ByteArray).extract 0 n = ⟨X.toArray⟩ := by
  apply ByteArray.ext
  apply Array.ext'
  simp only [ByteArray.data_extract, Array.toList_extract, List.extract_eq_take_drop]
  subst h
  simp
theorem ext_back (X Y : Wd) (n m : Nat) (h : X.length = n) (hm : (X ++ Y).length = m) : (⟨(X ++ Y).toArray⟩ : ByteArray).extract n m = ⟨Y.toArray⟩ := by
  apply ByteArray.ext
  apply Array.ext'
  simp only [ByteArray.data_extract, Array.toList_extract, List.extract_eq_take_drop]
  subst h hm
  rw [List.length_append, Nat.add_sub_cancel_left, List.drop_left, List.take_length]

end Go.Proofs.YtedchegejalolaaGreatDoor.Dk

/- lastOf: the last line. -/
namespace Go.Proofs.YtedchegejalolaaGreatDoor.Dk
set_option linter.unusedVariables false
open Go.RowKit Qk

theorem extract_mid (P t R : Wd) : (⟨(P ++ t ++ R).toArray⟩ : ByteArray).extract P.length (P.length + t.length) = ⟨t.toArray⟩ := by
  apply ByteArray.ext
  apply Array.ext'
  simp only [ByteArray.data_extract, Array.toList_extract, List.extract_eq_take_drop]
  rw [show P.length + t.length - P.length = t.length by omega, List.append_assoc, List.drop_left, List.take_left]

set_option maxRecDepth 100000 in
set_option maxHeartbeats 8000000 in
theorem lastOf_any (P t : Wd) (hP : P = [] ∨ ∃ P', P = P' ++ [10]) (ht : ∀ x ∈ t, x ≠ 10) (hl : P.length + t.length ≤ 1000000) (w : World) :
    Calls Tryz.prog 10 #[str (P ++ t ++ [10])] w fun e w' => e = .returned (str t) ∧ Kp (Below w.heap.size w w') := by
  obtain ⟨p, hp⟩ : ∃ p, P.length = p := ⟨_, rfl⟩
  obtain ⟨m, hm⟩ : ∃ m, t.length = m := ⟨_, rfl⟩
  have hext := extract_mid P t [10]
  rw [hp, hm] at hext
  have HI := Kp.mk (fun (i : Nat) (c : UInt8) (h : (P ++ t ++ [10])[i]? = some c) (W : World) => show (Instr.index 9 (str (P ++ t ++ [10])) (.int .i64 i)).run Tryz.prog W = .ok (.int .u8 (c.toNat : Int)) W by
    obtain ⟨h1, h2⟩ := List.getElem?_eq_some_iff.1 h
    have := str_idx (P ++ t ++ [10]) i h1 W
    rwa [h2] at this)
  have HS := Kp.mk (show (P ++ t ++ [10]).length = p + m + 1 by simp; omega)
  have HE := Kp.mk (show (P ++ t ++ [10])[p + m]? = some 10 by rw [List.getElem?_append_right (by simp; omega)]; simp [hp, hm])
  have HM := Kp.mk (fun (i : Nat) (h1 : p ≤ i) (h2 : i < p + m) => show ∃ c, (P ++ t ++ [10])[i]? = some c ∧ c ≠ 10 by
    refine ⟨t[i - p]'(by omega), ?_, ht _ (List.getElem_mem _)⟩
    rw [List.getElem?_append_left (by simp; omega), List.getElem?_append_right (by omega), hp, List.getElem?_eq_getElem (by omega)])
  have HL := Kp.mk (fun (h1 : 0 < p) => show (P ++ t ++ [10])[p - 1]? = some 10 by
    rcases hP with h | ⟨P', h⟩
    · subst h; simp at hp; omega
    · subst h
      have hpl : p - 1 = P'.length := by simp at hp; omega
      rw [List.getElem?_append_left (by simp at hp ⊢; omega), List.getElem?_append_left (by simp at hp ⊢; omega), List.getElem?_append_right (by omega)]
      simp [hpl])
  generalize P ++ t ++ [10] = S at *
  have hsz : (⟨S.toArray⟩ : ByteArray).size = p + m + 1 := by show S.toArray.size = _; simpa using HS.out
  rw [hp, hm] at hl
  have hidx := HI.out (p + m) 10 HE.out
  have e1 : IntKind.i64.wrap ((p : Int) + m + 1 - 1) = (p : Int) + m := by rw [show (p : Int) + m + 1 - 1 = (p : Int) + m by omega]; exact IntWalk.i64_in _ (by omega)
  have e2 : IntKind.i64.wrap ((p : Int) + m) = (p : Int) + m := IntWalk.i64_in _ (by omega)
  obtain ⟨E, hE⟩ : ∃ E, p + m = E := ⟨_, rfl⟩
  have HEE := Kp.mk hE
  rw [hE] at hext hsz hidx
  have hEz : (p : Int) + m = (E : Int) := by omega
  rw [hEz] at e1 e2
  have e3 : IntKind.i64.wrap ((E : Int) + 1 - 1) = (E : Int) := by rw [show (E : Int) + 1 - 1 = (E : Int) by omega]; exact IntWalk.i64_in _ (by omega)
  have e4 : IntKind.i64.wrap (E : Int) = (E : Int) := IntWalk.i64_in _ (by omega)
  have hE0 : ¬ (E : Int) < 0 := by omega
  clear hP ht hp hm e1 e2 hEz hE HE
  go_enter Tryz.func10, Tryz.ntmps10
  go_upto_region 4 with (fail)
  clear hidx
  go_wp2
  go_loopw [4] (fun fv wr => ∃ f : Nat, p ≤ f ∧ f ≤ E ∧ fv = .int .i64 f ∧ wr = w) (fun fv _ => (intOf fv).toNat)
  case atStart => exact ⟨E, by have := HEE.out; omega, Nat.le_refl _, rfl, rfl⟩
  case round =>
    obtain ⟨f, hf1, hf2, rfl, rfl⟩ := hrel
    by_cases hf : p < f
    · obtain ⟨g, rfl⟩ : ∃ g, f = g + 1 := ⟨f - 1, by omega⟩
      have hEE := HEE.out
      obtain ⟨c, hgc, hgn⟩ := HM.out g (by omega) (by omega)
      have hgi := HI.out g c hgc
      clear hgc
      have e5 : IntKind.i64.wrap ((g : Int) + 1 - 1) = (g : Int) := by rw [show (g : Int) + 1 - 1 = (g : Int) by omega]; exact IntWalk.i64_in _ (by omega)
      have e6 : IntKind.i64.wrap (g : Int) = (g : Int) := IntWalk.i64_in _ (by omega)
      have z1 : ((c.toNat : Int) != 10) = true := by
        rw [bne_iff_ne]
        intro e
        exact hgn (UInt8.toNat_inj.1 (by have : c.toNat = 10 := by omega
                                         simpa using this))
      clear hgn
      go_wp2
      go_roundw
      case rel => exact ⟨g, by omega, by omega, by go_num, by first | rfl | trivial⟩
      case measure => simp [intOf]
    · obtain rfl : f = p := by omega
      by_cases h0 : f = 0
      · subst h0
        go_wp2
        go_ret
        exact ⟨rfl, ⟨Below.refl _ _⟩⟩
      · obtain ⟨g, rfl⟩ : ∃ g, f = g + 1 := ⟨f - 1, by omega⟩
        have hEE := HEE.out
        have hgn := HL.out (by omega)
        simp only [Nat.add_sub_cancel] at hgn
        have hgi := HI.out g 10 hgn
        have e5 : IntKind.i64.wrap ((g : Int) + 1 - 1) = (g : Int) := by rw [show (g : Int) + 1 - 1 = (g : Int) by omega]; exact IntWalk.i64_in _ (by omega)
        have e6 : IntKind.i64.wrap (g : Int) = (g : Int) := IntWalk.i64_in _ (by omega)
        clear hgn
        go_wp2
        go_ret
        exact ⟨rfl, ⟨Below.refl _ _⟩⟩

end Go.Proofs.YtedchegejalolaaGreatDoor.Dk

/- desk: what is saved is loaded: the walk. -/
namespace Go.Proofs.YtedchegejalolaaGreatDoor.Dk
set_option linter.unusedVariables false
open Go.RowKit Go.Deep

theorem dec_clean : ∀ (f u : Nat), u < f → ∀ c ∈ Lib.decDigits u, c ≠ 10 := by
  intro f
  induction f with
  | zero => intro u h; omega
  | succ f ih =>
    intro u h c hc
    have hd : ∀ d : Nat, d < 10 → UInt8.ofNat (48 + d) ≠ 10 := by
      intro d hd
      have : ∀ i : Fin 10, UInt8.ofNat (48 + i.val) ≠ 10 := by decide
      exact this ⟨d, hd⟩
    rw [Lib.decDigits] at hc
    by_cases h1 : u < 10
    · rw [dif_pos h1] at hc
      rw [List.mem_singleton.1 hc]
      exact hd u h1
    · rw [dif_neg h1] at hc
      rcases List.mem_append.1 hc with hc | hc
      · exact ih (u / 10) (by omega) c hc
      · rw [List.mem_singleton.1 hc]
        exact hd _ (by omega)
theorem itoa_clean (x : Int) : ∀ c ∈ Lib.itoa x, c ≠ 10 := by
  intro c hc
  unfold Lib.itoa at hc
  split at hc
  · rcases List.mem_cons.1 hc with rfl | hc
    · decide
    · exact dec_clean _ _ (Nat.lt_succ_self _) c hc
  · exact dec_clean _ _ (Nat.lt_succ_self _) c hc
theorem told_clean {word : Wd} (hw : ∀ c ∈ word, c ≠ 10) (l : List Int) : ∀ c ∈ toldT word l, c ≠ 10 := by
  intro c hc
  unfold toldT at hc
  rcases List.mem_append.1 hc with hc | hc
  · exact hw c hc
  · obtain ⟨t, ht, hc⟩ := List.mem_flatten.1 hc
    obtain ⟨x, _, rfl⟩ := List.mem_map.1 ht
    unfold Ex.num at hc
    rcases List.mem_cons.1 hc with rfl | hc
    · decide
    · exact itoa_clean x c hc
/-- A look at the points. -/
structure Cmd.Look (Q : Cmd) : Prop where
  ok : Q.Ok
  clean : ∀ L, ∀ c ∈ Q.ans L, c ≠ 10
  long : ∀ L, 2 < (Q.ans L).length
theorem look0 : skyC.Look := ⟨sky_ok, fun L => told_clean (by decide) _, fun L => by
  show 2 < (idsW ++ _).length
  rw [List.length_append]; show 2 < 3 + _; omega⟩
theorem look1 : areaC.Look := ⟨area_ok, fun L c hc => by
  have hc2 : c ∈ areaT L := hc
  unfold areaT at hc2
  split at hc2
  · exact (show ∀ c ∈ noneW, c ≠ 10 by decide) c hc2
  · exact told_clean (by decide) _ c hc2, fun L => by
  show 2 < (areaT L).length
  unfold areaT
  split
  · decide
  · show 2 < (areaW ++ _).length
    rw [List.length_append]; show 2 < 4 + _; omega⟩
theorem save_clean (L : List Pt) : ∀ c ∈ saveT L, c ≠ 10 := fun c hc => by
  rcases List.mem_append.1 hc with hc | hc
  · exact (show ∀ c ∈ imageW, c ≠ 10 by decide) c hc
  · exact fun e => hexT_plain _ (saveL_lt L) (e ▸ hc)
theorem look2 : saveC.Look := ⟨save_ok, save_clean, fun L => by
  show 2 < (imageW ++ _).length
  rw [List.length_append]; show 2 < 6 + _; omega⟩
theorem look3 : (askC exA3).Look := ⟨ask3_ok, fun L => told_clean (by decide) _, fun L => by
  show 2 < (idsW ++ _).length
  rw [List.length_append]; show 2 < 3 + _; omega⟩
theorem tell_end : ∀ (A : List Cmd) (L : List Pt), tell L A = [] ∨ ∃ P', tell L A = P' ++ [10]
  | [], L => .inl rfl
  | c :: A, L => by
    rcases tell_end A (c.nxt L) with h | ⟨P', h⟩
    · exact .inr ⟨c.ans L, by show c.ans L ++ [10] ++ tell (c.nxt L) A = _; rw [h]; simp⟩
    · exact .inr ⟨c.ans L ++ [10] ++ P', by show c.ans L ++ [10] ++ tell (c.nxt L) A = _; rw [h]; simp⟩
theorem after_len : ∀ (A : List Cmd) (L : List Pt), (∀ c ∈ A, ∀ L, (c.nxt L).length ≤ L.length + 1) → (after L A).length ≤ L.length + A.length
  | [], L, _ => by simp [after]
  | c :: A, L, h => by
    have h1 := after_len A (c.nxt L) (fun d hd => h d (List.mem_cons_of_mem _ hd))
    have h2 := h c (by simp) L
    show (after (c.nxt L) A).length ≤ _
    rw [List.length_cons]; omega
theorem cmdOf_small (h : Ch) (L : List Pt) : ((cmdOf h).nxt L).length ≤ L.length + 1 := by
  unfold cmdOf
  split
  · simp [putC]
  split
  · simp only [dropC, List.length_dropLast]; omega
  split
  · exact Nat.le_succ _
  split
  · exact Nat.le_succ _
  split
  · split
    · exact Nat.le_succ _
    split
    · exact Nat.le_succ _
    split
    · exact Nat.le_succ _
    · exact Nat.le_succ _
  · exact Nat.le_succ _

theorem five_text (L : List Pt) (Q : Cmd) : textOf [putC 5 5 5, loadC L, Q] = [112, 117, 116, 32, 53, 32, 53, 32, 53, 10, 108, 111, 97, 100, 32] ++ hexT (saveL L) ++ [10] ++ textOf [Q] := by
  have i5 := itoa_dig 5 (by omega)
  rw [textOf_cons, textOf_cons]
  unfold putC loadC
  rw [show Lib.itoa 5 = [53] from i5]
  simp [putK, loadK, joinC]
theorem image_ext (X : Wd) : (⟨(imageW ++ X).toArray⟩ : ByteArray).extract 0 6 = ⟨#[105, 109, 97, 103, 101, 32]⟩ := ext_front imageW X 6 rfl

set_option maxRecDepth 100000 in
set_option maxHeartbeats 16000000 in
/-- The walk once the look is chosen. -/
theorem saved_look (a0 : Option Addr) (len0 cap0 : Nat) (C0 : List Ch) (a1 : Int) (va : Nat) (w : World) (h0 : SlF chL 8 w a0 len0 cap0 C0) (c0 : ∀ x ∈ C0, x.Wf) (m0 : len0 ≤ maxLen) (i1 : -9223372036854775808 ≤ a1) (i2 : a1 ≤ 9223372036854775807) (ea : pick a1 4 = (va : Int)) (hva : va < 4) (Q : Cmd) (hQ : Q.Look) (q : Wd) (hqt : Q.t = q)
    (HLD : ∀ W : World, (W.alloc (.cells #[.string ⟨#[115, 107, 121]⟩, .string ⟨#[97, 114, 101, 97]⟩, .string ⟨#[115, 97, 118, 101]⟩, .string ⟨#[97, 115, 107, 32, 119, 32, 51, 32, 38, 32, 105, 110, 32, 48, 32, 48, 32, 50, 48, 32, 50, 48]⟩] 9)).cell? ⟨W.heap.size, va, none⟩ = some (str q)) (hT : Tab w) (hBig : Big w) :
    Calls Tryz.prog 4 #[.slice a0 len0 cap0, .int .i64 a1] w fun e w' => e = .returned (.bool true) ∧ Below w.heap.size w w' := by
  have CA := Kp.mk (lines_any a0 cap0 len0 C0 20 (by omega) w h0 (h0.len chL_len (by omega)) m0 c0)
  have o0 := cmds_ok C0 20
  have l0 := cmds_len C0 20
  have hsm := after_len ((C0.take 20).map cmdOf) [] (fun c hc L => by
    obtain ⟨h, _, rfl⟩ := List.mem_map.1 hc
    exact cmdOf_small h L)
  have CPK := Kp.mk (fun W => picked_any a1 4 W (by omega) (by omega) i1 i2)
  rw [ea] at CPK
  clear h0 c0 m0 ea i1 i2
  generalize (C0.take 20).map cmdOf = A at *
  have hfit := fit_after A o0 (by omega) A.length (Nat.le_refl _)
  rw [List.take_length] at hfit
  have hF0 : Fit 0 (after [] A) := ⟨by rw [List.length_nil] at hsm; omega, hfit.2⟩
  have oS : ∀ c ∈ A ++ [saveC], c.Ok := fun c hc => (List.mem_append.1 hc).elim (o0 c) (fun h => by rw [List.mem_singleton.1 h]; exact save_ok)
  have oQ : ∀ c ∈ A ++ [Q], c.Ok := fun c hc => (List.mem_append.1 hc).elim (o0 c) (fun h => by rw [List.mem_singleton.1 h]; exact hQ.ok)
  have CR1 := Kp.mk (fun W (hW : Below w.heap.size w W) => run_any (A ++ [saveC]) oS (by rw [List.length_append, List.length_singleton]; omega) W (hT.below hW) (hBig.below hW))
  have CR2 := Kp.mk (fun W (hW : Below w.heap.size w W) => run_any (A ++ [Q]) oQ (by rw [List.length_append, List.length_singleton]; omega) W (hT.below hW) (hBig.below hW))
  have CR3 := Kp.mk (fun W (hW : Below w.heap.size w W) (hl : (hexT (saveL (after [] A))).length ≤ 380) => run_any [putC 5 5 5, loadC (after [] A), Q] (fun c hc => by
    simp only [List.mem_cons, List.not_mem_nil, or_false] at hc
    rcases hc with rfl | rfl | rfl
    · exact put_ok (num3 (by omega) (by omega)) (num3 (by omega) (by omega)) (num3 (by omega) (by omega))
    · exact loadC_ok hF0 hl
    · exact hQ.ok) (by show 3 ≤ 60; omega) W (hT.below hW) (hBig.below hW))
  have CSU := Kp.mk (fun W (hW : Below w.heap.size w W) => sure_any W (hT.below hW) (hBig.below hW))
  have tA := textOf_len A o0
  have xA := tell_len A o0 (by omega) A.length (Nat.le_refl _)
  rw [List.take_length] at xA
  have pA := tell_end A []
  have eS : tell [] (A ++ [saveC]) = tell [] A ++ saveT (after [] A) ++ [10] := by rw [tell_append, List.append_assoc]; simp [tell, saveC]
  have eX : tell [] (A ++ [Q]) = tell [] A ++ Q.ans (after [] A) ++ [10] := by rw [tell_append, List.append_assoc]; simp [tell]
  have eY : tell [] [putC 5 5 5, loadC (after [] A), Q] = (toldT okW [(([] : List Pt).length : Int)] ++ [10] ++ (toldT okW [((after [] A).length : Int)] ++ [10])) ++ Q.ans (after [] A) ++ [10] := by
    show toldT okW [(([] : List Pt).length : Int)] ++ [10] ++ (toldT okW [((after [] A).length : Int)] ++ [10] ++ (Q.ans (after [] A) ++ [10] ++ [])) = _
    simp only [List.append_assoc, List.append_nil]
  have tS : textOf (A ++ [saveC]) = textOf A ++ [115, 97, 118, 101, 10] := by rw [textOf_append]; rfl
  have tQ : textOf (A ++ [Q]) = textOf A ++ textOf [Q] := textOf_append A [Q]
  have tQ1 : textOf [Q] = q ++ [10] := by rw [← hqt]; simp [textOf]
  rw [tS, eS] at CR1
  rw [tQ, eX, tQ1] at CR2
  rw [five_text, eY, tQ1] at CR3
  have hsl := saveL_le hF0.2 (by have := hF0.1; omega)
  have hhx := hexT_length (saveL (after [] A))
  have hal := hQ.ok.alen 40 (after [] A) (by omega) ⟨by have := hF0.1; omega, hF0.2⟩
  have hcl := hQ.clean (after [] A)
  have hlg := hQ.long (after [] A)
  have htc := save_clean (after [] A)
  have hqc := hQ.ok.len
  rw [hqt] at hqc
  have hto : (toldT okW [((after [] A).length : Int)]).length ≤ 24 := toldT_len okW _ (fun z hz => by rw [List.mem_singleton.1 hz]; have := hF0.1; omega)
  have hto0 : (toldT okW [(([] : List Pt).length : Int)]).length ≤ 24 := toldT_len okW _ (fun z hz => by rw [List.mem_singleton.1 hz]; simp)
  have hst : saveT (after [] A) = imageW ++ hexT (saveL (after [] A)) := rfl
  rw [hst] at CR1 htc
  clear hst o0 oS oQ tS tQ tQ1 eS eX eY hQ hqt hfit hF0 hsm hT hBig
  generalize toldT okW [((after [] A).length : Int)] = tk at *
  generalize toldT okW [(([] : List Pt).length : Int)] = tk0 at *
  generalize hexT (saveL (after [] A)) = hx at *
  generalize Q.ans (after [] A) = aq at *
  generalize saveL (after [] A) = sv at *
  generalize textOf A = TA at *
  generalize tell [] A = P at *
  have CL1 := Kp.mk (fun W => lastOf_any P (imageW ++ hx) pA htc (by rw [List.length_append]; show _ + (6 + _) ≤ _; omega) W)
  have CL2 := Kp.mk (fun W => lastOf_any P aq pA hcl (by omega) W)
  have CL3 := Kp.mk (fun W => lastOf_any (tk0 ++ [10] ++ (tk ++ [10])) aq (.inr ⟨tk0 ++ [10] ++ tk, by simp only [List.append_assoc]⟩) hcl (by simp only [List.length_append, List.length_cons, List.length_nil]; omega) W)
  have x6 := image_ext hx
  obtain ⟨n, hn⟩ : ∃ n, (imageW ++ hx).length = n := ⟨_, rfl⟩
  have xb := ext_back imageW hx 6 n rfl hn
  have szt : (⟨(imageW ++ hx).toArray⟩ : ByteArray).size = n := by show (imageW ++ hx).toArray.size = n; simpa using hn
  have hn6 : hx.length + 6 = n := by rw [← hn, List.length_append]; show _ = 6 + _; omega
  have hnz : (6 : Int) ≤ (n : Int) := by omega
  have szh : (⟨hx.toArray⟩ : ByteArray).size ≤ 3000 := str_size (by omega)
  obtain ⟨k, hk⟩ : ∃ k, aq.length = k := ⟨_, rfl⟩
  have sza : (⟨aq.toArray⟩ : ByteArray).size = k := by show aq.toArray.size = k; simpa using hk
  have hkz : (2 : Int) < (k : Int) := by omega
  have aq1 : (⟨q.toArray⟩ : ByteArray) ++ ⟨#[10]⟩ = ⟨(q ++ [10]).toArray⟩ := str_add q [10]
  have aS : (⟨TA.toArray⟩ : ByteArray) ++ ⟨#[115, 97, 118, 101, 10]⟩ = ⟨(TA ++ [115, 97, 118, 101, 10]).toArray⟩ := str_add TA [115, 97, 118, 101, 10]
  have aX : (⟨TA.toArray⟩ : ByteArray) ++ ⟨(q ++ [10]).toArray⟩ = ⟨(TA ++ (q ++ [10])).toArray⟩ := str_add TA (q ++ [10])
  have a1' : (⟨#[112, 117, 116, 32, 53, 32, 53, 32, 53, 10, 108, 111, 97, 100, 32]⟩ : ByteArray) ++ ⟨hx.toArray⟩ = ⟨(([112, 117, 116, 32, 53, 32, 53, 32, 53, 10, 108, 111, 97, 100, 32] : Wd) ++ hx).toArray⟩ := str_add [112, 117, 116, 32, 53, 32, 53, 32, 53, 10, 108, 111, 97, 100, 32] hx
  have a2' : (⟨(([112, 117, 116, 32, 53, 32, 53, 32, 53, 10, 108, 111, 97, 100, 32] : Wd) ++ hx).toArray⟩ : ByteArray) ++ ⟨#[10]⟩ = ⟨(([112, 117, 116, 32, 53, 32, 53, 32, 53, 10, 108, 111, 97, 100, 32] : Wd) ++ hx ++ [10]).toArray⟩ := str_add _ [10]
  have a3' : (⟨(([112, 117, 116, 32, 53, 32, 53, 32, 53, 10, 108, 111, 97, 100, 32] : Wd) ++ hx ++ [10]).toArray⟩ : ByteArray) ++ ⟨(q ++ [10]).toArray⟩ = ⟨(([112, 117, 116, 32, 53, 32, 53, 32, 53, 10, 108, 111, 97, 100, 32] : Wd) ++ hx ++ [10] ++ (q ++ [10])).toArray⟩ := str_add _ (q ++ [10])
  have h15 : (([112, 117, 116, 32, 53, 32, 53, 32, 53, 10, 108, 111, 97, 100, 32] : Wd) ++ hx).length ≤ 3015 := by rw [List.length_append]; show 15 + _ ≤ _; omega
  generalize ([112, 117, 116, 32, 53, 32, 53, 32, 53, 10, 108, 111, 97, 100, 32] : Wd) ++ hx = F1 at *
  have s_1 : (⟨TA.toArray⟩ : ByteArray).size ≤ 30000 := str_size (by omega)
  have s_2 : (⟨q.toArray⟩ : ByteArray).size ≤ 400 := str_size hqc
  have s_3 : (⟨(q ++ [10]).toArray⟩ : ByteArray).size ≤ 401 := str_size (by rw [List.length_append, List.length_singleton]; omega)
  have s_4 : (⟨(TA ++ [115, 97, 118, 101, 10]).toArray⟩ : ByteArray).size ≤ 31000 := str_size (by rw [List.length_append]; show _ + 5 ≤ _; omega)
  have s_5 : (⟨(TA ++ (q ++ [10])).toArray⟩ : ByteArray).size ≤ 31000 := str_size (by rw [List.length_append, List.length_append, List.length_singleton]; omega)
  have s_6 : (⟨F1.toArray⟩ : ByteArray).size ≤ 3015 := str_size h15
  have s_7 : (⟨(F1 ++ [10]).toArray⟩ : ByteArray).size ≤ 3016 := str_size (by rw [List.length_append, List.length_singleton]; omega)
  have s_8 : (⟨(F1 ++ [10] ++ (q ++ [10])).toArray⟩ : ByteArray).size ≤ 4000 := str_size (by rw [List.length_append, List.length_append, List.length_append, List.length_singleton]; omega)
  have sl1 : (⟨#[10]⟩ : ByteArray).size ≤ 1 := by decide
  have sl2 : (⟨#[115, 97, 118, 101, 10]⟩ : ByteArray).size ≤ 5 := by decide
  have sl3 : (⟨#[112, 117, 116, 32, 53, 32, 53, 32, 53, 10, 108, 111, 97, 100, 32]⟩ : ByteArray).size ≤ 15 := by decide
  clear pA htc hcl hlg hal hsl hhx tA xA hqc h15 hk hn hto hto0
  generalize F1 ++ [10] ++ (q ++ [10]) = F3 at *
  generalize F1 ++ [10] = F2 at *
  generalize TA ++ (q ++ [10]) = TX at *
  generalize q ++ [10] = TQ at *
  generalize TA ++ [115, 97, 118, 101, 10] = TS at *
  generalize P ++ (imageW ++ hx) ++ [10] = S1 at *
  generalize P ++ aq ++ [10] = X1 at *
  generalize tk0 ++ [10] ++ (tk ++ [10]) ++ aq ++ [10] = Y1 at *
  generalize imageW ++ hx = t at *
  have HLDK := Kp.mk HLD
  clear HLD
  go_enter Tryz.func4, Tryz.ntmps4
  go_wp2_with fail
  refine CA.out.mono ?_
  rintro e w2 ⟨rfl, HB2⟩
  have hld := HLDK.out w2
  have HBA := Kp.mk (below_step HB2.out (below_alloc (Nat.le_refl w2.heap.size) (.cells #[.string ⟨#[115, 107, 121]⟩, .string ⟨#[97, 114, 101, 97]⟩, .string ⟨#[115, 97, 118, 101]⟩, .string ⟨#[97, 115, 107, 32, 119, 32, 51, 32, 38, 32, 105, 110, 32, 48, 32, 48, 32, 50, 48, 32, 50, 48]⟩] 9)))
  have hvz : (va : Int) < 4 := by omega
  clear CA HLDK
  go_wp2_with (first
    | (go_at_call 9; with_reducible refine (CPK.out _).mono ?_; rintro e w' ⟨rfl, rfl⟩)
    | fail)
  refine (CR1.out _ HBA.out).mono ?_
  rintro e w4 ⟨rfl, hb4⟩
  have HB4 := Kp.mk (below_step HBA.out hb4.out)
  clear CR1 hb4 hld
  go_wp2_with fail
  refine (CL1.out _).mono ?_
  rintro e w5 ⟨rfl, hb5⟩
  have HB5 := Kp.mk (below_step HB4.out hb5.out)
  clear CL1 hb5
  go_wp2_with fail
  refine (CSU.out _ HB5.out).mono ?_
  rintro e w6 ⟨rfl, hb6⟩
  have HB6 := Kp.mk (below_step HB5.out hb6.out)
  clear CSU hb6 HB2 HBA HB4 HB5 CPK
  by_cases hbig : (380 : Int) < (n : Int)
  · go_wp2
    go_ret
    exact ⟨rfl, HB6.out⟩
  · have hnl : hx.length ≤ 380 := by omega
    go_wp2_with fail
    refine (CR2.out _ HB6.out).mono ?_
    rintro e w7 ⟨rfl, hb7⟩
    have HB7 := Kp.mk (below_step HB6.out hb7.out)
    clear CR2 hb7
    go_wp2_with fail
    refine (CR3.out _ HB7.out hnl).mono ?_
    rintro e w8 ⟨rfl, hb8⟩
    have HB8 := Kp.mk (below_step HB7.out hb8.out)
    clear CR3 hb8
    go_wp2_with fail
    refine (CL2.out _).mono ?_
    rintro e w9 ⟨rfl, hb9⟩
    have HB9 := Kp.mk (below_step HB8.out hb9.out)
    clear hb9
    go_wp2_with fail
    refine (CL3.out _).mono ?_
    rintro e w10 ⟨rfl, hb10⟩
    have HB10 := Kp.mk (below_step HB9.out hb10.out)
    clear hb10 CL3
    go_wp2_with fail
    refine (CL2.out _).mono ?_
    rintro e w11 ⟨rfl, hb11⟩
    have HB11 := Kp.mk (below_step HB10.out hb11.out)
    clear hb11 CL2 HB6 HB7 HB8 HB9 HB10
    go_wp2
    go_ret
    exact ⟨rfl, HB11.out⟩

theorem walk_DeskSaved (a0 : Option Addr) (len0 cap0 : Nat) (z0 : List Int) (a1 : Int) (w : World) (w0 : IsFlat 8 w a0 len0 cap0 z0) (w1 : (Lit.int .i64 a1).wf = true) (hT : Tab w) (hBig : Big w) :
    Calls Tryz.prog 4 #[.slice a0 len0 cap0, .int .i64 a1] w fun e w' => e = .returned (.bool true) ∧ Below w.heap.size w w' := by
  obtain ⟨C0, h0, c0, m0⟩ := chores_in w0
  obtain ⟨i1, i2⟩ := wf_bd w1
  obtain ⟨va, ea, ga⟩ := pick_nat a1 4 (by omega)
  have hva : va = 0 ∨ va = 1 ∨ va = 2 ∨ va = 3 := by omega
  rcases hva with rfl | rfl | rfl | rfl
  · exact saved_look a0 len0 cap0 C0 a1 0 w h0 c0 m0 i1 i2 ea (by omega) skyC look0 skyK rfl (fun W => (Box.new W _ 9).cell 0 rfl) hT hBig
  · exact saved_look a0 len0 cap0 C0 a1 1 w h0 c0 m0 i1 i2 ea (by omega) areaC look1 areaK rfl (fun W => (Box.new W _ 9).cell 1 rfl) hT hBig
  · exact saved_look a0 len0 cap0 C0 a1 2 w h0 c0 m0 i1 i2 ea (by omega) saveC look2 saveK rfl (fun W => (Box.new W _ 9).cell 2 rfl) hT hBig
  · refine saved_look a0 len0 cap0 C0 a1 3 w h0 c0 m0 i1 i2 ea (by omega) (askC exA3) look3 [97, 115, 107, 32, 119, 32, 51, 32, 38, 32, 105, 110, 32, 48, 32, 48, 32, 50, 48, 32, 50, 48] ?_ (fun W => (Box.new W _ 9).cell 3 rfl) hT hBig
    show askK ++ 32 :: exA3.txt = _
    rw [exA3_txt]; rfl

end Go.Proofs.YtedchegejalolaaGreatDoor.Dk

