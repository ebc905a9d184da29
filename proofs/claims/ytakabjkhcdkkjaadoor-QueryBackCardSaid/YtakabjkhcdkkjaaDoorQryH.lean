/- The words of a text: the walk. -/
import Derived.Test.YtakabjkhcdkkjaaDoorQryK
import Derived.Test.YtakabjkhcdkkjaaDoorQryT
namespace Go.Proofs.YtakabjkhcdkkjaaDoor
set_option linter.unusedVariables false
open Go.RowKit Qk

theorem sign_at : ∀ c : UInt8, (0 ≤ Lib.indexByte [40, 41, 38, 124, 33] c ↔ isSign c = true) := by
  have h : ∀ i : Fin 256, (0 ≤ Lib.indexByte [40, 41, 38, 124, 33] (UInt8.ofNat i.val) ↔ isSign (UInt8.ofNat i.val) = true) := by decide +kernel
  intro c
  have := h ⟨c.toNat, c.toNat_lt⟩
  simpa using this

theorem str_idx (t : Wd) (k : Nat) (hk : k < t.length) (W : World) : (Instr.index 9 (str t) (.int .i64 k)).run Tryd.prog W = .ok (.int .u8 (t[k].toNat : Int)) W := by
  have hks : k < (⟨t.toArray⟩ : ByteArray).size := by show k < t.toArray.size; simpa using hk
  rw [run_index_string W 9 ⟨t.toArray⟩ .i64 k Tryd.underlying9, dif_pos ⟨by omega, by omega⟩]
  congr 2
theorem str_ext (t : Wd) (k : Nat) (hk : k < t.length) : (⟨t.toArray⟩ : ByteArray).extract k (k + 1) = ⟨#[t[k]]⟩ := by
  apply ByteArray.ext
  apply Array.ext'
  simp only [ByteArray.data_extract, Array.toList_extract, List.extract_eq_take_drop]
  rw [show k + 1 - k = 1 by omega, List.drop_eq_getElem_cons hk]
  rfl
theorem fold_step (t : Wd) (k : Nat) (hk : k < t.length) {s : List Wd × Wd} (h : fold (t.take k) ([], []) = s) : fold (t.take (k + 1)) ([], []) = st s t[k] := by
  rw [List.take_succ_eq_append_getElem hk, fold_append, h]
  rfl

set_option maxRecDepth 100000 in
set_option maxHeartbeats 16000000 in
theorem words_any (t : List UInt8) (n : Nat) (ht : t.length = n) (hn : n ≤ 1000) (w : World) :
    Calls Tryd.prog 13 #[str t] w fun e w' => ∃ (oa : Option Addr) (m oc : Nat), e = .returned (.slice oa m oc) ∧ Kp ((wordsF t).length = m ∧ m ≤ 3000) ∧ Kp (w'.ownsRow w.heap.size 9 1 (.slice oa m oc) m (strs (wordsF t))) ∧ Kp (Below w.heap.size w w') := by
  have HT := Kp.mk ht
  have hsz : (⟨t.toArray⟩ : ByteArray).size = n := by show t.toArray.size = n; simpa using ht
  clear ht
  obtain ⟨B, hB⟩ : ∃ B, w.heap.size = B := ⟨_, rfl⟩
  rw [hB]
  have HBE := Kp.mk hB
  clear hB
  go_enter Tryd.func13, Tryd.ntmps13
  go_wp2
  go_loopw [3, 4, 10] (fun ov nv iv wr => ∃ (k m : Nat) (oa : Option Addr) (oc : Nat) (out : List Wd) (now : Wd), k ≤ n ∧ m ≤ 2 * k ∧ now.length ≤ k ∧ iv = .int .i64 k ∧ ov = .slice oa m oc ∧ nv = str now ∧ Kp (out.length = m) ∧ Kp (fold (t.take k) ([], []) = (out, now)) ∧ Kp (wr.ownsRow B 9 1 (.slice oa m oc) m (strs out)) ∧ Kp (Below B w wr)) (fun _ _ iv _ => n - (intOf iv).toNat)
  case atStart => exact ⟨0, 0, none, 0, [], [], Nat.zero_le _, Nat.le_refl _, Nat.zero_le _, rfl, rfl, rfl, ⟨rfl⟩, ⟨rfl⟩, ⟨World.ownsRow_nil _ _ _ _⟩, ⟨Below.refl _ _⟩⟩
  case round =>
    obtain ⟨k, m, oa, oc, out, now, hk, hmk, hnl, rfl, rfl, rfl, HL, HF, HO, HB⟩ := hrel
    have hsB : B ≤ wr.heap.size := by have := HB.out.size; have := HBE.out; omega
    by_cases hlt : k < n
    · have hkt : k < t.length := by rw [HT.out]; exact hlt
      have hidx := str_idx t k hkt
      have hext := str_ext t k hkt
      have HF1 := Kp.mk (fold_step t k hkt HF.out)
      have CI := Kp.mk (fun W => Tryd.strings_IndexByte ⟨#[40, 41, 38, 124, 33]⟩ (t[k].toNat : Int) W)
      have hsg := sign_at t[k]
      generalize t[k] = c at *
      rw [show (((c.toNat : Int)).toNat.toUInt8) = c by simp] at CI
      simp only at CI
      obtain ⟨r, hr⟩ : ∃ r, Lib.indexByte [40, 41, 38, 124, 33] c = r := ⟨_, rfl⟩
      rw [hr] at CI hsg
      have HRR := Kp.mk hr
      have s2 : (⟨#[c]⟩ : ByteArray).size ≤ 1 := by show (#[c] : Array UInt8).size ≤ 1; simp
      clear hr hkt HF
      have HCE := Kp.mk (show ∃ z : Int, (c.toNat : Int) = z from ⟨_, rfl⟩)
      by_cases hs : isSign c = true
      · have hr0 : (0 : Int) ≤ r := hsg.2 hs
        have HST := Kp.mk (st_sign hs (out, now))
        clear hsg hs
        cases now with
        | nil =>
          have HF2 := Kp.mk (show fold (t.take (k + 1)) ([], []) = (out ++ [[c]], []) from by rw [HF1.out, HST.out, flush_none])
          clear HF1 HST
          go_wp2_with (first
            | (go_at_call 20; refine (CI.out _).mono ?_; rintro e w' ⟨rfl, rfl⟩)
            | (at_builtin; refine wpList_pushS tStrs (by rfl) _ _ (by rfl) B oa m oc _ (by rfl) HO.out 1 _ (by rfl) (by rfl) ?d1 ?d2 (by decide) hsB ?d4)
            | fail)
          case d1 => rfl
          case d2 => omega
          case d4 =>
            intro oa2 oc2 w2 ho2 hg2 hn2
            have HO2 := Kp.mk (show w2.ownsRow B 9 1 (.slice oa2 (m + 1) oc2) (m + 1) (strs (out ++ [[c]])) from by rw [strs_append]; exact ho2)
            have HB2 := Kp.mk (HB.out.trans (below_of_grown hg2 hsB (fun q hq => (own_lt HO.out q hq).1)))
            clear ho2 hg2 hn2 HO HB CI hidx hext s2
            go_wp2
            go_roundw
            case rel => exact ⟨k + 1, m + 1, oa2, oc2, out ++ [[c]], [], by omega, by omega, by simp, by go_num, rfl, rfl, ⟨by rw [List.length_append, HL.out]; rfl⟩, HF2, HO2, HB2⟩
            case measure => simp [intOf]; omega
        | cons a l =>
          have HF2 := Kp.mk (show fold (t.take (k + 1)) ([], []) = (out ++ [a :: l] ++ [[c]], []) from by rw [HF1.out, HST.out]; rfl)
          clear HF1 HST
          go_wp2_with (first
            | (go_at_call 20; refine (CI.out _).mono ?_; rintro e w' ⟨rfl, rfl⟩)
            | (at_builtin; refine wpList_pushS tStrs (by rfl) _ _ (by rfl) B oa m oc _ (by rfl) HO.out 1 _ (by rfl) (by rfl) ?d1 ?d2 (by decide) hsB ?d4)
            | fail)
          case d1 => rfl
          case d2 => omega
          case d4 =>
            intro oa2 oc2 w2 ho2 hg2 hn2
            have HO2 := Kp.mk (show w2.ownsRow B 9 1 (.slice oa2 (m + 1) oc2) (m + 1) (strs (out ++ [a :: l])) from by rw [strs_append]; exact ho2)
            have HB2 := Kp.mk (HB.out.trans (below_of_grown hg2 hsB (fun q hq => (own_lt HO.out q hq).1)))
            have hs2 : B ≤ w2.heap.size := Nat.le_trans hsB hg2.size
            clear ho2 hg2 hn2 HO HB CI hidx
            go_wp2_with (first
              | (at_builtin; refine wpList_pushS tStrs (by rfl) _ _ (by rfl) B oa2 (m + 1) oc2 _ (by rfl) HO2.out 1 _ (by rfl) (by rfl) ?f1 ?f2 (by decide) hs2 ?f4)
              | fail)
            case f1 => rfl
            case f2 => omega
            case f4 =>
              intro oa3 oc3 w3 ho3 hg3 hn3
              have HO3 := Kp.mk (show w3.ownsRow B 9 1 (.slice oa3 (m + 2) oc3) (m + 2) (strs (out ++ [a :: l] ++ [[c]])) from by rw [strs_append]; exact ho3)
              have HB3 := Kp.mk (HB2.out.trans (below_of_grown hg3 hs2 (fun q hq => (own_lt HO2.out q hq).1)))
              clear ho3 hg3 hn3 HO2 HB2 hext s2
              go_wp2
              go_roundw
              case rel => exact ⟨k + 1, m + 2, oa3, oc3, out ++ [a :: l] ++ [[c]], [], by omega, by omega, by simp, by go_num, rfl, rfl, ⟨by rw [List.length_append, List.length_append, HL.out]; rfl⟩, HF2, HO3, HB3⟩
              case measure => simp [intOf]; omega
      · have hr0 : ¬ (0 : Int) ≤ r := fun h => hs (hsg.1 h)
        have hr1 : r < (0 : Int) := by omega
        clear hsg
        by_cases h32 : c = 32
        · have HST := Kp.mk (show st (out, now) c = (flush (out, now), []) from by rw [h32, st_space])
          have z1 : ((c.toNat : Int) == 32) = true := by rw [h32]; rfl
          have z2 : ((c.toNat : Int) != 32) = false := by rw [h32]; rfl
          clear h32 hs HCE
          generalize ((c.toNat : Nat) : Int) = z at *
          cases now with
          | nil =>
            have HF2 := Kp.mk (show fold (t.take (k + 1)) ([], []) = (out, []) from by rw [HF1.out, HST.out, flush_none])
            clear HF1 HST hext s2
            go_wp2_with (first
              | (go_at_call 20; refine (CI.out _).mono ?_; rintro e w' ⟨rfl, rfl⟩)
              | fail)
            go_roundw
            case rel => exact ⟨k + 1, m, oa, oc, out, [], by omega, by omega, by simp, by go_num, rfl, rfl, HL, HF2, HO, HB⟩
            case measure => simp [intOf]; omega
          | cons a l =>
            have HF2 := Kp.mk (show fold (t.take (k + 1)) ([], []) = (out ++ [a :: l], []) from by rw [HF1.out, HST.out]; rfl)
            clear HF1 HST hext s2
            go_wp2_with (first
              | (go_at_call 20; refine (CI.out _).mono ?_; rintro e w' ⟨rfl, rfl⟩)
              | (at_builtin; refine wpList_pushS tStrs (by rfl) _ _ (by rfl) B oa m oc _ (by rfl) HO.out 1 _ (by rfl) (by rfl) ?d1 ?d2 (by decide) hsB ?d4)
              | fail)
            case d1 => rfl
            case d2 => omega
            case d4 =>
              intro oa2 oc2 w2 ho2 hg2 hn2
              have HO2 := Kp.mk (show w2.ownsRow B 9 1 (.slice oa2 (m + 1) oc2) (m + 1) (strs (out ++ [a :: l])) from by rw [strs_append]; exact ho2)
              have HB2 := Kp.mk (HB.out.trans (below_of_grown hg2 hsB (fun q hq => (own_lt HO.out q hq).1)))
              clear ho2 hg2 hn2 HO HB CI hidx
              go_wp2
              go_roundw
              case rel => exact ⟨k + 1, m + 1, oa2, oc2, out ++ [a :: l], [], by omega, by omega, by simp, by go_num, rfl, rfl, ⟨by rw [List.length_append, HL.out]; rfl⟩, HF2, HO2, HB2⟩
              case measure => simp [intOf]; omega
        · have HST := Kp.mk (show st (out, now) c = (out, now ++ [c]) from by unfold st; rw [if_neg hs, if_neg h32])
          have hz : ¬ (c.toNat : Int) = 32 := fun e => h32 (by
            have : c.toNat = 32 := by omega
            exact UInt8.toNat_inj.1 (by simpa using this))
          have z1 : ((c.toNat : Int) == 32) = false := by rw [beq_eq_false_iff_ne]; exact hz
          have z2 : ((c.toNat : Int) != 32) = true := by rw [bne_iff_ne]; exact hz
          have HF2 := Kp.mk (show fold (t.take (k + 1)) ([], []) = (out, now ++ [c]) from by rw [HF1.out, HST.out])
          clear h32 hs HCE hz HF1 HST
          generalize ((c.toNat : Nat) : Int) = z at *
          have s1 : (⟨now.toArray⟩ : ByteArray).size ≤ 1000 := str_size (by omega)
          have hadd : (⟨now.toArray⟩ : ByteArray) ++ ⟨#[c]⟩ = ⟨(now ++ [c]).toArray⟩ := str_add now [c]
          have s3 : (⟨(now ++ [c]).toArray⟩ : ByteArray).size ≤ 1001 := str_size (by simp; omega)
          have HNL := Kp.mk (show (now ++ [c]).length ≤ k + 1 from by simp; omega)
          generalize now ++ [c] = now2 at *
          go_wp2_with (first
            | (go_at_call 20; refine (CI.out _).mono ?_; rintro e w' ⟨rfl, rfl⟩)
            | fail)
          go_roundw
          case rel => exact ⟨k + 1, m, oa, oc, out, now2, by omega, by omega, HNL.out, by go_num, rfl, rfl, HL, HF2, HO, HB⟩
          case measure => simp [intOf]; omega
    · obtain rfl : k = n := by omega
      have HFT := Kp.mk (show fold t ([], []) = (out, now) from by
        have := HF.out
        rwa [← HT.out, List.take_length] at this)
      clear HF
      cases now with
      | nil =>
        have HW := Kp.mk (show wordsF t = out from by unfold wordsF; rw [HFT.out, flush_none])
        go_wp2
        go_ret
        exact ⟨oa, m, oc, rfl, ⟨by rw [HW.out]; exact HL.out, by omega⟩, by rw [HW.out]; exact HO, HB⟩
      | cons a l =>
        have HW := Kp.mk (show wordsF t = out ++ [a :: l] from by unfold wordsF; rw [HFT.out]; rfl)
        go_wp2_with (first
          | (at_builtin; refine wpList_pushS tStrs (by rfl) _ _ (by rfl) B oa m oc _ (by rfl) HO.out 1 _ (by rfl) (by rfl) ?d1 ?d2 (by decide) hsB ?d4)
          | fail)
        case d1 => rfl
        case d2 => omega
        case d4 =>
          intro oa2 oc2 w2 ho2 hg2 hn2
          have HO2 := Kp.mk (show w2.ownsRow B 9 1 (.slice oa2 (m + 1) oc2) (m + 1) (strs (wordsF t)) from by rw [HW.out, strs_append]; exact ho2)
          have HB2 := Kp.mk (HB.out.trans (below_of_grown hg2 hsB (fun q hq => (own_lt HO.out q hq).1)))
          clear ho2 hg2 hn2 HO HB
          go_wp2
          go_ret
          exact ⟨oa2, m + 1, oc2, rfl, ⟨by rw [HW.out, List.length_append, HL.out]; rfl, by omega⟩, HO2, HB2⟩

end Go.Proofs.YtakabjkhcdkkjaaDoor
