/- The walk of perm.Cycles at an order. -/
import Derived.Test.YtnieacfleabikaaCyc
namespace Go.Proofs.Ytnieacfleabikaa
set_option linter.unusedVariables false
open Go.RowKit

set_option maxHeartbeats 1000000 in
theorem cycles_any (a : Option Addr) (cap n : Nat) (p : List Int) (w : World) (h : SlI w a cap p) (hn : p.length = n) (hl : n ≤ 300) (hn0 : 0 < n) (hp : Order p) :
    Calls Try.prog 23 #[.slice a n cap] w (fun e w' => ∃ oa oc L, e = .returned (.tuple #[.slice oa L.length oc, .int .i64 0]) ∧ SlC w' oa L.length oc 1 (hdr L) ∧ Facts w' L ∧ Cyc p (lists L) ∧ (lists L).flatten.length = n ∧ Below w.heap.size w w') := by
  have H := Lib.hid h
  have HP := Lib.hid hp
  have HN := Lib.hid hn
  clear h hp hn
  obtain ⟨B, hB⟩ : ∃ B, B = w.heap.size := ⟨_, rfl⟩
  rw [← hB]
  have HB := Lib.hid hB
  clear hB
  go_enter Try.func23, Try.ntmps23
  go_wp2_with fail
  have hck := check_any a cap p w H.out (by rw [HN.out]; exact hl) HP.out
  rw [HN.out] at hck
  refine hck.mono ?_
  clear hck
  rintro e w1 ⟨rfl, hb1⟩
  rw [← HB.out] at hb1
  have hs1 := Lib.hid hb1.size
  go_wp2_with (at_make; refine wpList_mk1 tMarks rfl rfl _ _ rfl B n rfl rfl ?c1 (by decide) ?c2 ?c3)
  case c1 => omega
  case c2 => rw [HB.out]; exact hs1.out
  case c3 =>
    intro sa sc w2 hown hbel
    rw [marks_nil] at hown
    obtain ⟨gs, rfl, hg, hg2⟩ := own_some hown (by omega)
    have hM : CycMem B n gs sc w w2 none 0 [] none 0 [] [] :=
      ⟨hb1.trans hbel, World.ownsRow_nil _ _ _ _, World.ownsRow_nil _ _ _ _, hown, Facts.nil _, by simp [blk], by simp [blk], by simp, by simp [blk], by simp [blk], by simp [blk]⟩
    clear hown hbel hb1
    go_wp2
    go_loopw [6, 20] (fun v i wr => ∃ (k : Nat) (L : List (Option Addr × Nat × List Int)) (oa : Option Addr) (oc : Nat), k ≤ n ∧ i = .int .i64 k ∧ v = .slice oa L.length oc ∧ CycMem B n gs sc w wr oa oc L none 0 [] (lists L).flatten ∧ Hid (Cyc p (lists L) ∧ ∀ x : Int, 0 ≤ x → x < k → x ∈ (lists L).flatten)) (fun _ i _ => n - (intOf i).toNat)
    case atStart => exact ⟨0, [], none, 0, Nat.zero_le _, rfl, rfl, hM, cyc_nil p, fun x h1 h2 => by omega⟩
    case round =>
      clear hM
      obtain ⟨i, L, oa, oc, hi, rfl, rfl, hM, HC⟩ := hrel
      by_cases hlt : i < n
      · go_wp2
        go_loopw [8, 9] (fun v x wr => ∃ (k : Nat) (ca : Option Addr) (cc : Nat) (c : List Int), v = .slice ca c.length cc ∧ x = .int .i64 k ∧ k < n ∧ CycMem B n gs sc w wr oa oc L ca cc c ((lists L).flatten ++ c) ∧ Hid (Path p (lists L) i c k) ∧ (c = [] → ca = none ∧ cc = 0)) (fun v _ _ => n - lenOf v)
        case atStart => exact ⟨i, none, 0, [], rfl, rfl, hlt, by rw [List.append_nil]; exact hM, path_nil HC.out.1 _ ⟨by omega, by have := HN.out; omega⟩, fun _ => ⟨rfl, rfl⟩⟩
        case round =>
          clear hM
          obtain ⟨k, ca, cc, c, rfl, rfl, hk, hM, HPa, hnil⟩ := hrel
          have hcell := marks_cell hM.seen hk
          have hfr : wr.frozen? ⟨gs, k, none⟩ = false := hM.seen.frozenAt k
          have HM := Lib.hid hM
          have HNIL := Lib.hid hnil
          clear hM hnil
          by_cases hmem : (k : Int) ∈ (lists L).flatten ++ c
          · rw [decide_eq_true hmem] at hcell
            by_cases hc0 : c = []
            · subst hc0
              obtain ⟨rfl, rfl⟩ := HNIL.out rfl
              go_wp2
              go_roundw
              case rel =>
                refine ⟨i + 1, L, oa, oc, by omega, by go_num, rfl, by simpa using HM.out, HC.out.1, fun x h1 h2 => ?_⟩
                by_cases hx : x = i
                · rw [List.append_nil] at hmem
                  have := HPa.out.nil rfl
                  rw [hx, ← this]; exact hmem
                · exact HC.out.2 x h1 (by omega)
              case measure => simp [intOf]; omega
            · have hpos : 0 < c.length := List.length_pos_iff.2 hc0
              obtain ⟨gc, rfl, hgc1, hgc2⟩ := own_some HM.out.cyc hpos
              have hend := Lib.hid (path_end HP.out HC.out.1 HPa.out hmem hpos)
              have hneL : ∀ x ∈ L, x.2.2 ≠ [] := fun x hx => (HC.out.1.cyc x.2.2 (List.mem_map.2 ⟨x, hx, rfl⟩)).1
              have HNE := Lib.hid hneL
              have hneq := fun (w : World) (n c : Nat) => run_neq_slice_nil_any (P := Try.prog) w 35 3 (some ⟨gc, 0, none⟩) n c 0 0 Try.underlying35
              have hLn : Hid (L.length ≤ n) := by
                show _ ≤ _
                rw [← HN.out]
                exact cyc_len HC.out.1 hneL
              clear hneL hc0
              go_wp2_with (at_builtin; refine wpList_pushS tRows rfl _ _ rfl B oa L.length oc (hdr L) rfl HM.out.out 1 _ rfl rfl ?c1 ?c2 (by decide) ?c3 ?c4)
              case c1 => simp [Value.oneCell']
              case c2 => have := hLn.out; omega
              case c3 => have := HM.out.hb.size; rw [HB.out]; exact this
              case c4 =>
                intro oa' oc' w3 hown' hgr hno
                have hB3 : B ≤ wr.heap.size := by rw [HB.out]; exact HM.out.hb.size
                have hM3 := Lib.hid (HM.out.close HNE.out (List.length_pos_iff.1 hpos) hB3 hown' hgr hno)
                clear hown' hgr hno hB3
                go_wp2
                go_roundw
                case rel =>
                  refine ⟨i + 1, L ++ [(some ⟨gc, 0, none⟩, cc, c)], oa', oc', by omega, by go_num, by simp, ?_, ?_, fun x h1 h2 => ?_⟩
                  · have := hM3.out
                    rw [lists_append, List.flatten_append]
                    simpa [lists] using this
                  · rw [lists_append]; exact hend.out.1
                  · rw [lists_append, List.flatten_append, List.mem_append]
                    by_cases hx : x = i
                    · right; rw [hx]; simpa [lists] using hend.out.2
                    · left; exact HC.out.2 x h1 (by omega)
                case measure => simp [intOf]; omega
          · rw [decide_eq_false hmem] at hcell
            have hst := Lib.hid (path_step HP.out HPa.out hmem)
            have hkp : k < p.length := by have := HN.out; omega
            have hx := HP.out.2 p[k] (List.getElem_mem hkp)
            obtain ⟨j, hj⟩ : ∃ j : Nat, p[k] = (j : Int) := ⟨_, (Int.toNat_of_nonneg hx.1).symm⟩
            have hjn : j < n := by have := HN.out; omega
            have hgk : Hid (p.getD (k : Int).toNat 0 = (j : Int)) := by
              show _ = _
              rw [Int.toNat_natCast, List.getD_eq_getElem?_getD, List.getElem?_eq_getElem hkp, Option.getD_some, hj]
            have hln : c.length + 1 ≤ n := by
              have hlen := path_len hst.out
              rw [List.length_append, List.length_singleton, HN.out] at hlen; exact hlen
            have hneL := Lib.hid (show ∀ x ∈ L, x.2.2 ≠ [] from fun x hx => (HC.out.1.cyc x.2.2 (List.mem_map.2 ⟨x, hx, rfl⟩)).1)
            have HJ := Lib.hid hj
            have hB3 := Lib.hid (show B ≤ (wr.setCell ⟨gs, k, none⟩ (.bool true)).heap.size by rw [HB.out]; exact (HM.out.mark k).hb.size)
            clear hx hj
            go_wp2_with (at_builtin; refine wpList_pushS tInts rfl _ _ rfl B ca c.length cc (ints c) rfl (HM.out.mark k).cyc 1 _ ?cx rfl ?c1 ?c2 (by decide) hB3.out ?c4)
            case cx => rw [size_setCell]; rfl
            case c1 => simp [Value.oneCell']
            case c2 => omega
            case c4 =>
              intro ca' cc' w3 hown' hgr hno
              have hM3 := Lib.hid ((HM.out.mark k).push hneL.out hB3.out (k : Int) hown' hgr hno)
              clear hown' hgr hno
              obtain ⟨b, off, rfl, cl⟩ := (H.out.below (HB.out ▸ hM3.out.hb)).at k hkp
              rw [HJ.out] at cl
              go_wp2
              go_roundw
              case rel =>
                refine ⟨j, ca', cc', c ++ [(k : Int)], by simp, rfl, hjn, by rw [← List.append_assoc]; exact hM3.out, ?_, fun h => by simp at h⟩
                have := hst.out
                rw [hgk.out] at this
                exact this
              case measure => simp [lenOf]; omega
      · obtain rfl : n = i := by omega
        go_wp2
        go_ret2
        refine ⟨oa, oc, L, rfl, ?_, hM.facts, HC.out.1, ?_, hM.hb⟩
        · have := own_slc hM.out
          exact this
        · rw [cyc_all HC.out.1 (fun x h1 h2 => HC.out.2 x h1 (by have := HN.out; omega))]
          exact HN.out

end Go.Proofs.Ytnieacfleabikaa
