/- Package skt: a sketch is made. -/
import Derived.Test.YtjofajpcchncpaaSktP
import Derived.Test.YtjofajpcchncpaaLib
namespace Go.Proofs.Ytjofajpcchncpaa
set_option linter.unusedVariables false
open Go.RowKit

theorem place_any (r k : Nat) (w : World) (hr : r ≤ 10) (hk : k ≤ 1048576) :
    Calls Try.prog 57 #[.int .i64 r, .int .i64 k] w fun e w' => e = .returned (.int .i64 (placeN r k : Nat)) ∧ w = w' := by
  have h1 : (2 * r + 1) * k ≤ 21 * 1048576 := Nat.mul_le_mul (by omega) hk
  have h2 : k / 64 * (r + 3) ≤ 1048576 * 13 := Nat.mul_le_mul (Nat.le_trans (Nat.div_le_self _ _) hk) (by omega)
  have e1 : (2 * (r : Int) + 1) * (k : Int) = (((2 * r + 1) * k : Nat) : Int) := by push_cast; rfl
  have e2 : (k : Int) / 64 * ((r : Int) + 3) = ((k / 64 * (r + 3) : Nat) : Int) := by push_cast; rfl
  have HP : Kp (placeN r k = ((2 * r + 1) * k + 40 * r + 7 + k / 64 * (r + 3)) % 64) := ⟨by unfold placeN; rfl⟩
  generalize (2 * r + 1) * k = x at *
  generalize k / 64 * (r + 3) = y at *
  go_enter Try.func57, Try.ntmps57
  go_wp2
  go_ret
  exact ⟨ret_int (by rw [HP.out]; push_cast; rfl), rfl⟩
theorem sfits_yes (x : Int) (w : World) (h1 : 0 ≤ x) (h2 : x ≤ 1048576) : Calls Try.prog 56 #[.int .i64 x] w fun e w' => e = .returned (.bool true) ∧ w = w' := by
  go_enter Try.func56, Try.ntmps56
  go_wp2
  go_ret
  exact ⟨rfl, rfl⟩
theorem snot_fits (x : Int) (h1 : 0 ≤ x) (h2 : x ≤ 1048576) : Tests 55 #[] (fun _ => false) x := by
  intro w
  go_enter Try.func55, Try.ntmps55
  go_wp2_with fail
  refine (sfits_yes x w h1 h2).mono ?_
  rintro e w' ⟨rfl, rfl⟩
  go_wp2
  go_ret
  exact ⟨rfl, rfl⟩
theorem any_false' (l : List Int) : l.any (fun _ => false) = false := by simp

/-- The headers of the rows that are made, and of those that are not yet. -/
def hdrR (L : List (Option Addr × Nat × List Int)) (R : Nat) : List Value := hdr L ++ List.replicate (R - L.length) (.slice none 0 0)
theorem hdrR_length (L : List (Option Addr × Nat × List Int)) (R : Nat) (h : L.length ≤ R) : (hdrR L R).length = R := by simp [hdrR, hdr_length]; omega
theorem hdrR_set (L : List (Option Addr × Nat × List Int)) (R : Nat) (h : L.length < R) (x : Option Addr × Nat × List Int) : (hdrR L R).set L.length (.slice x.1 x.2.2.length x.2.1) = hdrR (L ++ [x]) R := by
  unfold hdrR
  rw [List.set_append_right _ _ (by rw [hdr_length]; exact Nat.le_refl _), hdr_length, Nat.sub_self, hdr_append, List.append_assoc]
  congr 1
  obtain ⟨m, hm⟩ : ∃ m, R - L.length = m + 1 := ⟨R - L.length - 1, by omega⟩
  rw [hm, List.replicate_succ, List.set_cons_zero, List.length_append, List.length_singleton, show R - (L.length + 1) = m by omega]
  rfl
theorem hdrR_nil (R : Nat) : hdrR [] R = List.replicate R (.slice none 0 0) := by simp [hdrR, hdr]
theorem hdrR_at (L : List (Option Addr × Nat × List Int)) (R : Nat) (x : Option Addr × Nat × List Int) : (hdrR (L ++ [x]) R)[L.length]? = some (.slice x.1 x.2.2.length x.2.1) := by
  unfold hdrR
  rw [hdr_append, List.append_assoc, List.getElem?_append_right (by rw [hdr_length]; exact Nat.le_refl _), hdr_length, Nat.sub_self]
  rfl
theorem hdrR_full (L : List (Option Addr × Nat × List Int)) : hdrR L L.length = hdr L := by simp [hdrR]

theorem hdrR_same (L : List (Option Addr × Nat × List Int)) (R r i j : Nat) (a : Option Addr) (c : Nat) (ks : List Nat) : hdrR (L ++ [(a, c, skRow ks r i)]) R = hdrR (L ++ [(a, c, skRow ks r j)]) R := by
  simp [hdrR, hdr, skRow_length]
theorem facts_app {w : World} {L : List (Option Addr × Nat × List Int)} {a : Option Addr} {c : Nat} {l : List Int} (h : Facts w L) (h1 : SlI w a c l) : Facts w (L ++ [(a, c, l)]) := by
  intro x hx
  rcases List.mem_append.1 hx with hx | hx
  · exact h x hx
  · rw [List.mem_singleton.1 hx]; exact h1

set_option maxRecDepth 100000 in
set_option maxHeartbeats 2000000 in
theorem smake_any (a : Option Addr) (cap n R : Nat) (ks : List Nat) (w : World) (h : SlI w a cap (ks.map Int.ofNat)) (hn : ks.length = n) (hl : n ≤ 300) (hR0 : 1 ≤ R) (hR : R ≤ 8) (hk : ∀ i, i < n → ks.getD i 0 ≤ 1048576) :
    Calls Try.prog 36 #[.int .i64 R, .slice a n cap] w (fun e w' => ∃ oa oc, e = .returned (.tuple #[.slice oa R oc, .int .i64 0]) ∧ RowsI w' oa R oc (skL ks R) ∧ Below w.heap.size w w') := by
  have hin : ∀ x ∈ ks.map Int.ofNat, 0 ≤ x ∧ x ≤ 1048576 := fun x hx => by
    obtain ⟨k, hkm, rfl⟩ := List.mem_map.1 hx
    obtain ⟨i, hi, rfl⟩ := List.getElem_of_mem hkm
    have := hk i (by omega)
    rw [getD_at _ _ hi] at this
    show 0 ≤ ((ks[i] : Nat) : Int) ∧ ((ks[i] : Nat) : Int) ≤ 1048576
    omega
  have C := Kp.mk (contains_any 55 #[] (fun _ => false) (fun _ _ => by kernel_rfl) a cap n _ w h (by rw [List.length_map]; exact hn) (by omega) (fun x hx => snot_fits x (hin x hx).1 (hin x hx).2))
  rw [any_false'] at C
  have H := Kp.mk h
  have HN := Kp.mk hn
  have HK := Kp.mk hk
  clear h hn hk hin
  obtain ⟨B, hB⟩ : ∃ B, B = w.heap.size := ⟨_, rfl⟩
  have HB := Kp.mk hB
  have hBle : B ≤ w.heap.size := by omega
  clear hB
  go_enter Try.func36, Try.ntmps36
  go_wp2_with fail
  refine C.out.mono ?_
  rintro e w' ⟨rfl, rfl⟩
  go_wp2_with (at_make; refine wpList_mk1 tRows rfl rfl _ _ rfl B R rfl rfl ?c1 (by decide) hBle ?c3)
  case c1 => omega
  case c3 =>
    intro so co w1 hown hbel
    rw [← hdrR_nil R] at hown
    obtain ⟨go, rfl, hgo1, hgo2⟩ := own_some hown (by omega)
    have HO := Kp.mk hown
    have HB1 := Kp.mk hbel
    clear hown hbel C
    go_wp2
    go_loopw [28] (fun i wr => ∃ (r : Nat) (L : List (Option Addr × Nat × List Int)), r ≤ R ∧ L.length = r ∧ i = .int .i64 r ∧ lists L = skL ks r ∧ wr.ownsRow B 22 1 (.slice (some ⟨go, 0, none⟩) R co) R (hdrR L R) ∧ Facts wr L ∧ (∀ x ∈ L, blk x.1 ≠ some go) ∧ Below B w wr) (fun i _ => R - (intOf i).toNat)
    case atStart => exact ⟨0, [], Nat.zero_le _, rfl, rfl, by unfold skL; rfl, HO.out, Facts.nil _, (fun x hx => by cases hx), HB1.out⟩
    case round =>
      obtain ⟨r, L, hr, hLr, rfl, hLs, hown, hF, hne, hbel⟩ := hrel
      have HO2 := Kp.mk hown
      have HF := Kp.mk hF
      have HNE := Kp.mk hne
      have HLS := Kp.mk hLs
      have HLR := Kp.mk hLr
      have HBE := Kp.mk hbel
      have hBw : B ≤ wr.heap.size := by have := hbel.size; omega
      clear hown hF hne hLs hLr hbel HO HB1
      by_cases hlt : r < R
      · go_wp2_with (at_make; refine wpList_mk1 tInts rfl rfl _ _ rfl wr.heap.size 64 rfl rfl ?d1 (by decide) (Nat.le_refl _) ?d3)
        case d1 => omega
        case d3 =>
          intro sg cg w2 hown2 hbel2
          have hrow : w2.ownsRow wr.heap.size 3 1 (.slice sg 64 cg) 64 (ints (skRow ks r 0)) := by rw [skRow_zero]; exact hown2
          obtain ⟨g, rfl, hg1, hg2⟩ := own_some hrow (by omega)
          have hgoW : go < wr.heap.size := (own_lt HO2.out go rfl).2
          have hO3 := own_below HO2.out hbel2
          have hlen : L.length = r := HLR.out
          have hc := hO3.cellAt r (by omega)
          obtain ⟨u0, hu0⟩ : ∃ u0, (hdrR L R)[r]? = some u0 := ⟨_, List.getElem?_eq_getElem (by rw [hdrR_length _ _ (by omega)]; exact hlt)⟩
          rw [hu0] at hc
          have hf := hO3.frozenAt r
          have h4 := (hO3.stored r (.slice (some ⟨g, 0, none⟩) 64 cg)).1
          have hset := hdrR_set L R (by omega) (some ⟨g, 0, none⟩, cg, skRow ks r 0)
          simp only [skRow_length] at hset
          rw [hlen] at hset
          rw [hset] at h4
          obtain ⟨w3, hw3⟩ : ∃ w3, w3 = w2.setCell ⟨go, r, none⟩ (.slice (some ⟨g, 0, none⟩) 64 cg) := ⟨_, rfl⟩
          have hg3 : w2.grownBy w3 (some go) := by rw [hw3]; exact grown_set _ _ _ _
          rw [← hw3] at h4
          have HROW := Kp.mk (own_keep hrow hg3 (fun q hq => by cases hq; intro h; simp [blk] at h; omega))
          have HHD := Kp.mk h4
          have HF3 := Kp.mk (facts_keep (HF.out.below hbel2) hg3 (fun q hq => by cases hq; exact HNE.out))
          have HB3 := Kp.mk ((HBE.out.trans (hbel2.mono hBw)).trans (below_of_grown hg3 (by have := hbel2.size; omega) (fun q hq => by cases hq; exact hgo1)))
          have hs3 : wr.heap.size ≤ w3.heap.size := Nat.le_trans hbel2.size hg3.size
          have hnegg : g ≠ go := by omega
          have HFLT := Kp.mk (fun x (hx : x ∈ L) => show blk x.1 ≠ some g from fun h => by
            have h1 : x.2.2 ∈ lists L := List.mem_map.2 ⟨x, hx, rfl⟩
            rw [HLS.out] at h1
            obtain ⟨i, hi, he⟩ := List.getElem_of_mem h1
            rw [skL_get] at he
            obtain ⟨k', hk', hlt'⟩ := SlC.lt (HF.out x hx) (by rw [ints_length, ← he, skRow_length]; omega)
            rw [h] at hk'
            simp only [Option.some.injEq] at hk'
            omega)
          clear hown2 hrow hO3 h4 hset hu0 hbel2 hg3
          go_wp2
          rw [← hw3]
          clear hw3 hc hf
          go_loopw [37] (fun i wq => ∃ j : Nat, j ≤ n ∧ i = .int .i64 j ∧ wq.ownsRow wr.heap.size 3 1 (.slice (some ⟨g, 0, none⟩) 64 cg) 64 (ints (skRow ks r j)) ∧ w3.grownBy wq (some g)) (fun i _ => n - (intOf i).toNat)
          case atStart => exact ⟨0, Nat.zero_le _, rfl, HROW.out, grown_refl _ _⟩
          case round =>
            obtain ⟨j, hj, rfl, hown, hgr⟩ := hrel
            have HOJ := Kp.mk hown
            have HGJ := Kp.mk hgr
            have HHJ := Kp.mk (own_keep HHD.out hgr (fun q hq => by cases hq; intro h; simp [blk] at h; omega))
            have HBJ := Kp.mk (HB3.out.trans (below_of_grown hgr (by omega) (fun q hq => by cases hq; omega)))
            clear hown hgr
            by_cases hlt2 : j < n
            · obtain ⟨b, off, rfl, c1⟩ := (H.out.below (HB.out ▸ HBJ.out)).at j (by rw [List.length_map, HN.out]; exact hlt2)
              have hjk : j < ks.length := by rw [HN.out]; exact hlt2
              have e1 : (ks.map Int.ofNat)[j]'(by rw [List.length_map]; exact hjk) = ((ks[j] : Nat) : Int) := by simp
              rw [e1] at c1
              have hkb := HK.out j hlt2
              rw [getD_at _ _ hjk] at hkb
              have hsu := Kp.mk (skRow_succ ks r j hjk)
              have hpl := placeN_lt r ks[j]
              have c2 := HHJ.out.cellAt r (by omega)
              have c3 := HOJ.out.cellAt (placeN r ks[j]) (by omega)
              have f3 := HOJ.out.frozenAt (placeN r ks[j])
              rw [List.getElem?_eq_getElem (by rw [ints_length, skRow_length]; exact hpl), ints_get, skRow_get] at c3
              have hcl := cntK_le ks r (placeN r ks[j]) j
              have h2 := (HOJ.out.stored (placeN r ks[j]) (.int .i64 (((cntK ks r (placeN r ks[j]) j : Nat) : Int) + 1))).1
              rw [ints_set, ← hsu.out] at h2
              have H2 := Kp.mk h2
              have hat := hdrR_at L R (some ⟨g, 0, none⟩, cg, skRow ks r 0)
              rw [hlen] at hat
              rw [hat] at c2
              simp only [skRow_length] at c2
              have CP := Kp.mk (fun W => place_any r ks[j] W (by omega) hkb)
              clear h2 hat e1 hsu
              generalize cntK ks r (placeN r ks[j]) j = z at *
              generalize placeN r ks[j] = p at *
              generalize ks[j] = k at *
              have hri : (r : Int) < R := by omega
              have hpi : (p : Int) < 64 := by omega
              have hwz : IntKind.i64.wrap ((z : Int) + 1) = (z : Int) + 1 := IntWalk.i64_in _ (by omega)
              go_wp2
              go_region_law ((first
                | (go_simp; go_at_call 57; refine (CP.out _).mono ?_; rintro e w' ⟨rfl, rfl⟩)))
              all_goals
                go_wp2
                go_roundw
                case rel => exact ⟨j + 1, by omega, by go_num, H2.out.drew, grown_drew (grown_trans HGJ.out (grown_set _ _ _ _))⟩
                case measure => simp [intOf]; omega
            · obtain rfl : j = n := by omega
              have hls : lists (L ++ [(some ⟨g, 0, none⟩, cg, skRow ks r j)]) = skL ks (r + 1) := by
                rw [lists_append, HLS.out, skL_succ, HN.out]; rfl
              have hhd := HHJ.out
              rw [hdrR_same L R r 0 j (some ⟨g, 0, none⟩) cg ks] at hhd
              have hfa : Facts wr (L ++ [(some ⟨g, 0, none⟩, cg, skRow ks r j)]) := facts_app (facts_keep HF3.out HGJ.out (fun q hq x hx => by cases hq; exact HFLT.out x hx)) (own_sl_len HOJ.out (skRow_length _ _ _))
              have HLS' := Kp.mk hls
              have HHD' := Kp.mk hhd
              have HFA' := Kp.mk hfa
              clear hls hhd hfa
              go_wp2
              go_roundw
              case rel =>
                refine ⟨r + 1, _, by omega, by rw [List.length_append, hlen]; rfl, by go_num, HLS'.out, HHD'.out, HFA'.out, fun x hx => ?_, HBJ.out⟩
                rcases List.mem_append.1 hx with hx | hx
                · exact HNE.out x hx
                · rw [List.mem_singleton.1 hx]
                  intro h
                  simp [blk] at h
                  exact hnegg h
              case measure => simp [intOf]; omega
      · obtain rfl : r = R := by omega
        have hlen : L.length = r := HLR.out
        go_wp2
        go_ret2
        refine ⟨some ⟨go, 0, none⟩, co, rfl, ⟨L, HLS.out, ?_, HF.out⟩, HB.out ▸ HBE.out⟩
        have h9 := own_slc HO2.out
        rw [← hlen] at h9
        rw [hdrR_full, hlen] at h9
        exact h9

end Go.Proofs.Ytjofajpcchncpaa
