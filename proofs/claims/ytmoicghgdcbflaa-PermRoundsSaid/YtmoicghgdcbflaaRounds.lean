/- The walk of PermRounds: the cycles are all numbers, each once. -/
import Derived.Test.YtmoicghgdcbflaaCycW
import Derived.Test.YtmoicghgdcbflaaPermG
namespace Go.Proofs.Ytmoicghgdcbflaa
set_option linter.unusedVariables false
open Go.RowKit

theorem info_bool : (Try.prog.info? 4).map (fun i => (i.zero, i.size, i.bytes)) = some (some (.bool false), 1, 1) := by kernel_rfl
theorem tBools : ElemTy Try.prog 38 4 1 1 (.bool false) :=
  ⟨Try.underlying38, by obtain ⟨i0, hi, h0, h1, h2⟩ := info_parts info_bool; exact ⟨i0, hi, h0, h1, h2⟩, rfl, by decide⟩

/-- What stands at a place of a cycle is no number that was met. -/
theorem cyc_new {p : List Int} {D : List (List Int)} (h : Cyc p D) (k j : Nat) (hk : k < D.length) (hj : j < D[k].length) : ¬ D[k][j] ∈ (D.take k).flatten ++ D[k].take j := by
  have hnd := h.nd
  rw [← List.take_append_drop k D, List.flatten_append, List.drop_eq_getElem_cons hk, List.flatten_cons] at hnd
  have h1 := List.nodup_append.1 hnd
  have h2 := List.nodup_append.1 h1.2.1
  intro hm
  rcases List.mem_append.1 hm with hm | hm
  · exact h1.2.2 _ hm _ (List.mem_append_left _ (List.getElem_mem hj)) rfl
  · obtain ⟨i, hi, he⟩ := List.mem_take_iff_getElem.1 hm
    exact List.pairwise_iff_getElem.1 h2.1 i j (by omega) hj (by omega) he

theorem drewN_own {w : World} {B e size n g o : Nat} {u v : Value} {xs : List Value} (h : (w.setCell ⟨g, o, none⟩ u).ownsRow B e size v n xs) (k : Nat) : ((w.setCell ⟨g, o, none⟩ u).drewN k).ownsRow B e size v n xs := h
theorem drewN_bel {B : Nat} {w w' : World} (h : Below B w w') (k : Nat) : Below B w (w'.drewN k) := below_drewN h k

set_option maxHeartbeats 2000000 in
theorem walk_PermRounds (a0 : Option Addr) (len0 cap0 : Nat) (z0 : List Int) (a1 a2 : Int) (w : World) (w0 : IsRow .i64 w a0 len0 cap0 z0) (w1 : (Lit.int .i64 a1).wf = true) (w2 : (Lit.int .i64 a2).wf = true) :
    Calls Try.prog 5 #[.slice a0 len0 cap0, .int .i64 a1, .int .i64 a2] w fun e w' => e = .returned (.bool true) ∧ Below w.heap.size w w' := by
  obtain ⟨l, rfl, hl, wl, nl⟩ := row_sl w0
  have F : Facts w [(a0, cap0, l)] := (Facts.nil w).cons hl
  have HB : Below w.heap.size w w := Below.refl _ _
  have WL := Lib.hid wl
  obtain ⟨b1, b2⟩ := wf_bd w1
  unfold maxLen at nl
  have hpb := pick_bd a1 60 (by omega)
  obtain ⟨q, hq⟩ : ∃ q : Nat, pick a1 60 = q := ⟨_, (Int.toNat_of_nonneg hpb.1).symm⟩
  obtain ⟨n, hn⟩ : ∃ n : Nat, n = 1 + q := ⟨_, rfl⟩
  have HQ := Lib.hid hq
  have hn1 : (1 : Int) + q = n := by omega
  have HN := Lib.hid hn1
  have hnl : n ≤ 60 := by omega
  have hq40 : q < 60 := by omega
  have hn0 : 0 < n := by omega
  clear w0 w1 w2 hl wl hq hpb hn hn1
  go_enter Try.func5, Try.ntmps5
  go_wp2_with fail
  refine (picked_any a1 60 _ (by omega) (by omega) b1 b2).mono ?_
  rintro e w' ⟨rfl, rfl⟩
  rw [HQ.out]
  go_wp2_with fail
  rw [HN.out]
  refine (shuffle_n _ _ n l _ (F.get 0 rfl) nl (by omega) WL.out).mono ?_
  rintro e w1 ⟨pa, pc, rfl, hs, hb⟩
  have op := shuf_order l n n (Nat.le_refl _)
  have lp := shuf_length l n n
  generalize shuf l n n = p at *
  replace F := (F.below hb).cons hs
  replace HB := below_step HB hb
  have OP := Lib.hid op
  have LP := Lib.hid lp
  clear hs hb op lp
  go_wp2_with fail
  refine (copied_n _ _ n p _ (F.get 0 rfl) LP.out (by omega)).mono ?_
  rintro e w6 ⟨ca, cc, rfl, hs, hb⟩
  replace F := (F.below hb).cons hs
  replace HB := below_step HB hb
  clear hs hb
  go_wp2_with fail
  refine (cycles_any _ _ n p _ (F.get 0 rfl) LP.out (by omega) hn0 OP.out).mono ?_
  rintro e w3 ⟨oa, oc, L, rfl, hsl, hF, hcy, hall, hb⟩
  replace F := F.below hb
  replace HB := below_step HB hb
  have HSL := Lib.hid hsl
  have HCY := Lib.hid hcy
  have HALL := Lib.hid hall
  have HLL : Hid (L.length ≤ n) := by
    show _ ≤ _
    rw [← LP.out]
    exact cyc_len hcy (fun x hx => (hcy.cyc x.2.2 (List.mem_map.2 ⟨x, hx, rfl⟩)).1)
  clear hb hsl hcy hall
  obtain ⟨B, hB⟩ : ∃ B, B = w3.heap.size := ⟨_, rfl⟩
  have HBB := Lib.hid hB
  clear hB
  go_wp2_with (at_make; refine wpList_mk1 tBools rfl rfl _ _ rfl B n rfl rfl ?c1 (by decide) ?c2 ?c3)
  case c1 => omega
  case c2 => rw [HBB.out]; exact Nat.le_refl _
  case c3 =>
    intro sa sc w4 hown hbel
    rw [marks_nil] at hown
    obtain ⟨gs, rfl, hg, hg2⟩ := own_some hown (by omega)
    have hLL := HLL.out
    go_wp2
    go_loopw [12, 13] (fun t i wr => ∃ k : Nat, k ≤ L.length ∧ i = .int .i64 k ∧ t = .int .i64 ((lists L).take k).flatten.length ∧ wr.ownsRow B 4 1 (.slice (some ⟨gs, 0, none⟩) n sc) n (marks n ((lists L).take k).flatten) ∧ Below B w3 wr) (fun _ i _ => L.length - (intOf i).toNat)
    case atStart => exact ⟨0, Nat.zero_le _, rfl, by simp, by simpa using hown, hbel⟩
    case round =>
      clear hown hbel
      obtain ⟨k, hk, rfl, rfl, hown, hbel⟩ := hrel
      by_cases hlt : k < L.length
      · obtain ⟨⟨ia, ic, c⟩, hL⟩ : ∃ x, L[k] = x := ⟨_, rfl⟩
        have hcD : Hid ((lists L)[k]? = some c) := by
          show _ = _
          simp [lists, hlt, hL]
        have hH := Lib.hid (show ∀ wx, Below B w3 wx → ∃ b off, oa = some ⟨b, off, none⟩ ∧ wx.cell? ⟨b, off + k, none⟩ = some (.slice ia c.length ic) from fun wx hx => by
          obtain ⟨b, off, e, hc⟩ := (HSL.out.below (HBB.out ▸ hx)).cell k (by rw [hdr_length]; exact hlt)
          exact ⟨b, off, e, by rw [hc]; simp [hdr, hL]⟩)
        have hC : SlI w3 ia ic c := by have := hF L[k] (List.getElem_mem hlt); rw [hL] at this; exact this
        have HC := Lib.hid hC
        clear hC hL
        have hkD : k < (lists L).length := by simp [lists]; exact hlt
        have hcD2 : (lists L)[k] = c := by have := hcD.out; rw [List.getElem?_eq_getElem hkD] at this; simpa using this
        have hCk := HCY.out.cyc c (by rw [← hcD2]; exact List.getElem_mem _)
        have HCK := Lib.hid hCk
        have hcr : Hid (∀ x ∈ c, 0 ≤ x ∧ x < n) := fun x hx => by
          have := HCY.out.rng x (List.mem_flatten.2 ⟨c, by rw [← hcD2]; exact List.getElem_mem _, hx⟩)
          rw [LP.out] at this
          exact this
        have hclen : c.length ≤ n := by
          have h1 : c.length ≤ (lists L).flatten.length := (List.sublist_flatten_of_mem (by rw [← hcD2]; exact List.getElem_mem _)).length_le
          rw [HALL.out] at h1
          exact h1
        have hnew : Hid (∀ j (hj : j < c.length), ¬ c[j] ∈ ((lists L).take k).flatten ++ c.take j) := fun j hj => by
          have := cyc_new HCY.out k j hkD (by rw [hcD2]; exact hj)
          simpa only [hcD2] using this
        have hM0 : Hid (((lists L).take k).flatten.length + c.length ≤ n) := by
          show _ ≤ _
          have h1 := HALL.out
          rw [← List.take_append_drop k (lists L), List.flatten_append, List.drop_eq_getElem_cons hkD, List.flatten_cons, hcD2] at h1
          simp only [List.length_append] at h1
          omega
        have hnext : Hid (((lists L).take (k + 1)).flatten = ((lists L).take k).flatten ++ c) := by
          show _ = _
          rw [List.take_succ_eq_append_getElem hkD, List.flatten_append, hcD2]
          simp
        clear hkD hcD2 hCk
        obtain ⟨b, off, rfl, hcell⟩ := hH.out wr hbel
        generalize ((lists L).take k).flatten = M at *
        have hOW := Lib.hid hown
        clear hown hcell
        go_wp2
        go_loopw [12, 14] (fun t i wr => ∃ j : Nat, j ≤ c.length ∧ i = .int .i64 j ∧ t = .int .i64 (M ++ c.take j).length ∧ wr.ownsRow B 4 1 (.slice (some ⟨gs, 0, none⟩) n sc) n (marks n (M ++ c.take j)) ∧ Below B w3 wr) (fun _ i _ => c.length - (intOf i).toNat)
        case atStart => exact ⟨0, Nat.zero_le _, rfl, by simp, by simpa using hOW.out, hbel⟩
        case round =>
          clear hbel
          obtain ⟨j, hj, rfl, rfl, hown, hbel⟩ := hrel
          obtain ⟨b', off', e, hcell⟩ := hH.out wr hbel
          simp only [Option.some.injEq, Addr.mk.injEq, and_true] at e
          obtain ⟨rfl, rfl⟩ := e
          have hfz : wr.frozen? ⟨gs, 0, none⟩ = false := hown.frozenAt 0
          by_cases hlt2 : j < c.length
          · obtain ⟨x, hx⟩ : ∃ x : Nat, c[j] = x := ⟨_, (Int.toNat_of_nonneg (hcr.out _ (List.getElem_mem hlt2)).1).symm⟩
            have hxn : x < n := by have := (hcr.out _ (List.getElem_mem hlt2)).2; omega
            obtain ⟨b2, off2, rfl, c1⟩ := (HC.out.below (HBB.out ▸ hbel)).at j hlt2
            obtain ⟨m, hm⟩ : ∃ m, m = (j + 1) % c.length := ⟨_, rfl⟩
            have hml : m < c.length := by rw [hm]; exact Nat.mod_lt _ (by omega)
            obtain ⟨b3, off3, e, c2⟩ := (HC.out.below (HBB.out ▸ hbel)).at m hml
            simp only [Option.some.injEq, Addr.mk.injEq, and_true] at e
            obtain ⟨rfl, rfl⟩ := e
            obtain ⟨b4, off4, rfl, c3⟩ := ((F.get 1 rfl).below (HBB.out ▸ hbel)).at x (by rw [LP.out]; exact hxn)
            have hpx : p[x]'(by rw [LP.out]; exact hxn) = c[m] := by
              have := HCK.out.2 j hlt2
              rw [← hm, hx] at this
              simpa [LP.out, hxn, hml] using this
            have c4 := marks_cell hown hxn
            rw [decide_eq_false (by have := hnew.out j hlt2; rwa [hx] at this)] at c4
            have f4 : wr.frozen? ⟨gs, x, none⟩ = false := hown.frozenAt x
            have hst := Lib.hid (show (wr.setCell ⟨gs, x, none⟩ (.bool true)).ownsRow B 4 1 (.slice (some ⟨gs, 0, none⟩) n sc) n (marks n (M ++ c.take (j + 1))) by
              have := (hown.stored x (.bool true)).1
              rw [marks_set, ← hx, List.append_assoc, ← List.take_succ_eq_append_getElem hlt2] at this
              exact this)
            have hlen : (M ++ c.take j).length = M.length + j := by simp; omega
            have hlen2 : Hid ((M ++ c.take (j + 1)).length = M.length + j + 1) := by show _ = _; simp; omega
            have hMn := hM0.out
            rw [hx] at c1
            rw [hpx] at c3
            generalize c[m] = y at *
            have hpos0 : 0 < c.length := by omega
            have hw1 : IntKind.i64.wrap ((j : Int) + 1) = (j : Int) + 1 := IntWalk.i64_in _ (by omega)
            have ht : ((j : Int) + 1).tmod (c.length : Int) = (m : Int) := by
              rw [hm]; exact (Int.ofNat_tmod (j + 1) c.length).symm
            have hz : ((c.length : Int) == 0) = false := beq_eq_false_iff_ne.2 (by omega)
            have hcn : ¬ c = [] := fun h => by simp [h] at hpos0
            have hmi : (m : Int) < c.length := by omega
            have hxi : (x : Int) < n := by omega
            have hne : (y != y) = false := by simp
            rw [hlen]
            clear hx hpx hown hlen hm
            have hgt : decide ((n : Int) ≤ x) = false := by simp; omega
            have hpos : 0 < c.length := by omega
            go_wp2
            go_quiet (fail)
            clear hw1 ht hcn hne
            go_wp2
            go_roundw
            case rel =>
              refine ⟨j + 1, by omega, by go_num, ?_, drewN_own hst.out _, drewN_bel (hbel.setCell (p := ⟨gs, x, none⟩) hg _) _⟩
              rw [hlen2.out]; go_num
            case measure => simp [intOf]; omega
          · obtain rfl : j = c.length := by omega
            go_wp2
            go_roundw
            case rel =>
              refine ⟨k + 1, by omega, by go_num, ?_, ?_, hbel⟩
              · rw [hnext.out]; simp
              · rw [hnext.out]; simpa using hown
            case measure => simp [intOf]; omega
      · obtain rfl : L.length = k := by omega
        have hlen : Hid ((((lists L).take L.length).flatten.length : Int) = n) := by
          show _ = _
          rw [List.take_of_length_le (by simp [lists]), HALL.out]
        generalize (((lists L).take L.length).flatten.length : Int) = t at *
        have htn : (t == n) = true := by simp [hlen.out]
        go_wp2
        go_ret
        exact ⟨rfl, HB.trans (hbel.mono (by rw [HBB.out]; exact HB.size))⟩

end Go.Proofs.Ytmoicghgdcbflaa
