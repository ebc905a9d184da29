/- Package perm: the order with a number. -/
import Derived.Test.YtjofajpcchncpaaCnt
import Derived.Test.YtjofajpcchncpaaDel
namespace Go.Proofs.Ytjofajpcchncpaa
set_option linter.unusedVariables false
open Go.RowKit

/-- The digits that have been told, from place i on. -/
def dgL (n x i : Nat) : List Int := (List.range n).map fun j => if i ≤ j then ((digN n x j : Nat) : Int) else 0
theorem dgL_length (n x i : Nat) : (dgL n x i).length = n := by simp [dgL]
theorem dgL_full (n x : Nat) : ints (dgL n x n) = List.replicate n (.int .i64 0) := by
  apply List.ext_getElem
  · simp [ints, dgL]
  · intro i h1 h2
    have : i < n := by simpa [ints, dgL] using h1
    simp [ints, dgL]; omega
theorem dgL_step (n x j : Nat) (h : j < n) : (dgL n x (j + 1)).set j ((digN n x j : Nat) : Int) = dgL n x j := by
  apply List.ext_getElem
  · simp [dgL]
  · intro i h1 h2
    rw [List.getElem_set]
    simp only [dgL, List.getElem_map, List.getElem_range]
    by_cases hij : j = i
    · subst hij; simp
    · rw [if_neg hij]
      by_cases h3 : j + 1 ≤ i
      · rw [if_pos h3, if_pos (by omega)]
      · rw [if_neg h3, if_neg (by omega)]
theorem dgL_get (n x j : Nat) (h : j < (dgL n x 0).length) : (dgL n x 0)[j] = ((digN n x j : Nat) : Int) := by simp [dgL]
def digsN (n x : Nat) : List Nat := (List.range n).map (digN n x)
theorem ordL_def (n x : Nat) : ordL n x = pull (digsN n x) (iota n) := by unfold ordL digsN; rfl
theorem digsN_drop (n x k : Nat) (h : k < n) : (digsN n x).drop k = digN n x k :: (digsN n x).drop (k + 1) := by
  rw [List.drop_eq_getElem_cons (by simp [digsN]; exact h)]
  simp [digsN]
theorem digsN_end (n x : Nat) : (digsN n x).drop n = [] := List.drop_of_length_le (by simp [digsN])
theorem pull_one (d : Nat) (ds : List Nat) (L : List Int) (h : d < L.length) : pull (d :: ds) L = L[d] :: pull ds (L.eraseIdx d) := by
  rw [pull_cons, getD_at _ _ h]
attribute [irreducible] dgL digsN

set_option maxRecDepth 100000 in
set_option maxHeartbeats 2000000 in
theorem order_any (n x : Nat) (w : World) (h0 : 0 < n) (hl : n ≤ 12) (hx : x ≤ 479001600) (hr : restN n x 0 = 0) :
    Calls Try.prog 19 #[.int .i64 n, .int .i64 x] w (fun e w' => ∃ a c, e = .returned (.tuple #[.slice a n c, .int .i64 0]) ∧ w'.ownsRow w.heap.size 3 1 (.slice a n c) n (ints (ordL n x)) ∧ Below w.heap.size w w') := by
  have HR := Kp.mk hr
  clear hr
  go_enter Try.func19, Try.ntmps19
  go_wp2_with (at_make; refine wpList_mk1 tInts rfl rfl _ _ rfl w.heap.size n rfl rfl ?c1 (by decide) (Nat.le_refl _) ?c3)
  case c1 => omega
  case c3 =>
    intro sd cd w1 hown hbel
    rw [← dgL_full n x] at hown
    have HO1 := Kp.mk hown
    have HB1 := Kp.mk hbel
    obtain ⟨gd, rfl, hgd1, hgd2⟩ := own_some hown h0
    clear hown hbel
    go_wp2
    go_loopw [1, 7] (fun v i wr => ∃ j : Nat, j ≤ n ∧ i = .int .i64 ((j : Int) - 1) ∧ v = .int .i64 (restN n x j : Nat) ∧ wr.ownsRow w.heap.size 3 1 (.slice (some ⟨gd, 0, none⟩) n cd) n (ints (dgL n x j)) ∧ w1.grownBy wr (some gd)) (fun _ i _ => (intOf i + 1).toNat)
    case atStart => exact ⟨n, Nat.le_refl _, rfl, by rw [restN_full], HO1.out, grown_refl _ _⟩
    case round =>
      obtain ⟨j', hj', rfl, rfl, hown, hgr⟩ := hrel
      have HO := Kp.mk hown
      have HG := Kp.mk hgr
      clear hown hgr
      by_cases hj0 : 0 < j'
      · obtain ⟨j, rfl⟩ : ∃ j, j' = j + 1 := ⟨j' - 1, by omega⟩
        have e1 : (((j + 1 : Nat) : Int) - 1) = (j : Int) := by omega
        have e2 : (n : Int) - (j : Int) = ((n - j : Nat) : Int) := by omega
        have hst := Kp.mk (restN_step n x j (by omega))
        have hdg := Kp.mk (show digN n x j = restN n x (j + 1) % (n - j) by unfold digN; rfl)
        have hv := restN_le n x (j + 1)
        have hvj := restN_le n x j
        have hc := HO.out.cellAt j (by omega)
        have f1 := HO.out.frozenAt j
        obtain ⟨u0, hu0⟩ : ∃ u0, (ints (dgL n x (j + 1)))[j]? = some u0 := ⟨_, List.getElem?_eq_getElem (by rw [ints_length, dgL_length]; omega)⟩
        rw [hu0] at hc
        have h2 := (HO.out.stored j (.int .i64 ((digN n x j : Nat) : Int))).1
        rw [ints_set, dgL_step n x j (by omega)] at h2
        have H2 := Kp.mk h2
        rw [e1]
        generalize restN n x (j + 1) = v at *
        generalize hre : n - j = r at *
        have hr0 : 0 < r := by omega
        have e3 : (v : Int) % (r : Int) = ((digN n x j : Nat) : Int) := by rw [hdg.out]; push_cast; rfl
        have e4 : (v : Int) / (r : Int) = ((restN n x j : Nat) : Int) := by rw [hst.out]; push_cast; rfl
        have hri : ((r : Int) == 0) = false := beq_eq_false_iff_ne.2 (by omega)
        generalize digN n x j = dg at *
        generalize hvv : restN n x j = vv at *
        have HVV := Kp.mk hvv
        have hjn : j < n := by omega
        clear hu0 h2 hre e1 hdg hst hvv
        go_wp2
        go_roundw
        case rel => exact ⟨j, by omega, rfl, by rw [HVV.out], H2.out, grown_trans HG.out (grown_set _ _ _ _)⟩
        case measure => simp [intOf]
      · obtain rfl : j' = 0 := by omega
        have e1 : (((0 : Nat) : Int) - 1) = -1 := rfl
        rw [e1, HR.out, show ((0 : Nat) : Int) = 0 from rfl]
        have HBr := Kp.mk (HB1.out.trans (below_of_grown HG.out (by omega) (fun k hk => by cases hk; exact hgd1)))
        clear e1
        go_wp2
        obtain ⟨W2, hW2⟩ : ∃ W2 : World, W2 = wr := ⟨_, rfl⟩
        rw [← hW2] at HO HBr ⊢
        have hgd3 : gd < W2.heap.size := by have := (own_lt HO.out gd rfl).2; exact this
        clear hW2 HG HO1 HB1
        go_loopw [8, 47] (fun v i wr => ∃ (k : Nat) (sl : Option Addr) (cl : Nat), k ≤ n ∧ i = .int .i64 k ∧ v = .slice sl k cl ∧ wr.ownsRow W2.heap.size 3 1 (.slice sl k cl) k (ints (iota k)) ∧ Below W2.heap.size W2 wr) (fun _ i _ => n - (intOf i).toNat)
        case atStart => exact ⟨0, none, 0, Nat.zero_le _, rfl, rfl, World.ownsRow_nil _ _ _ _, Below.refl _ _⟩
        case round =>
          obtain ⟨k, sl, cl, hk, rfl, rfl, hown, hbel⟩ := hrel
          have HL := Kp.mk hown
          have HBL := Kp.mk hbel
          have hsw : Kp (W2.heap.size ≤ wr.heap.size) := ⟨hbel.size⟩
          clear hown hbel
          by_cases hlt : k < n
          · have hio := Kp.mk (iota_succ k)
            go_wp2_with (at_builtin; refine wpList_push tInts rfl _ _ rfl W2.heap.size _ _ _ _ rfl HL.out 1 1 _ rfl rfl ?d1 (by decide) ?d2 (by decide) hsw.out ?d4)
            case d1 => simp [Value.oneCell']
            case d2 => omega
            case d4 =>
              intro sl' cl' w' hown' hbel'
              have HO' := Kp.mk hown'
              have HB' := Kp.mk (HBL.out.trans hbel')
              clear hown' hbel' HL HBL
              go_wp2
              go_roundw
              case rel => exact ⟨k + 1, sl', cl', by omega, by go_num, rfl, by rw [hio.out, ints_append]; exact HO'.out, HB'.out⟩
              case measure => simp [intOf]; omega
          · obtain rfl : k = n := by omega
            obtain ⟨gl, rfl, hgl1, hgl2⟩ := own_some HL.out h0
            obtain ⟨W3, hW3⟩ : ∃ W3 : World, W3 = wr := ⟨_, rfl⟩
            rw [← hW3] at HL HBL hgl2 hsw ⊢
            have HD3 := Kp.mk (own_below' HO.out HBL.out (fun q hq => by cases hq; exact hgd3))
            clear hW3
            go_wp2
            go_loopw [8, 9, 57] (fun v8 v9 i wr => ∃ (j : Nat) (L O : List Int) (so : Option Addr) (sc : Nat), j ≤ k ∧ i = .int .i64 j ∧ v8 = .slice (some ⟨gl, 0, none⟩) (k - j) cl ∧ v9 = .slice so j sc ∧ wr.ownsRow W2.heap.size 3 1 (.slice (some ⟨gl, 0, none⟩) (k - j) cl) (k - j) (ints L) ∧ wr.ownsRow W3.heap.size 3 1 (.slice so j sc) j (ints O) ∧ Below W2.heap.size W2 wr ∧ W3.heap.size ≤ wr.heap.size ∧ L.length = k - j ∧ Kp (O ++ pull ((digsN k x).drop j) L = ordL k x)) (fun _ _ i _ => k - (intOf i).toNat)
            case atStart => exact ⟨0, iota k, [], none, 0, Nat.zero_le _, rfl, rfl, rfl, HL.out, World.ownsRow_nil _ _ _ _, HBL.out, Nat.le_refl _, by rw [iota_length]; rfl, ⟨by rw [List.drop_zero, List.nil_append, ordL_def]⟩⟩
            case round =>
              obtain ⟨j, L, O, so, sc, hj, rfl, rfl, rfl, hownL, hownO, hbel, hsz3, hLl, HP⟩ := hrel
              have HLL := Kp.mk hownL
              have HOO := Kp.mk hownO
              have HBE := Kp.mk hbel
              have HLEN := Kp.mk hLl
              clear hownL hownO hbel hLl HL HBL hsw
              by_cases hjk : j < k
              · have hdl := digN_lt k x j hjk
                have hP := HP.out
                rw [digsN_drop k x j hjk, pull_one _ _ _ (by rw [HLEN.out]; exact hdl)] at hP
                have hcd : wr.cell? ⟨gd, j, none⟩ = some (.int .i64 ((digN k x j : Nat) : Int)) := by
                  have h1 := (own_below' HO.out HBE.out (fun q hq => by cases hq; exact hgd3)).cellAt j (by omega)
                  rw [h1, List.getElem?_eq_getElem (by rw [ints_length, dgL_length]; exact hjk), ints_get, dgL_get]
                generalize digN k x j = d at *
                obtain ⟨m, hm⟩ : ∃ m, m = k - j := ⟨_, rfl⟩
                rw [← hm] at HLL HLEN hdl ⊢
                have hdL : d < L.length := by rw [HLEN.out]; exact hdl
                have hcl := HLL.out.cellAt d (by omega)
                rw [List.getElem?_eq_getElem (by rw [ints_length]; exact hdL), ints_get] at hcl
                generalize hye : L[d] = y at *
                have HP2 := Kp.mk (show (O ++ [y]) ++ pull ((digsN k x).drop (j + 1)) (L.eraseIdx d) = ordL k x by rw [List.append_assoc]; exact hP)
                have hmc : m ≤ cl := by have := (own_slc HLL.out).le; exact this
                have hclm : cl ≤ 9223372036854775807 := by have := (own_slc HLL.out).capm; unfold maxLen at this; omega
                have HM := Kp.mk hm
                clear hP hye hm HP
                go_wp2_with (at_builtin; refine wpList_push tInts rfl _ _ rfl W3.heap.size _ _ _ _ rfl HOO.out 1 1 _ rfl rfl ?e1 (by decide) ?e2 (by decide) hsz3 ?e4)
                case e1 => simp [Value.oneCell']
                case e2 => omega
                case e4 =>
                  intro so' sc' we hownE hbelE
                  have HOE := Kp.mk hownE
                  have HLE := Kp.mk (own_below' HLL.out hbelE (fun q hq => by cases hq; exact hgl2))
                  have HBW := Kp.mk (HBE.out.trans (hbelE.mono (by have := HBE.out.size; omega)))
                  have hszE : Kp (W3.heap.size ≤ we.heap.size) := ⟨Nat.le_trans hsz3 hbelE.size⟩
                  have hdel := own_del HLE.out.drew hdl
                  have HDEL := Kp.mk hdel
                  obtain ⟨i0, hi0, hz0, hz1, hz2⟩ := info_parts info_int
                  obtain ⟨A, hA, hnews⟩ : ∃ A : Addr, (if cl = d + 1 then some (⟨gl, 0, none⟩ : Addr) else some ⟨gl, d + 1, none⟩) = some A ∧ Kp (∀ j u, (ints (L.drop (d + 1)))[j]? = some u → we.drew.cell? (A.add j) = some u) := by
                    by_cases h : cl = d + 1
                    · refine ⟨⟨gl, 0, none⟩, by rw [if_pos h], ⟨fun j u hu => ?_⟩⟩
                      have h0 : (ints (L.drop (d + 1))).length = 0 := by rw [ints_length, List.length_drop, HLEN.out]; omega
                      rw [List.length_eq_zero_iff.1 h0] at hu
                      simp at hu
                    · refine ⟨⟨gl, d + 1, none⟩, by rw [if_neg h], ⟨fun j u hu => ?_⟩⟩
                      have hj2 : j < (ints (L.drop (d + 1))).length := (List.getElem?_eq_some_iff.1 hu).1
                      rw [ints_length, List.length_drop, HLEN.out] at hj2
                      rw [add_none]
                      have h1 := HLE.out.cellAt (d + 1 + j) (by omega)
                      show we.cell? _ = _
                      rw [h1, ← hu]
                      simp [ints, List.getElem?_drop]
                  have s1 : Kp ((ints (L.drop (d + 1))).length = (m - (d + 1)) * 1) := ⟨by rw [Nat.mul_one, ints_length, List.length_drop, HLEN.out]⟩
                  have s2 : Kp (∀ u ∈ ints (L.drop (d + 1)), u.oneCell' = true) := ⟨ints_one _⟩
                  have s3 : Kp (∀ j, j < (ints (L.drop (d + 1))).length → (we.drew.cell? ⟨gl, 0 + d * 1 + j, none⟩).isSome = true ∧ we.drew.frozen? ⟨gl, 0 + d * 1 + j, none⟩ = false) := ⟨fun j hj2 => by
                    rw [ints_length, List.length_drop, HLEN.out] at hj2
                    rw [Nat.mul_one, Nat.zero_add]
                    refine ⟨?_, HLE.out.frozenAt _⟩
                    show (we.cell? _).isSome = true
                    rw [HLE.out.cellAt (d + j) (by omega), List.getElem?_eq_getElem (by rw [ints_length, HLEN.out]; omega)]
                    rfl⟩
                  have hic : d ≤ cl := by omega
                  have hwr : IntKind.i64.wrap ((d : Int) + 1) = (d : Int) + 1 := IntWalk.i64_in _ (by omega)
                  have hp0 : (0 : Int) ≤ (d : Int) + 1 := by omega
                  have hp1 : (d : Int) + 1 ≤ (m : Int) := by omega
                  have hp2 : ((d : Int) + 1).toNat = d + 1 := by omega
                  clear hdel hownE hbelE HOO HLL HBE hsz3 hcd hcl
                  go_wp2_with fail
                  go_region_law (refine step_append_room rfl (.tmp 70) (.tmp 74) 22 rfl 3 i0 1 Try.underlying22 hi0 hz1 gl 0 d cl (by simp [Act.eval, Act.put]) A (m - (d + 1)) (cl - (d + 1)) (ints (L.drop (d + 1))) (by simp [Act.eval, Act.put]) s1.out hnews.out s2.out (by omega) s3.out ?_)
                  have e9 : d + (m - (d + 1)) = k - (j + 1) := by have := HM.out; omega
                  have hd1 := HDEL.out.1
                  have hd2 := HDEL.out.2
                  rw [e9] at hd1 ⊢
                  have D1 := Kp.mk hd1
                  have D2 := Kp.mk (own_keep HOE.out.drew hd2 (fun q hq => by
                    cases hq
                    intro h
                    have := own_lt HOE.out gl h
                    omega))
                  have D3 := Kp.mk (HBW.out.drew.trans (below_of_grown hd2 (by show W2.heap.size ≤ we.heap.size; have := HBW.out.size; exact this) (fun q hq => by cases hq; exact hgl1)))
                  have D4 := Kp.mk (Nat.le_trans hszE.out (show we.heap.size ≤ _ from hd2.size))
                  have D5 : Kp ((L.eraseIdx d).length = k - (j + 1)) := ⟨by rw [List.length_eraseIdx, if_pos hdL, HLEN.out]; have := HM.out; omega⟩
                  clear hd1 hd2 e9 hA hwr hp0 hp1 hp2 HDEL HLE HOE
                  go_wp2
                  go_roundw
                  case rel => exact ⟨j + 1, L.eraseIdx d, O ++ [y], so', sc', by omega, by go_num, rfl, rfl, D1.out, by rw [ints_append]; exact D2.out, D3.out, D4.out, D5.out, HP2⟩
                  case measure => simp [intOf]; omega
              · obtain rfl : j = k := by omega
                have hP := HP.out
                rw [digsN_end, pull_nil, List.append_nil] at hP
                have HP2 := Kp.mk hP
                clear hP
                go_wp2
                go_ret2
                refine ⟨so, sc, rfl, ?_, HBr.out.trans (HBE.out.mono HBr.out.size)⟩
                rw [← HP2.out]
                exact own_base HOO.out (by have := HBr.out.size; omega)

set_option maxRecDepth 100000 in
set_option maxHeartbeats 2000000 in
theorem order_bad (n x : Nat) (w : World) (h0 : 0 < n) (hl : n ≤ 12) (hx : x ≤ 479001600) (hr : restN n x 0 = 1) :
    Calls Try.prog 19 #[.int .i64 n, .int .i64 x] w (fun e w' => e = .returned (.tuple #[.slice none 0 0, .int .i64 2]) ∧ Below w.heap.size w w') := by
  have HR := Kp.mk hr
  clear hr
  go_enter Try.func19, Try.ntmps19
  go_wp2_with (at_make; refine wpList_mk1 tInts rfl rfl _ _ rfl w.heap.size n rfl rfl ?c1 (by decide) (Nat.le_refl _) ?c3)
  case c1 => omega
  case c3 =>
    intro sd cd w1 hown hbel
    rw [← dgL_full n x] at hown
    have HO1 := Kp.mk hown
    have HB1 := Kp.mk hbel
    obtain ⟨gd, rfl, hgd1, hgd2⟩ := own_some hown h0
    clear hown hbel
    go_wp2
    go_loopw [1, 7] (fun v i wr => ∃ j : Nat, j ≤ n ∧ i = .int .i64 ((j : Int) - 1) ∧ v = .int .i64 (restN n x j : Nat) ∧ wr.ownsRow w.heap.size 3 1 (.slice (some ⟨gd, 0, none⟩) n cd) n (ints (dgL n x j)) ∧ w1.grownBy wr (some gd)) (fun _ i _ => (intOf i + 1).toNat)
    case atStart => exact ⟨n, Nat.le_refl _, rfl, by rw [restN_full], HO1.out, grown_refl _ _⟩
    case round =>
      obtain ⟨j', hj', rfl, rfl, hown, hgr⟩ := hrel
      have HO := Kp.mk hown
      have HG := Kp.mk hgr
      clear hown hgr
      by_cases hj0 : 0 < j'
      · obtain ⟨j, rfl⟩ : ∃ j, j' = j + 1 := ⟨j' - 1, by omega⟩
        have e1 : (((j + 1 : Nat) : Int) - 1) = (j : Int) := by omega
        have e2 : (n : Int) - (j : Int) = ((n - j : Nat) : Int) := by omega
        have hst := Kp.mk (restN_step n x j (by omega))
        have hdg := Kp.mk (show digN n x j = restN n x (j + 1) % (n - j) by unfold digN; rfl)
        have hv := restN_le n x (j + 1)
        have hvj := restN_le n x j
        have hc := HO.out.cellAt j (by omega)
        have f1 := HO.out.frozenAt j
        obtain ⟨u0, hu0⟩ : ∃ u0, (ints (dgL n x (j + 1)))[j]? = some u0 := ⟨_, List.getElem?_eq_getElem (by rw [ints_length, dgL_length]; omega)⟩
        rw [hu0] at hc
        have h2 := (HO.out.stored j (.int .i64 ((digN n x j : Nat) : Int))).1
        rw [ints_set, dgL_step n x j (by omega)] at h2
        have H2 := Kp.mk h2
        rw [e1]
        generalize restN n x (j + 1) = v at *
        generalize hre : n - j = r at *
        have hr0 : 0 < r := by omega
        have e3 : (v : Int) % (r : Int) = ((digN n x j : Nat) : Int) := by rw [hdg.out]; push_cast; rfl
        have e4 : (v : Int) / (r : Int) = ((restN n x j : Nat) : Int) := by rw [hst.out]; push_cast; rfl
        have hri : ((r : Int) == 0) = false := beq_eq_false_iff_ne.2 (by omega)
        generalize digN n x j = dg at *
        generalize hvv : restN n x j = vv at *
        have HVV := Kp.mk hvv
        have hjn : j < n := by omega
        clear hu0 h2 hre e1 hdg hst hvv
        go_wp2
        go_roundw
        case rel => exact ⟨j, by omega, rfl, by rw [HVV.out], H2.out, grown_trans HG.out (grown_set _ _ _ _)⟩
        case measure => simp [intOf]
      · obtain rfl : j' = 0 := by omega
        have e1 : (((0 : Nat) : Int) - 1) = -1 := rfl
        rw [e1, HR.out, show ((1 : Nat) : Int) = 1 from rfl]
        have HBr := Kp.mk (HB1.out.trans (below_of_grown HG.out (by omega) (fun k hk => by cases hk; exact hgd1)))
        clear e1
        go_wp2
        go_ret2
        exact ⟨rfl, HBr.out⟩

end Go.Proofs.Ytjofajpcchncpaa
