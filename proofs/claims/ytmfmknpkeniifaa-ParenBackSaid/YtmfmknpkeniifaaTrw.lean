/- Package paren: the walk of Tree. -/
import Derived.Test.YtmfmknpkeniifaaTrp
import Derived.Test.YtmfmknpkeniifaaParC
import Derived.Test.YtmfmknpkeniifaaHulC
namespace Go.Proofs.Ytmfmknpkeniifaa
set_option linter.unusedVariables false
open Go.RowKit

set_option maxRecDepth 100000 in
set_option maxHeartbeats 8000000 in
theorem tree_any (s : ByteArray) (b : List Bool) (n : Nat) (w : World) (hs : s.data.toList = enc b) (hn : b.length = n) (hl : n ≤ 400) (hb : Bal b) :
    Calls Try.prog 22 #[.string s] w fun e w' => ∃ (ta : Option Addr) (m tc : Nat) (t : List Int), e = .returned (.tuple #[.slice ta m tc, .int .i64 0]) ∧ m ≤ 400 ∧ Kp (t.length = m) ∧ Kp (GoodT t ∧ (txF t).1 ++ List.replicate (txF t).2.1.length false = b ∧ t.length * 2 = b.length) ∧ Kp (SlI w' ta tc t) ∧ Kp (Below w.heap.size w w') := by
  have hsz : s.size = n := by rw [← hn]; exact str_size hs
  have CC := Kp.mk (pcheck_any s b w hs (by omega) hb)
  have HS := Kp.mk hs
  have HN := Kp.mk hn
  have HB := Kp.mk hb
  clear hs hn hb
  go_enter Try.func22, Try.ntmps22
  go_wp2_with fail
  refine CC.out.mono ?_
  rintro e w1 ⟨rfl, hb1⟩
  have HB1 := Kp.mk hb1
  clear CC hb1
  obtain ⟨B, hBq⟩ : ∃ B, B = w1.heap.size := ⟨_, rfl⟩
  have HBE := Kp.mk hBq
  clear hBq
  obtain ⟨wo, rfl⟩ : ∃ wo : World, wo = w1 := ⟨_, rfl⟩
  go_wp2
  go_loopw [5, 6, 16] (fun tv ov i wr => ∃ (k : Nat) (ta oa : Option Addr) (tc oc : Nat) (t : List Int) (o : List Nat), k ≤ n ∧ i = .int .i64 k ∧ tv = .slice ta t.length tc ∧ ov = .slice oa o.length oc ∧ t.length ≤ k ∧ o.length ≤ k ∧ Kp (TrInv b k t o) ∧ Kp (wr.ownsRow B 3 1 (.slice ta t.length tc) t.length (ints t)) ∧ Kp (wr.ownsRow B 3 1 (.slice oa o.length oc) o.length (ints (o.map Int.ofNat))) ∧ Kp (∀ g, blk ta = some g → blk oa ≠ some g) ∧ Kp (Below B wo wr)) (fun _ _ i _ => n - (intOf i).toNat)
  case atStart => exact ⟨0, none, none, 0, 0, [], [], Nat.zero_le _, rfl, rfl, rfl, Nat.zero_le _, Nat.zero_le _, ⟨trInv_zero b⟩, ⟨World.ownsRow_nil _ _ _ _⟩, ⟨World.ownsRow_nil _ _ _ _⟩, ⟨by simp [blk]⟩, ⟨Below.refl _ _⟩⟩
  case round =>
    obtain ⟨k, ta, oa, tc, oc, t, o, hk, rfl, rfl, rfl, htk, hok, HI, HT, HO, HD, HBL⟩ := hrel
    have hsr : B ≤ wr.heap.size := by have := HBL.out.size; have := HBE.out; omega
    by_cases hlt : k < n
    · have hkb : k < b.length := by rw [HN.out]; exact hlt
      cases hbk : b[k] with
      | true =>
        have hidx := str_at HS.out k true 40 (by rw [List.getElem?_eq_getElem hkb, hbk]) rfl
        obtain ⟨p, hp⟩ : ∃ p : Int, p = if o.length = 0 then -1 else ((o.getD (o.length - 1) 0 : Nat) : Int) := ⟨_, rfl⟩
        have HNX := Kp.mk (trInv_open HI.out hkb hbk p (by
          rw [hp]
          by_cases h0 : o.length = 0
          · rw [if_pos h0]; exact .inl ⟨List.length_eq_zero_iff.1 h0, rfl⟩
          · rw [if_neg h0]; exact .inr ⟨by omega, rfl⟩))
        have HPE := Kp.mk hp
        clear hbk hkb hp
        by_cases h0 : o.length = 0
        · obtain rfl : o = [] := List.length_eq_zero_iff.1 h0
          obtain rfl : p = -1 := by rw [HPE.out]; rfl
          clear HPE h0
          go_wp2_with (at_builtin; refine wpList_pushS tInts rfl _ _ rfl B oa 0 oc _ rfl HO.out 1 _ rfl rfl ?c1 ?c2 (by decide) hsr ?c4)
          case c1 => simp [Value.oneCell']
          case c2 => omega
          case c4 =>
            intro oa' oc' w3 ho3 hg3 hn3
            have HO3 := Kp.mk (show w3.ownsRow B 3 1 (.slice oa' (([] : List Nat) ++ [t.length]).length oc') (([] : List Nat) ++ [t.length]).length (ints ((([] : List Nat) ++ [t.length]).map Int.ofNat)) from by
              rw [List.length_append, List.length_singleton, List.map_append, ints_append]; exact ho3)
            have HT3 := Kp.mk (own_keep HT.out hg3 (fun g hg e => HD.out g e hg))
            have hsr3 : B ≤ w3.heap.size := Nat.le_trans hsr hg3.size
            have HB3 := Kp.mk (HBL.out.trans (below_of_grown hg3 hsr (fun q hq => (own_lt HO.out q hq).1)))
            have HD3 := Kp.mk (show ∀ g, blk ta = some g → blk oa' ≠ some g from fun g hg e => by
              rcases hn3 with h | ⟨g', h, hg'⟩
              · rw [h] at e; exact HD.out g hg e
              · rw [h] at e; cases e; have := (own_lt HT.out g hg).2; omega)
            clear ho3 hg3 hn3 HO HT HD
            go_wp2_with (at_builtin; refine wpList_pushS tInts rfl _ _ rfl B ta t.length tc _ rfl HT3.out 1 _ rfl rfl ?e1 ?e2 (by decide) hsr3 ?e4)
            case e1 => simp [Value.oneCell']
            case e2 => omega
            case e4 =>
              intro ta' tc' w4 ho4 hg4 hn4
              have HT4 := Kp.mk (show w4.ownsRow B 3 1 (.slice ta' (t ++ [(-1)]).length tc') (t ++ [(-1)]).length (ints (t ++ [(-1)])) from by
                rw [List.length_append, List.length_singleton, ints_append]; exact ho4)
              have HO4 := Kp.mk (own_keep HO3.out hg4 (fun g hg => HD3.out g hg))
              have HB4 := Kp.mk (HB3.out.trans (below_of_grown hg4 hsr3 (fun q hq => (own_lt HT3.out q hq).1)))
              have HD4 := Kp.mk (show ∀ g, blk ta' = some g → blk oa' ≠ some g from fun g hg e => by
                rcases hn4 with h | ⟨g', h, hg'⟩
                · rw [h] at hg; exact HD3.out g hg e
                · rw [h] at hg; cases hg; have := (own_lt HO3.out g e).2; omega)
              clear ho4 hg4 hn4 HO3 HT3 HD3
              go_wp2
              go_roundw
              case rel => exact ⟨k + 1, ta', oa', tc', oc', t ++ [(-1)], ([] : List Nat) ++ [t.length], by omega, by go_num, by simp, by simp, by simp; omega, by simp, HNX, HT4, HO4, HD4, HB4⟩
              case measure => simp [intOf]; omega
        · rw [if_neg h0] at HPE
          obtain ⟨og, rfl, hog1, hog2⟩ := own_some HO.out (by omega)
          have co := nat_at HO.out rfl (o.length - 1) (by omega)
          rw [← HPE.out] at co
          have hpos : (0 : Int) < o.length := by omega
          obtain ⟨L, hL⟩ : ∃ L, o.length = L + 1 := ⟨o.length - 1, by omega⟩
          rw [show o.length - 1 = L by omega] at co
          go_wp2_with (at_builtin; refine wpList_pushS tInts rfl _ _ rfl B (some ⟨og, 0, none⟩) o.length oc _ rfl HO.out 1 _ rfl rfl ?c1 ?c2 (by decide) hsr ?c4)
          case c1 => simp [Value.oneCell']
          case c2 => omega
          case c4 =>
            intro oa' oc' w3 ho3 hg3 hn3
            have HO3 := Kp.mk (show w3.ownsRow B 3 1 (.slice oa' (o ++ [t.length]).length oc') (o ++ [t.length]).length (ints ((o ++ [t.length]).map Int.ofNat)) from by
              rw [List.length_append, List.length_singleton, List.map_append, ints_append]; rw [← hL] at ho3; exact ho3)
            have HT3 := Kp.mk (own_keep HT.out hg3 (fun g hg e => HD.out g e hg))
            have hsr3 : B ≤ w3.heap.size := Nat.le_trans hsr hg3.size
            have HB3 := Kp.mk (HBL.out.trans (below_of_grown hg3 hsr (fun q hq => (own_lt HO.out q hq).1)))
            have HD3 := Kp.mk (show ∀ g, blk ta = some g → blk oa' ≠ some g from fun g hg e => by
              rcases hn3 with h | ⟨g', h, hg'⟩
              · rw [h] at e; exact HD.out g hg e
              · rw [h] at e; cases e; have := (own_lt HT.out g hg).2; omega)
            clear ho3 hg3 hn3 HO HT HD
            go_wp2_with (at_builtin; refine wpList_pushS tInts rfl _ _ rfl B ta t.length tc _ rfl HT3.out 1 _ rfl rfl ?e1 ?e2 (by decide) hsr3 ?e4)
            case e1 => simp [Value.oneCell']
            case e2 => omega
            case e4 =>
              intro ta' tc' w4 ho4 hg4 hn4
              have HT4 := Kp.mk (show w4.ownsRow B 3 1 (.slice ta' (t ++ [p]).length tc') (t ++ [p]).length (ints (t ++ [p])) from by
                rw [List.length_append, List.length_singleton, ints_append]; exact ho4)
              have HO4 := Kp.mk (own_keep HO3.out hg4 (fun g hg => HD3.out g hg))
              have HB4 := Kp.mk (HB3.out.trans (below_of_grown hg4 hsr3 (fun q hq => (own_lt HT3.out q hq).1)))
              have HD4 := Kp.mk (show ∀ g, blk ta' = some g → blk oa' ≠ some g from fun g hg e => by
                rcases hn4 with h | ⟨g', h, hg'⟩
                · rw [h] at hg; exact HD3.out g hg e
                · rw [h] at hg; cases hg; have := (own_lt HO3.out g e).2; omega)
              clear ho4 hg4 hn4 HO3 HT3 HD3
              go_wp2
              go_roundw
              case rel => exact ⟨k + 1, ta', oa', tc', oc', t ++ [p], o ++ [t.length], by omega, by go_num, by simp, by simp [hL], by simp; omega, by simp; omega, HNX, HT4, HO4, HD4, HB4⟩
              case measure => simp [intOf]; omega
      | false =>
        have hidx := str_at HS.out k false 41 (by rw [List.getElem?_eq_getElem hkb, hbk]) rfl
        have ho := bal_open HI.out hkb hbk HB.out
        have HNX := Kp.mk (trInv_shut HI.out hkb hbk ho)
        obtain ⟨L, hL⟩ : ∃ L, o.length = L + 1 := ⟨o.length - 1, by omega⟩
        obtain ⟨go, rfl, hgo1, hgo2⟩ := own_some HO.out (by omega)
        have hLoc : L ≤ oc := by have := (own_slc HO.out).le; omega
        have HOT := Kp.mk (own_front HO.out (m := L) (by omega))
        have hTL : (o.take L).length = L := by rw [List.length_take]; omega
        rw [show o.length - 1 = L by omega] at HNX
        clear hbk hkb
        go_wp2
        go_roundw
        case rel =>
          refine ⟨k + 1, ta, some ⟨go, 0, none⟩, tc, oc, t, o.take L, by omega, by go_num, rfl, by rw [hTL], by omega, by omega, HNX, HT, ⟨?_⟩, HD, HBL⟩
          rw [hTL]
          have := HOT.out
          rw [ints, ← List.map_take, ← List.map_take] at this
          exact this
        case measure => simp [intOf]; omega
    · obtain rfl : k = n := by omega
      have hI := HI.out
      rw [← HN.out] at hI
      have HE := Kp.mk (trInv_end hI HB.out)
      have HG := Kp.mk hI.good
      have HBF := Kp.mk (below_step HB1.out (by rw [← HBE.out]; exact HBL.out))
      have HTS := Kp.mk (show SlI wr ta tc t from own_slc HT.out)
      clear hI
      go_wp2
      refine bodyPost_ret (v := .tuple #[.slice ta t.length tc, .int .i64 0]) (by simp [results, Try.results22, go_sem]) rfl ?_
      exact ⟨ta, t.length, tc, t, rfl, by omega, ⟨rfl⟩, ⟨HG.out, HE.out.1, HE.out.2⟩, HTS, HBF⟩

end Go.Proofs.Ytmfmknpkeniifaa
