/- Merging in place: the walks of swapRange and rotate. -/
import Derived.Test.YtlmdlholmlbcbaaSmP
import Derived.Test.YtlmdlholmlbcbaaNatR
namespace Go.Proofs.Ytlmdlholmlbcbaa
set_option linter.unusedVariables false
open Go.RowKit

theorem row_len {w : World} {B g n c : Nat} {X : List Nat} (h : w.ownsRow B 3 1 (.slice (some ⟨g, 0, none⟩) n c) n (ints (X.map Int.ofNat))) : X.length = n := by
  have := h.1
  rw [ints_length, List.length_map, Nat.mul_one] at this; exact this
theorem row_swap {w : World} {B g n c a b : Nat} {X : List Nat} (x y : Nat) (h : w.ownsRow B 3 1 (.slice (some ⟨g, 0, none⟩) n c) n (ints (X.map Int.ofNat))) : ((w.setCell ⟨g, a, none⟩ (.int .i64 (x : Int))).setCell ⟨g, b, none⟩ (.int .i64 (y : Int))).drew.ownsRow B 3 1 (.slice (some ⟨g, 0, none⟩) n c) n (ints (((X.set a x).set b y).map Int.ofNat)) := by
  have h2 := (((h.stored a (.int .i64 (x : Int))).1).stored b (.int .i64 (y : Int))).1
  rw [natrow_set, natrow_set] at h2
  exact h2
theorem grown_swap (w : World) (g a b : Nat) (x y : Value) : w.grownBy ((w.setCell ⟨g, a, none⟩ x).setCell ⟨g, b, none⟩ y).drew (some g) :=
  grown_drew (grown_trans (grown_set w g a x) (grown_set _ g b y))

set_option maxRecDepth 100000 in
set_option maxHeartbeats 2000000 in
theorem swapRange_any (B g c n : Nat) (P A M Q S : List Nat) (a b k : Nat) (f : Value) (w : World) (h : w.ownsRow B 3 1 (.slice (some ⟨g, 0, none⟩) n c) n (ints ((P ++ A ++ M ++ Q ++ S).map Int.ofNat)))
    (ha : P.length = a) (hk : A.length = k) (hk2 : Q.length = k) (hb : a + k + M.length = b) (hn : n ≤ 1000000) :
    Calls Try.prog 215 #[.slice (some ⟨g, 0, none⟩) n c, .int .i64 a, .int .i64 b, .int .i64 k, f] w fun e w' => e = .returned (.tuple #[]) ∧ Kp (w'.ownsRow B 3 1 (.slice (some ⟨g, 0, none⟩) n c) n (ints ((P ++ Q ++ M ++ A ++ S).map Int.ofNat))) ∧ Kp (w.grownBy w' (some g)) := by
  have hl := row_len h
  have H := Kp.mk h
  have HL := Kp.mk (show a + k ≤ n ∧ b + k ≤ n from by simp only [List.length_append] at hl; omega)
  have HE := Kp.mk (And.intro ha (And.intro hk (And.intro hk2 hb)))
  have hcap : n ≤ c := by have := (own_slc h).le; exact this
  clear h hl ha hk hk2 hb
  go_enter Try.func215, Try.ntmps215
  go_wp2
  obtain ⟨wo, rfl⟩ : ∃ wo : World, wo = w := ⟨_, rfl⟩
  go_loopw [10] (fun i wr => ∃ j : Nat, j ≤ k ∧ i = .int .i64 j ∧ Kp (wr.ownsRow B 3 1 (.slice (some ⟨g, 0, none⟩) n c) n (ints ((swR P A M Q S j).map Int.ofNat))) ∧ Kp (wo.grownBy wr (some g))) (fun i _ => k - (intOf i).toNat)
  case atStart => exact ⟨0, Nat.zero_le _, rfl, ⟨by rw [swR_zero]; exact H.out⟩, ⟨grown_refl _ _⟩⟩
  case round =>
    obtain ⟨j, hj, rfl, HO, HG⟩ := hrel
    obtain ⟨ha, hk, hk2, hb⟩ := HE.out
    by_cases hlt : j < k
    · obtain ⟨s1, s2, s3⟩ := swR_step P A M Q S j (by omega) (by omega) (a + j) (b + j) (by omega) (by omega)
      have hX := row_len HO.out
      have c1 := nat_at HO.out hX (a + j) (by have := HL.out; omega)
      have c2 := nat_at HO.out hX (b + j) (by have := HL.out; omega)
      have f1 := HO.out.frozenAt (a + j)
      have f2 := HO.out.frozenAt (b + j)
      rw [s1] at c1
      rw [s2] at c2
      have HS := Kp.mk s3
      generalize A[j]'(by omega) = x at *
      generalize Q[j]'(by omega) = y at *
      generalize swR P A M Q S j = X at *
      have hbn : b + j < n := by have := HL.out; omega
      have han : a + j < n := by have := HL.out; omega
      have hab : a + j ≠ b + j := by omega
      have HO2 := Kp.mk (row_swap (a := a + j) (b := b + j) y x HO.out)
      have HG2 := Kp.mk (grown_trans HG.out (grown_swap wr g (a + j) (b + j) (.int .i64 (y : Int)) (.int .i64 (x : Int))))
      rw [HS.out] at HO2
      obtain ⟨v2, hv2⟩ := cell?_setCell_some (w := wr) (p := ⟨g, a + j, none⟩) (x := .int .i64 (y : Int)) (q := ⟨g, b + j, none⟩) (v := .int .i64 (y : Int)) c2
      clear s1 s2 s3 hX ha hk hk2 hb
      go_wp2
      go_region
      go_wp2
      go_roundw
      case rel => exact ⟨j + 1, by omega, by go_num, HO2, HG2⟩
      case measure => simp [intOf]; omega
    · obtain rfl : j = k := by omega
      have HO2 := Kp.mk (show wr.ownsRow B 3 1 (.slice (some ⟨g, 0, none⟩) n c) n (ints ((P ++ Q ++ M ++ A ++ S).map Int.ofNat)) from by
        rw [← swR_end P A M Q S (by omega), hk]; exact HO.out)
      clear ha hk hk2 hb
      go_wp2
      go_end0
      exact ⟨rfl, HO2, HG⟩

set_option maxRecDepth 100000 in
set_option maxHeartbeats 4000000 in
theorem rotate_any (B g c n : Nat) (P L R S : List Nat) (a m b : Nat) (f : Value) (w : World) (h : w.ownsRow B 3 1 (.slice (some ⟨g, 0, none⟩) n c) n (ints ((P ++ L ++ R ++ S).map Int.ofNat)))
    (ha : P.length = a) (hm : a + L.length = m) (hb : m + R.length = b) (h1 : a < m) (h2 : m < b) (hn : n ≤ 1000000) :
    Calls Try.prog 204 #[.slice (some ⟨g, 0, none⟩) n c, .int .i64 a, .int .i64 m, .int .i64 b, f] w fun e w' => e = .returned (.tuple #[]) ∧ Kp (w'.ownsRow B 3 1 (.slice (some ⟨g, 0, none⟩) n c) n (ints ((P ++ R ++ L ++ S).map Int.ofNat))) ∧ Kp (w.grownBy w' (some g)) := by
  have hl := row_len h
  have hbn : b ≤ n := by simp only [List.length_append] at hl; omega
  have H := Kp.mk h
  have HE := Kp.mk (And.intro ha (And.intro hm hb))
  clear h hl
  have ei : IntKind.i64.wrap ((m : Int) - a) = ((m - a : Nat) : Int) := by rw [show (m : Int) - a = ((m - a : Nat) : Int) by omega]; exact IntWalk.i64_in _ (by omega)
  have ej : IntKind.i64.wrap ((b : Int) - m) = ((b - m : Nat) : Int) := by rw [show (b : Int) - m = ((b - m : Nat) : Int) by omega]; exact IntWalk.i64_in _ (by omega)
  clear ha hm hb
  go_enter Try.func204, Try.ntmps204
  go_wp2
  obtain ⟨wo, rfl⟩ : ∃ wo : World, wo = w := ⟨_, rfl⟩
  go_loopw [10, 11] (fun i j wr => ∃ (i' j' : Nat) (p L' R' s : List Nat), i = .int .i64 i' ∧ j = .int .i64 j' ∧ 0 < i' ∧ 0 < j' ∧ i' ≤ m ∧ m + j' ≤ n ∧ Kp (p.length + i' = m ∧ L'.length = i' ∧ R'.length = j' ∧ P ++ R ++ L ++ S = p ++ R' ++ L' ++ s) ∧ Kp (wr.ownsRow B 3 1 (.slice (some ⟨g, 0, none⟩) n c) n (ints ((p ++ L' ++ R' ++ s).map Int.ofNat))) ∧ Kp (wo.grownBy wr (some g))) (fun i j _ => (intOf i).toNat + (intOf j).toNat)
  case atStart =>
    obtain ⟨ha, hm, hb⟩ := HE.out
    exact ⟨m - a, b - m, P, L, R, S, by first | rfl | (congr 1; omega), by first | rfl | (congr 1; omega), by omega, by omega, by omega, by omega, ⟨by omega, by omega, by omega, rfl⟩, H, ⟨grown_refl _ _⟩⟩
  case round =>
    clear ei ej
    obtain ⟨i, j, p, L', R', s, rfl, rfl, hi0, hj0, him, hjn, HI, HO, HG⟩ := hrel
    obtain ⟨hp, hL, hR, hT⟩ := HI.out
    have em : IntKind.i64.wrap ((m : Int) - i) = ((m - i : Nat) : Int) := by rw [show (m : Int) - i = ((m - i : Nat) : Int) by omega]; exact IntWalk.i64_in _ (by omega)
    by_cases hij : i = j
    · subst hij
      have hT2 : p ++ L' ++ R' ++ s = p ++ L' ++ [] ++ R' ++ s := by simp
      have ho := HO.out
      rw [hT2] at ho
      have CS := Kp.mk (swapRange_any B g c n p L' [] R' s (m - i) m i f wr ho (by omega) hL hR (by simp; omega) hn)
      rw [show p ++ R' ++ [] ++ L' ++ s = P ++ R ++ L ++ S from by rw [hT]; simp] at CS
      clear ho hT2 hp hL hR hT HI HO
      go_wp2_with fail
      refine CS.out.mono ?_
      rintro e w2 ⟨rfl, HO2, HG2⟩
      have HG3 := Kp.mk (grown_trans HG.out HG2.out)
      go_wp2
      go_end0
      exact ⟨rfl, HO2, HG3⟩
    · have tne : ((i : Int) != (j : Int)) = true := by simp; omega
      by_cases hgt : j < i
      · have tgt : decide ((j : Int) < i) = true := decide_eq_true (by omega)
        have hsp : L' = L'.take j ++ L'.drop j := (List.take_append_drop j L').symm
        have l1 : (L'.take j).length = j := by rw [List.length_take]; omega
        have l2 : (L'.drop j).length = i - j := by rw [List.length_drop]; omega
        have e1 : p ++ L' ++ R' ++ s = p ++ L'.take j ++ L'.drop j ++ R' ++ s := by rw [List.append_assoc p (L'.take j), List.take_append_drop]
        have ho := HO.out
        rw [e1] at ho
        have CS := Kp.mk (swapRange_any B g c n p (L'.take j) (L'.drop j) R' s (m - i) m j f wr ho (by omega) l1 hR (by omega) hn)
        have HN := Kp.mk (show (p ++ R').length + (i - j) = m ∧ (L'.drop j).length = i - j ∧ (L'.take j).length = j ∧ P ++ R ++ L ++ S = (p ++ R') ++ L'.take j ++ L'.drop j ++ s from
          ⟨by rw [List.length_append]; omega, l2, l1, by rw [hT]; simp only [List.append_assoc]; rw [← List.append_assoc (L'.take j), List.take_append_drop]⟩)
        have e5 : IntKind.i64.wrap ((i : Int) - j) = ((i - j : Nat) : Int) := by rw [show (i : Int) - j = ((i - j : Nat) : Int) by omega]; exact IntWalk.i64_in _ (by omega)
        clear ho e1 l1 l2 hsp hp hL hR hT HI HO
        go_wp2_with fail
        refine CS.out.mono ?_
        rintro e w2 ⟨rfl, HO2, HG2⟩
        have HG3 := Kp.mk (grown_trans HG.out HG2.out)
        have HO3 := Kp.mk (show w2.ownsRow B 3 1 (.slice (some ⟨g, 0, none⟩) n c) n (ints (((p ++ R') ++ L'.drop j ++ L'.take j ++ s).map Int.ofNat)) from HO2.out)
        clear CS HO2 HG2
        go_wp2
        go_roundw
        case rel => exact ⟨i - j, j, p ++ R', L'.drop j, L'.take j, s, by first | rfl | go_num, rfl, by omega, hj0, by omega, hjn, HN, HO3, HG3⟩
        case measure => simp [intOf]; omega
      · have tgt : decide ((j : Int) < i) = false := decide_eq_false (by omega)
        have l1 : (R'.take (j - i)).length = j - i := by rw [List.length_take]; omega
        have l2 : (R'.drop (j - i)).length = i := by rw [List.length_drop]; omega
        have e1 : p ++ L' ++ R' ++ s = p ++ L' ++ R'.take (j - i) ++ R'.drop (j - i) ++ s := by rw [List.append_assoc (p ++ L') (R'.take (j - i)), List.take_append_drop]
        have ho := HO.out
        rw [e1] at ho
        have CS := Kp.mk (swapRange_any B g c n p L' (R'.take (j - i)) (R'.drop (j - i)) s (m - i) (m + j - i) i f wr ho (by omega) hL l2 (by omega) hn)
        have HN := Kp.mk (show p.length + i = m ∧ (R'.drop (j - i)).length = i ∧ (R'.take (j - i)).length = j - i ∧ P ++ R ++ L ++ S = p ++ R'.take (j - i) ++ R'.drop (j - i) ++ (L' ++ s) from
          ⟨hp, l2, l1, by rw [hT]; simp only [List.append_assoc]; rw [← List.append_assoc (R'.take (j - i)), List.take_append_drop]⟩)
        have e5 : IntKind.i64.wrap ((j : Int) - i) = ((j - i : Nat) : Int) := by rw [show (j : Int) - i = ((j - i : Nat) : Int) by omega]; exact IntWalk.i64_in _ (by omega)
        have e6 : IntKind.i64.wrap ((m : Int) + j - i) = ((m + j - i : Nat) : Int) := by rw [show (m : Int) + j - i = ((m + j - i : Nat) : Int) by omega]; exact IntWalk.i64_in _ (by omega)
        clear ho e1 l1 l2 hp hL hR hT HI HO
        go_wp2_with fail
        refine CS.out.mono ?_
        rintro e w2 ⟨rfl, HO2, HG2⟩
        have HG3 := Kp.mk (grown_trans HG.out HG2.out)
        have HO3 := Kp.mk (show w2.ownsRow B 3 1 (.slice (some ⟨g, 0, none⟩) n c) n (ints ((p ++ R'.drop (j - i) ++ R'.take (j - i) ++ (L' ++ s)).map Int.ofNat)) from by
          have := HO2.out
          simpa only [List.append_assoc] using this)
        clear CS HO2 HG2
        go_wp2
        go_roundw
        case rel => exact ⟨i, j - i, p, R'.drop (j - i), R'.take (j - i), L' ++ s, rfl, by first | rfl | go_num, hi0, by omega, him, by omega, HN, HO3, HG3⟩
        case measure => simp [intOf]; omega

end Go.Proofs.Ytlmdlholmlbcbaa
