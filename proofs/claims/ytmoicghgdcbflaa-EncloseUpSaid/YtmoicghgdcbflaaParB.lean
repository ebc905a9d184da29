/- Package paren: Check, Match, Enclose. -/
import Derived.Test.YtmoicghgdcbflaaPar
namespace Go.Proofs.Ytmoicghgdcbflaa
set_option linter.unusedVariables false
open Go.RowKit

set_option maxHeartbeats 400000 in
theorem matched_any (s : ByteArray) (b : List Bool) (n : Nat) (w : World) (hs : s.data.toList = enc b) (hn : b.length = n) (hl : n ≤ 400) (hb : Bal b) :
    Calls Try.prog 49 #[.string s] w (fun e w' => ∃ ma mc m, e = .returned (.tuple #[.slice ma n mc, .int .i64 0]) ∧ SlI w' ma mc m ∧ Mat b n [] m ∧ Below w.heap.size w w') := by
  have hsz : s.size = n := by rw [str_size hs, hn]
  have hM := Kp.mk (matches_any s b n w hs hn (by omega) hb)
  clear hs hn hb
  go_enter Try.func49, Try.ntmps49
  go_wp2_with fail
  refine hM.out.mono ?_
  rintro e w1 ⟨ma, mc, m, rfl, h1, h2, h3⟩
  have H1 := Kp.mk h1
  have H2 := Kp.mk h2
  clear h1 h2
  go_wp2
  go_ret2
  exact ⟨ma, mc, m, rfl, H1.out, H2.out, h3⟩

theorem pcheck_any (s : ByteArray) (b : List Bool) (w : World) (hs : s.data.toList = enc b) (hl : b.length ≤ 400) (hb : Bal b) :
    Calls Try.prog 31 #[.string s] w (fun e w' => e = .returned (.int .i64 0) ∧ Below w.heap.size w w') := by
  have hM := Kp.mk (matched_any s b _ w hs rfl hl hb)
  clear hs hl hb
  go_enter Try.func31, Try.ntmps31
  go_wp2_with fail
  refine hM.out.mono ?_
  rintro e w1 ⟨ma, mc, m, rfl, h1, h2, h3⟩
  clear h1 h2
  go_wp2
  go_ret
  exact ⟨rfl, h3⟩

/-- What begins with a bracket that closes may not be. -/
theorem matches_bad (s : ByteArray) (n : Nat) (w : World) (hn : s.size = n) (h0 : 0 < n) (hl : n ≤ 400) (hx : ∀ W, (Instr.index 9 (.string s) (.int .i64 0)).run Try.prog W = .ok (.int .u8 41) W) :
    Calls Try.prog 59 #[.string s] w (fun e w' => e = .returned (.tuple #[.slice none 0 0, .bool false]) ∧ Below w.heap.size w w') := by
  go_enter Try.func59, Try.ntmps59
  go_wp2_with (at_make; refine wpList_mk1 tInts rfl rfl _ _ rfl w.heap.size n rfl rfl ?c1 (by decide) (Nat.le_refl _) ?c3)
  case c1 => omega
  case c3 =>
    intro ma mc w1 hown hbel
    clear hown
    go_wp2
    refine wp_loop_once ?_
    go_wp2
    go_ret2
    exact ⟨rfl, hbel⟩

theorem pcheck_bad (s : ByteArray) (n : Nat) (w : World) (hn : s.size = n) (h0 : 0 < n) (hl : n ≤ 400) (hx : ∀ W, (Instr.index 9 (.string s) (.int .i64 0)).run Try.prog W = .ok (.int .u8 41) W) :
    Calls Try.prog 31 #[.string s] w (fun e w' => e = .returned (.int .i64 4) ∧ Below w.heap.size w w') := by
  have hM := Kp.mk (matches_bad s n w hn h0 hl hx)
  clear hx
  have hC : Calls Try.prog 49 #[.string s] w (fun e w' => e = .returned (.tuple #[.slice none 0 0, .int .i64 4]) ∧ Below w.heap.size w w') := by
    go_enter Try.func49, Try.ntmps49
    go_wp2_with fail
    refine hM.out.mono ?_
    rintro e w1 ⟨rfl, h3⟩
    go_wp2
    go_ret2
    exact ⟨rfl, h3⟩
  have HC := Kp.mk hC
  clear hC
  go_enter Try.func31, Try.ntmps31
  go_wp2_with fail
  refine HC.out.mono ?_
  rintro e w1 ⟨rfl, h3⟩
  go_wp2
  go_ret
  exact ⟨rfl, h3⟩

/-- The partner of a place. -/
def Part (b : List Bool) (k q : Nat) : Prop := Pair b k q ∨ Pair b q k
theorem mat_part {b : List Bool} {n : Nat} {m : List Int} (h : Mat b n [] m) (k : Nat) (hk : k < n) : ∃ q : Nat, m.getD k 0 = (q : Int) ∧ Part b k q := by
  rcases h.2 k hk with h' | ⟨p, r, h1, h2, h3, h4, h5⟩
  · simp at h'
  · rcases h2 with rfl | rfl
    · exact ⟨r, h4, .inl h1⟩
    · exact ⟨p, h5, .inr h1⟩

set_option maxHeartbeats 400000 in
theorem match_any (s : ByteArray) (b : List Bool) (n k : Nat) (w : World) (hs : s.data.toList = enc b) (hn : b.length = n) (hl : n ≤ 400) (hb : Bal b) (hk : k < n) :
    Calls Try.prog 30 #[.string s, .int .i64 k] w (fun e w' => ∃ q : Nat, e = .returned (.tuple #[.int .i64 q, .int .i64 0]) ∧ Part b k q ∧ Below w.heap.size w w') := by
  have hsz : s.size = n := by rw [str_size hs, hn]
  have hM := Kp.mk (matched_any s b n w hs hn hl hb)
  have HN := Kp.mk hn
  clear hs hb hn
  go_enter Try.func30, Try.ntmps30
  go_wp2_with fail
  refine hM.out.mono ?_
  rintro e w1 ⟨ma, mc, m, rfl, h1, h2, h3⟩
  obtain ⟨q, hq, hP⟩ := mat_part h2 k hk
  have hml : m.length = n := by rw [h2.1, HN.out]
  have hkm : k < m.length := by omega
  obtain ⟨b1, o1, rfl, c1⟩ := h1.at k hkm
  have hq2 : m[k] = (q : Int) := by rw [← hq]; simp [hkm]
  rw [hq2] at c1
  have HP := Kp.mk hP
  clear h1 h2 hq hP hml hq2 hkm
  go_wp2
  go_ret2
  exact ⟨q, rfl, HP.out, h3⟩

/-- The depth of the pair that a place belongs to. -/
theorem enclose_step {b : List Bool} (hb : Bal b) {p q k j : Nat} (hP : Pair b p q) (hk : k < p) (h1 : ht b (k + 1) = ht b p) (h2 : ∀ t, k < t → t ≤ p → ht b p ≤ ht b t) (hj : Part b k j) :
    (q < j ∧ b.getD k false = true ∧ ht b k = ht b p - 1) ∨ (j < k ∧ ht b j = ht b p ∧ ∀ t, j ≤ t → t ≤ p → ht b p ≤ ht b t) := by
  obtain ⟨a1, a2, a3, a4, a5, a6⟩ := hP
  rcases hj with hj | hj
  · left
    obtain ⟨c1, c2, c3, c4, c5, c6⟩ := hj
    have hkb : b[k]'(by omega) = true := by simpa [show k < b.length by omega] using c3
    have e := ht_succ b k (by omega)
    rw [hkb] at e; simp at e
    refine ⟨?_, c3, by omega⟩
    by_cases hjp : j + 1 ≤ p
    · have := h2 (j + 1) (by omega) hjp; omega
    · by_cases hjq : j ≤ q
      · have : ht b p ≤ ht b (j + 1) := by
          by_cases hjq2 : j = q
          · rw [hjq2, a5]; omega
          · have := a6 (j + 1) (by omega) (by omega); omega
        omega
      · omega
  · right
    obtain ⟨c1, c2, c3, c4, c5, c6⟩ := hj
    refine ⟨c1, by omega, fun t ht1 ht2 => ?_⟩
    by_cases htk : t ≤ k
    · by_cases htj : t = j
      · rw [htj]; omega
      · have := c6 t (by omega) htk; omega
    · exact h2 t (by omega) ht2

/-- What Enclose answers. -/
def Encl (b : List Bool) (p : Nat) (e : Ending) : Prop :=
  (e = .returned (.tuple #[.int .i64 0, .int .i64 7]) ∧ ht b p = 0) ∨
  ∃ K : Nat, e = .returned (.tuple #[.int .i64 K, .int .i64 0]) ∧ K < p ∧ b.getD K false = true ∧ ht b K = ht b p - 1

set_option maxHeartbeats 1000000 in
theorem enclose_any (s : ByteArray) (b : List Bool) (n i p q : Nat) (w : World) (hs : s.data.toList = enc b) (hn : b.length = n) (hl : n ≤ 400) (hb : Bal b) (hP : Pair b p q) (hi : i = p ∨ i = q) :
    Calls Try.prog 32 #[.string s, .int .i64 i] w (fun e w' => Encl b p e ∧ Below w.heap.size w w') := by
  have hsz : s.size = n := by rw [str_size hs, hn]
  have hM := Kp.mk (matched_any s b n w hs hn hl hb)
  have HN := Kp.mk hn
  have HB := Kp.mk hb
  have hpq : p < q := hP.1
  have hqn : q < n := by have := hP.2.1; omega
  have hin : i < n := by omega
  clear hs hb hn
  go_enter Try.func32, Try.ntmps32
  go_wp2_with fail
  refine hM.out.mono ?_
  rintro e w1 ⟨ma, mc, m, rfl, h1, h2, h3⟩
  have hml : m.length = n := by rw [h2.1, HN.out]
  obtain ⟨b1, o1, rfl, c1⟩ := h1.at i (by omega)
  -- the other end of the pair
  obtain ⟨r, hr, hPr⟩ := mat_part h2 i hin
  have hr2 : m[i]'(by omega) = (r : Int) := by rw [← hr]; simp [show i < m.length by omega]
  rw [hr2] at c1
  have hcase : (i = p ∧ r = q) ∨ (i = q ∧ r = p) := by
    rcases hi with e | e
    · left
      refine ⟨e, ?_⟩
      subst e
      rcases hPr with h | h
      · exact ((pair_inj hP h (.inl rfl)).2).symm
      · exact absurd rfl (pair_apart hP h)
    · right
      refine ⟨e, ?_⟩
      subst e
      rcases hPr with h | h
      · exact absurd rfl (pair_apart h hP)
      · exact (pair_inj h hP (.inr rfl)).1
  have HH1 := Kp.mk h1
  have HH2 := Kp.mk h2
  have HPP := Kp.mk hP
  have HML := Kp.mk hml
  have hH3 := Kp.mk h3
  have hqi : i ≤ q := by omega
  have hpi : p ≤ i := by omega
  clear hr hr2 hPr h1 h2 hP hml hi h3
  rcases hcase with ⟨e1, e2⟩ | ⟨e1, e2⟩
  all_goals
    have f1 := e1.symm
    have f2 := e2.symm
    clear e1 e2
    subst f1
    subst f2
    go_wp2
    go_loop [8] (fun v => ∃ k1 : Nat, v = .int .i64 ((k1 : Int) - 1) ∧ k1 ≤ p ∧ Kp (ht b k1 = ht b p ∧ ∀ t, k1 ≤ t → t ≤ p → ht b p ≤ ht b t)) (fun v => (intOf v + 1).toNat)
    case atStart => exact ⟨p, rfl, Nat.le_refl _, ⟨rfl, fun t h1 h2 => by rw [show t = p by omega]; exact Int.le_refl _⟩⟩
    case round =>
      obtain ⟨k1, rfl, hk1, HI⟩ := hrel
      cases k1 with
      | zero =>
        have hD : Kp (ht b p = 0) := ⟨by rw [← HI.out.1, ht_zero]⟩
        go_wp2
        go_ret2
        exact ⟨.inl ⟨rfl, hD.out⟩, hH3.out⟩
      | succ k =>
        have hkn : k < n := by omega
        obtain ⟨j, hj, hPj⟩ := mat_part HH2.out k hkn
        have hkm : k < m.length := by rw [HML.out]; exact hkn
        have hj2 : m[k] = (j : Int) := by rw [← hj]; simp [hkm]
        obtain ⟨b2, o2, e, c2⟩ := HH1.out.at k hkm
        simp only [Option.some.injEq, Addr.mk.injEq, and_true] at e
        obtain ⟨rfl, rfl⟩ := e
        rw [hj2] at c2
        have hstep := Kp.mk (enclose_step HB.out HPP.out (show k < p by omega) HI.out.1 (fun t h1 h2 => HI.out.2 t (by omega) h2) hPj)
        clear hj hPj hj2 hkm
        have e1 : (((k + 1 : Nat) : Int) - 1) = (k : Int) := by omega
        rw [e1]
        rcases hstep.out with ⟨h1, h2, h3⟩ | ⟨h1, h2, h3⟩
        · have HK := Kp.mk h2
          have HK3 := Kp.mk h3
          clear h2 h3
          go_wp2
          go_ret2
          exact ⟨.inr ⟨k, rfl, by omega, HK.out, HK3.out⟩, hH3.out⟩
        · have HK := Kp.mk h2
          have HK3 := Kp.mk h3
          clear h2 h3
          go_wp2
          go_round
          case rel => exact ⟨j, rfl, by omega, ⟨HK.out, HK3.out⟩⟩
          case measure => simp [intOf]; omega

end Go.Proofs.Ytmoicghgdcbflaa
