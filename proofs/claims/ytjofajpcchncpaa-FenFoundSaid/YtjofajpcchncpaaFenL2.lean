/- The walk of FenFound. -/
import Derived.Test.YtjofajpcchncpaaFenL
import Derived.Test.YtjofajpcchncpaaFenF
namespace Go.Proofs.Ytjofajpcchncpaa
set_option linter.unusedVariables false
open Go.RowKit

theorem app_bd0 (l : List Int) (M x : Int) (h : ∀ y ∈ l, 0 ≤ y ∧ y ≤ M) (h1 : 0 ≤ x) (h2 : x ≤ M) : ∀ y ∈ l ++ [x], 0 ≤ y ∧ y ≤ M := by
  intro y hy
  rcases List.mem_append.1 hy with hy | hy
  · exact h y hy
  · rw [List.mem_singleton.1 hy]; exact ⟨h1, h2⟩
theorem pre_all (l : List Int) (M : Int) (h : ∀ y ∈ l, 0 ≤ y ∧ y ≤ M) (hM0 : 0 ≤ M) (hl : l.length ≤ 300) (k : Nat) (hk : k ≤ l.length) : 0 ≤ pre l k ∧ pre l k ≤ M * 300 := by
  have h1 := pre_bd l M (fun x hx => by have := h x hx; omega) k hk 0 (by omega)
  have h2 : M * ((k - 0 : Nat) : Int) ≤ M * 300 := Int.mul_le_mul_of_nonneg_left (by omega) hM0
  have h3 := pre_mono l (fun x hx => (h x hx).1) 0 k (by omega) hk
  rw [pre_zero] at h1 h3
  omega

set_option maxHeartbeats 1000000 in
theorem walk_FenFound (a0 : Option Addr) (len0 cap0 : Nat) (z0 : List Int) (a1 : Int) (w : World) (w0 : IsRow .i64 w a0 len0 cap0 z0) (w1 : (Lit.int .i64 a1).wf = true) :
    Calls Try.prog 7 #[.slice a0 len0 cap0, .int .i64 a1] w fun e w' => e = .returned (.bool true) ∧ Below w.heap.size w w' := by
  obtain ⟨l, rfl, hl, wl, nl⟩ := row_sl w0
  obtain ⟨b1, b2⟩ := wf_bd w1
  have HL := Kp.mk hl
  have WL := Kp.mk wl
  unfold maxLen at nl
  clear w0 w1 hl wl
  go_enter Try.func7, Try.ntmps7
  go_wp2_with fail
  refine (numbers_any a0 cap0 90 50 l w HL.out (by omega) (by omega) (by omega) (by omega) WL.out).mono ?_
  rintro e wa ⟨sa, sc, rfl, hown, hbel⟩
  have hlen : (nums l 90 50).length ≤ 90 := by rw [nums_length]; omega
  have HBD := Kp.mk (app_bd0 _ 50 5 (fun y hy => by have := nums_bd l 90 50 (by omega) y hy; omega) (by omega) (by omega))
  generalize nums l 90 50 = L at *
  obtain ⟨m, hm⟩ : ∃ m, m = L.length := ⟨_, rfl⟩
  unfold OwnI at hown
  rw [← hm] at hown hlen ⊢
  have HM := Kp.mk hm
  have HO := Kp.mk hown
  have HB := Kp.mk hbel
  have hsz : Kp (w.heap.size ≤ wa.heap.size) := ⟨hbel.size⟩
  clear hm hown hbel
  go_wp2_with (at_builtin; refine wpList_push tInts rfl _ _ rfl w.heap.size _ _ _ _ rfl HO.out 1 1 _ rfl rfl ?c1 (by decide) ?c2 (by decide) hsz.out ?c4)
  case c1 => simp [Value.oneCell']
  case c2 => omega
  case c4 =>
    intro sb cb wb hownb hbelb
    have HN : Kp ((L ++ [5]).length = m + 1) := ⟨by rw [List.length_append, HM.out]; rfl⟩
    have hS : SlI wb sb cb (L ++ [5]) := own_sl_len (by rw [ints_append]; exact hownb) HN.out
    have HBB := Kp.mk (HB.out.trans hbelb)
    generalize L ++ [5] = ns at *
    obtain ⟨n, hn⟩ : ∃ n, n = m + 1 := ⟨_, rfl⟩
    rw [← hn] at HN ⊢
    have hn1 : 1 ≤ n := by omega
    have hn2 : n ≤ 91 := by omega
    have HS := Kp.mk hS
    clear hn hownb hbelb hS HO HB HM hlen
    have F0 : Facts wb [(sb, cb, ns)] := (Facts.nil _).cons HS.out
    have HTL : Kp ((treeOf ns).length = n) := ⟨by rw [treeOf_length]; exact HN.out⟩
    go_wp2_with fail
    refine (copied_n sb cb n _ _ (F0.get 0 rfl) HN.out (by omega)).mono ?_
    rintro e wc ⟨s1, c1, rfl, hS1, hb1⟩
    have F1 := Facts.cons hS1 (F0.below hb1)
    have HB1 := Kp.mk (below_step HBB.out hb1)
    clear F0 hS1 hb1 HBB HS
    go_wp2_with fail
    refine (fmake_any s1 c1 n ns _ (F1.get 0 rfl) HN.out (by omega) 50 (by omega) (by omega) (fun y hy => by have := HBD.out y hy; omega)).mono ?_
    rintro e wd ⟨s2, c2, rfl, hO, hb⟩
    have F2 := Kp.mk (Facts.cons (own_sl_len hO HTL.out) (F1.below hb))
    have HB2 := Kp.mk (below_step HB1.out hb)
    have HP := Kp.mk (fun k (hk : k ≤ n) => pre_all ns 50 HBD.out (by omega) (by rw [HN.out]; omega) k (by rw [HN.out]; exact hk))
    clear F1 HB1 hO hb
    go_wp2
    go_loop [8, 9] (fun s i => ∃ k : Nat, k ≤ n ∧ i = .int .i64 k ∧ s = .int .i64 (pre ns k)) (fun _ i => n - (intOf i).toNat)
    case atStart => exact ⟨0, Nat.zero_le _, rfl, by rw [pre_zero]⟩
    case round =>
      obtain ⟨k, hk, rfl, rfl⟩ := hrel
      have hpk := HP.out k hk
      by_cases hlt : k < n
      · obtain ⟨b, off, rfl, c1⟩ := (F2.out.get 2 rfl : SlI wd sb cb ns).at k (by rw [HN.out]; exact hlt)
        have hps := Kp.mk (pre_succ ns k (by rw [HN.out]; exact hlt))
        have hxb := HBD.out _ (List.getElem_mem (l := ns) (n := k) (by rw [HN.out]; exact hlt))
        generalize ns[k]'(by rw [HN.out]; exact hlt) = x at *
        generalize pre ns k = pk at *
        go_wp2
        go_round
        case rel => exact ⟨k + 1, by omega, by go_num, by rw [hps.out]⟩
        case measure => simp [intOf]; omega
      · obtain rfl : k = n := by omega
        obtain ⟨S, hS⟩ : ∃ S, S = pre ns k := ⟨_, rfl⟩
        rw [← hS] at hpk ⊢
        have HS := Kp.mk hS
        clear hS
        have hpb := pick_bd a1 (S + 5) (by omega)
        go_wp2_with fail
        refine (picked_any a1 (S + 5) _ (by omega) (by omega) b1 b2).mono ?_
        rintro e w' ⟨rfl, rfl⟩
        generalize pick a1 (S + 5) = x at *
        obtain ⟨hx0, hx1⟩ := hpb
        go_wp2_with fail
        refine (ffind_any s2 c2 k x ns _ (F2.out.get 0 rfl) HN.out (by omega) 50 (by omega) (by omega) HBD.out hx0 (by omega)).mono ?_
        rintro e w' ⟨rfl, hf⟩
        rcases hf with ⟨h1, rfl⟩ | ⟨i, hik, h1, h2, rfl⟩
        · rw [← HS.out] at h1
          go_wp2
          go_ret
          exact ⟨rfl, HB2.out⟩
        · have hxS : x < S := by
            have := pre_mono ns (fun y hy => (HBD.out y hy).1) (i + 1) k (by omega) (by rw [HN.out]; exact Nat.le_refl _)
            rw [HS.out]; omega
          have q1 := Kp.mk (fsum_any s2 c2 k i ns wd (F2.out.get 0 rfl) HN.out (by omega) (by omega) 50 (by omega) (by omega) (fun y hy => by have := HBD.out y hy; omega))
          have q2 := Kp.mk (fsum_any s2 c2 k (i + 1) ns wd (F2.out.get 0 rfl) HN.out (by omega) (by omega) 50 (by omega) (by omega) (fun y hy => by have := HBD.out y hy; omega))
          have e1 : ((i + 1 : Nat) : Int) = (i : Int) + 1 := by push_cast; rfl
          rw [e1] at q2
          clear e1
          generalize pre ns i = pi at *
          generalize pre ns (i + 1) = pj at *
          go_wp2_with fail
          refine q1.out.mono ?_
          rintro e w' ⟨rfl, rfl⟩
          go_wp2_with fail
          refine q2.out.mono ?_
          rintro e w' ⟨rfl, rfl⟩
          go_wp2
          go_ret
          exact ⟨rfl, HB2.out⟩

end Go.Proofs.Ytjofajpcchncpaa
