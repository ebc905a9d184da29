/- ImageFixed: the walk. -/
import Derived.Test.YtmfmknpkeniifaaImgF
import Derived.Test.YtmfmknpkeniifaaImgI
namespace Go.Proofs.Ytmfmknpkeniifaa
set_option linter.unusedVariables false
open Go.RowKit

theorem near_of_ptsX {xs : List Nat} {c : Nat} (h : xs.length = 3 * c) : (ptsX xs).length = c := (ptsX_cells c xs h).2
theorem sumB_lt4 (t : List Nat) (ht : ∀ x ∈ t, x < 256) (h : t.length = 4) : be4 (sumB t) = t := by
  match t, h with
  | [a, b, c, d], _ =>
    have h1 := ht a (by simp)
    have h2 := ht b (by simp)
    have h3 := ht c (by simp)
    have h4 := ht d (by simp)
    unfold be4
    simp [sumB]
    omega
/-- What is loaded is saved as the same bytes. -/
theorem save_of_load {B : Nat} {w' : World} {l : List Nat} {m : Nat} {ra : Option Addr} {c rc : Nat} (hb : ∀ x ∈ l, x < 256) (hl : l.length = m + 4) (h : LoadSays B w' l m ra c rc 0) : ∃ L, c ≤ 150 ∧ L.length = c ∧ (∀ p ∈ L, p.Near) ∧ w'.ownsRow B 26 3 (.slice ra c rc) c (flat ptL L) ∧ saveL L = l := by
  unfold LoadSays at h
  rcases h with ⟨_, h, _⟩ | ⟨_, h, _⟩ | ⟨_, h2, h3, xs, h4, h5, h6, h7⟩
  · cases h
  · cases h
  · refine ⟨ptsX xs, h2, near_of_ptsX h5, h6, h7, ?_⟩
    obtain ⟨e1, _, _⟩ := parseL_inv (fun x hx => hb x (List.mem_of_mem_take hx)) h4
    rw [List.append_nil] at e1
    unfold saveL
    rw [nums_ptsX c xs h5, ← e1, h3, sumB_lt4 _ (fun x hx => hb x (List.mem_of_mem_drop hx)) (by rw [List.length_drop]; omega), List.take_append_drop]
theorem load_codes {B : Nat} {w' : World} {l : List Nat} {m : Nat} {ra : Option Addr} {c rc : Nat} {code : Int} (h : LoadSays B w' l m ra c rc code) : (c = 0 ∧ (code = 6 ∨ code = 4)) ∨ code = 0 := by
  unfold LoadSays at h
  rcases h with ⟨h1, h, _⟩ | ⟨h1, h, _⟩ | ⟨h, _⟩
  · exact .inl ⟨h1, .inl h⟩
  · exact .inl ⟨h1, .inr h⟩
  · exact .inr h
theorem save_nil_len : (saveL []).length = 9 := by
  rw [saveL_len]
  have : encI (numsP []) = [68, 65, 77, 49, 0] := by unfold encI headL; simp [numsP, encN, putL_small]
  rw [this]; rfl

set_option maxRecDepth 100000 in
set_option maxHeartbeats 16000000 in
theorem walk_ImageFixed (a0 : Option Addr) (len0 cap0 : Nat) (z0 : List Int) (w : World) (w0 : IsRow .u8 w a0 len0 cap0 z0) (hlen : len0 ≤ 140737488351232) :
    Calls Try.prog 4 #[.slice a0 len0 cap0] w fun e w' => e = .returned (.bool true) ∧ Below w.heap.size w w' := by
  obtain ⟨l, rfl, hs, hb, hlm⟩ := row_slb w0
  obtain ⟨n, hn⟩ : ∃ n, n = l.length := ⟨_, rfl⟩
  rw [← hn] at hs hlm hlen ⊢
  have HS := Kp.mk hs
  have HBB := Kp.mk hb
  have HL := Kp.mk hn.symm
  clear w0 hs hb hn
  go_enter Try.func4, Try.ntmps4
  go_wp2_with (at_builtin; refine wpList_cat tBytes rfl _ _ rfl w.heap.size none 0 0 [] rfl (World.ownsRow_nil _ _ _ _) _ _ _ _ rfl HS.out (byts_one _) ?c1 (by decide) (Nat.le_refl _) ?c2)
  case c1 => omega
  case c2 =>
    intro qa qc w1 hown1 hbel1
    have HQ := Kp.mk (show SlB w1 qa n qc l from own_slb (by simpa using hown1))
    have HB1 := Kp.mk hbel1
    have CL := Kp.mk (show Calls Try.prog 17 #[.slice qa n qc] w1 (fun e w' => ∃ (ta : Option Addr) (c tc : Nat) (code : Int), e = .returned (.tuple #[.slice ta c tc, .int .i64 code]) ∧ ((c = 0 ∧ (code = 5 ∨ code = 6 ∨ code = 4)) ∨ (code = 0 ∧ Kp (∃ L : List Pt, c ≤ 150 ∧ L.length = c ∧ (∀ p ∈ L, p.Near) ∧ SlF ptL 3 w' ta c tc L ∧ saveL L = l))) ∧ Kp (Below w1.heap.size w1 w')) from by
      by_cases h9 : n < 9
      · refine (loadShort_any qa n qc w1 h9).mono ?_
        rintro e w' ⟨rfl, rfl⟩
        exact ⟨none, 0, 0, 5, rfl, .inl ⟨rfl, .inl rfl⟩, ⟨Below.refl _ _⟩⟩
      · obtain ⟨m, hm⟩ : ∃ m, n = m + 4 := ⟨n - 4, by omega⟩
        have hq := HQ.out
        rw [hm] at hq ⊢
        refine (load_any qa m qc l w1 hq HBB.out (by omega) (by omega)).mono ?_
        rintro e w' ⟨ta, c, tc, code, rfl, HLS, HB⟩
        refine ⟨ta, c, tc, code, rfl, ?_, HB⟩
        rcases load_codes HLS.out with ⟨h1, h2⟩ | rfl
        · exact .inl ⟨h1, .inr h2⟩
        · obtain ⟨L, h1, h2, h3, h4, h5⟩ := save_of_load HBB.out (by rw [HL.out, hm]) HLS.out
          exact .inr ⟨rfl, ⟨L, h1, h2, h3, own_slc h4, h5⟩⟩)
    clear hown1 hbel1
    go_wp2_with fail
    refine CL.out.mono ?_
    rintro e w2 ⟨ta, c, tc, code, rfl, hor, HB2⟩
    have HB2' := Kp.mk (below_step HB1.out HB2.out)
    clear CL HQ HB1 HB2
    have HOR := Kp.mk hor
    clear hor
    have hs0 : SlF ptL 3 w2 none 0 0 [] := ⟨rfl, Nat.le_refl _, Nat.zero_le _, fun _ => rfl, fun i hi => by simp [flat] at hi⟩
    have CS := Kp.mk (save_any none 0 0 [] w2 hs0 (by omega) rfl (by simp))
    clear hs0
    go_wp2_with fail
    refine CS.out.mono ?_
    rintro e w3 ⟨ea, r, ec, rfl, hr, HEO, HB3⟩
    have HE := Kp.mk (own_slb HEO.out)
    obtain rfl : r = 9 := by rw [← HE.out.len, save_nil_len]
    have HB3' := Kp.mk (below_step HB2'.out HB3.out)
    have CL2 := Kp.mk (load_any ea 5 ec (saveL []) w3 HE.out (saveL_lt []) (by omega) (by omega))
    clear CS hr HEO
    go_wp2_with fail
    refine CL2.out.mono ?_
    rintro e w4 ⟨fa, c4, fc, code4, rfl, HLS, HB4⟩
    have hls := HLS.out
    have hm5 : (encI (numsP [])).length = 5 := by have := saveL_len []; rw [save_nil_len] at this; omega
    rw [← hm5] at hls
    obtain ⟨rfl, rfl, _⟩ := load_back (L := []) (n := 0) (by simp) rfl (by omega) hls
    have HB4' := Kp.mk (below_step HB3'.out HB4.out)
    clear CL2 HLS hls hm5
    rcases HOR.out with ⟨rfl, hc⟩ | ⟨rfl, HLO⟩
    · clear HOR
      rcases hc with rfl | rfl | rfl
      all_goals
        go_wp2
        go_ret
        exact ⟨rfl, HB4'.out⟩
    · obtain ⟨L, h1, h2, h3, h4, h5⟩ := HLO.out
      have CS2 := Kp.mk (save_any ta c tc L w4 (SlF.below (SlF.below h4 HB3.out) HB4.out) h1 h2 h3)
      have HS4 := Kp.mk (SlB.below HS.out HB4'.out)
      rw [h5] at CS2
      clear HOR HLO h1 h2 h3 h4 h5
      go_wp2_with fail
      refine CS2.out.mono ?_
      rintro e w5 ⟨ga, r, gc, rfl, hr, HGO, HB5⟩
      have HG := Kp.mk (own_slb HGO.out)
      obtain rfl : r = n := by rw [← HG.out.len]; exact HL.out
      have CB := Kp.mk (sameByt_any a0 ga r cap0 gc l w5 (SlB.below HS4.out HB5.out) HG.out (by omega))
      have HB5' := Kp.mk (below_step HB4'.out HB5.out)
      clear CS2 HGO
      go_wp2_with fail
      refine CB.out.mono ?_
      rintro e w6 ⟨rfl, hb6⟩
      have HB6 := Kp.mk (below_step HB5'.out hb6)
      clear CB hb6
      go_wp2
      go_ret
      exact ⟨rfl, HB6.out⟩

end Go.Proofs.Ytmfmknpkeniifaa
