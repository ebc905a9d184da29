/- The law's own Codable. -/
import Derived.Test.YtjofajpcchncpaaNum
namespace Go.Proofs.Ytjofajpcchncpaa
set_option linter.unusedVariables false
open Go.RowKit

def tabT (y : Int) : Int := if y = 0 then 3 else if y = 1 then 40 else if y = 2 then 1000 else 1048576
def cod (x : Int) : Int := 1 + pick x (tabT (pick (x.tdiv 5) 4))
theorem tabT_bd (y : Int) : 3 ≤ tabT y ∧ tabT y ≤ 1048576 := by unfold tabT; repeat' split <;> omega
theorem cod_bd (x : Int) : 1 ≤ cod x ∧ cod x ≤ 1048576 := by
  have h1 := tabT_bd (pick (x.tdiv 5) 4)
  have h2 := pick_bd x (tabT (pick (x.tdiv 5) 4)) (by omega)
  unfold cod; omega
def cods (l : List Int) (n : Nat) : List Int := (l.take n).map cod
theorem cods_length (l : List Int) (n : Nat) : (cods l n).length = min n l.length := by simp [cods]
theorem cods_succ (l : List Int) (k : Nat) (h : k < l.length) : cods l (k + 1) = cods l k ++ [cod l[k]] := by
  rw [cods, List.take_succ_eq_append_getElem h, List.map_append]; rfl
theorem cods_bd (l : List Int) (n : Nat) : ∀ x ∈ cods l n, 1 ≤ x ∧ x ≤ 1048576 := by
  intro x hx
  obtain ⟨y, _, rfl⟩ := List.mem_map.1 hx
  exact cod_bd y
attribute [irreducible] cod

set_option maxHeartbeats 2000000 in
theorem codable_any (a : Option Addr) (cap n : Nat) (l : List Int) (w : World) (h : SlI w a cap l) (hl : l.length ≤ 9223372036854775807) (hn : n ≤ 1000) (hw : ∀ x ∈ l, (Lit.int .i64 x).wf = true) :
    Calls Try.prog 34 #[.slice a l.length cap, .int .i64 n] w (RetI w (cods l n)) := by
  have H := Kp.mk h
  have HW := Kp.mk hw
  clear h hw
  obtain ⟨B, hB⟩ : ∃ B, B = w.heap.size := ⟨_, rfl⟩
  have HB := Kp.mk hB
  clear hB
  go_enter Try.func34, Try.ntmps34
  go_wp2
  go_loopw [5, 6] (fun v i wr => ∃ (k : Nat) (sa : Option Addr) (sc : Nat), k ≤ l.length ∧ k ≤ n ∧ i = .int .i64 k ∧ v = .slice sa k sc ∧ wr.ownsRow B 3 1 (.slice sa k sc) k (ints (cods l k)) ∧ Below B w wr) (fun _ i _ => l.length - (intOf i).toNat)
  case atStart => exact ⟨0, none, 0, Nat.zero_le _, Nat.zero_le _, rfl, rfl, World.ownsRow_nil _ _ _ _, Below.refl _ _⟩
  case round =>
    obtain ⟨k, sa, sc, hkl, hkn, rfl, rfl, hown, hbel⟩ := hrel
    have hO := Kp.mk hown
    by_cases hgo : k < l.length ∧ k < n
    · obtain ⟨hlt, hltn⟩ := hgo
      obtain ⟨b, off, rfl, cl⟩ := (H.out.below (HB.out ▸ hbel)).at k hlt
      have tb : b < B := by have := SlC.blt H.out (by rw [ints_length]; omega); rw [HB.out]; exact this
      obtain ⟨w1, w2⟩ := wf_bd (HW.out l[k] (List.getElem_mem hlt))
      have hsu := Kp.mk (cods_succ l k hlt)
      obtain ⟨x, hx⟩ : ∃ y, y = l[k] := ⟨_, rfl⟩
      rw [← hx] at cl w1 w2 hsu
      have hBw : Kp (B ≤ wr.heap.size) := ⟨by rw [HB.out]; exact hbel.size⟩
      have hbw2 : b < wr.heap.size := Nat.lt_of_lt_of_le tb hBw.out
      have hxt := tdiv_bd x 5 (by omega) w1 w2
      have hyb := pick_bd (x.tdiv 5) 4 (by omega)
      have C1 := Kp.mk (fun W => picked_any (x.tdiv 5) 4 W (by omega) (by omega) hxt.1 hxt.2)
      have htb := tabT_bd (pick (x.tdiv 5) 4)
      have C2 := Kp.mk (fun W => picked_any x (tabT (pick (x.tdiv 5) 4)) W (by omega) (by omega) w1 w2)
      have hzb := pick_bd x (tabT (pick (x.tdiv 5) 4)) (by omega)
      have hcod : Kp (cod x = 1 + pick x (tabT (pick (x.tdiv 5) 4))) := ⟨by unfold cod; rfl⟩
      generalize pick (x.tdiv 5) 4 = y at *
      generalize hT : tabT y = T at *
      generalize pick x T = z at *
      have hz2 : z < 1048576 := by omega
      have hwq : IntKind.i64.wrap (x.tdiv 5) = x.tdiv 5 := IntWalk.i64_in _ (by omega)
      have hwz : IntKind.i64.wrap (1 + z) = 1 + z := IntWalk.i64_in _ (by omega)
      clear hown hx hxt
      have hki : (k : Int) < l.length := by omega
      obtain ⟨n4, hn4⟩ : ∃ n4 : Nat, y = n4 := ⟨y.toNat, (Int.toNat_of_nonneg hyb.1).symm⟩
      subst hn4
      have hn44 : n4 < 4 := by omega
      have hrow : ([Value.int .i64 3, .int .i64 40, .int .i64 1000, .int .i64 1048576] : List Value)[n4]? = some (.int .i64 T) := by
        rw [← hT]; unfold tabT
        have : n4 = 0 ∨ n4 = 1 ∨ n4 = 2 ∨ n4 = 3 := by omega
        rcases this with rfl | rfl | rfl | rfl <;> rfl
      have hc9 : ∀ W : World, (W.alloc (.cells #[Value.int .i64 3, .int .i64 40, .int .i64 1000, .int .i64 1048576] 3)).cell? ⟨W.heap.size, n4, none⟩ = some (.int .i64 T) := fun W => by
        rw [cell_of_row _ _ _ _ _ _ (heap_alloc_new W _)]; simpa using hrow
      have hn4i : (n4 : Int) < 4 := by omega
      clear hT htb hyb hrow
      go_wp2
      refine wp_region_noPanic ?_
      refine wp_region_held_drew (S := fun w' => w'.cell? ⟨b, off + k, none⟩ = some (.int .i64 x)) (by kernel_rfl) ?_ (fun hHeld => ?_)
      · exact cl
      refine wpAnyH_take (i := 0) (v := ?_) rfl (by kernel_rfl) (by kernel_rfl) (by kernel_rfl) (fun _ _ _ h => h) (Or.inl ⟨by rfl, ?_⟩) (by assumption) ?_
      rotate_left
      · (intro w hSw; (try dsimp only at hSw); go_simp; try with_reducible rfl)
      try simp only [Act.put]
      refine wpAnyH_take (i := 1) (v := ?_) rfl (by kernel_rfl) (by kernel_rfl) (by kernel_rfl) (fun _ _ _ h => h) (Or.inl ⟨by rfl, ?_⟩) (by assumption) ?_
      rotate_left
      · (intro w hSw; (try dsimp only at hSw); go_simp; try with_reducible rfl)
      try simp only [Act.put]
      refine wpAnyH_take (i := 2) (v := ?_) rfl (by kernel_rfl) (by kernel_rfl) (by kernel_rfl) (fun _ _ _ h => h) (Or.inl ⟨by rfl, ?_⟩) (by assumption) ?_
      rotate_left
      · (intro w hSw; (try dsimp only at hSw); go_simp; try with_reducible rfl)
      try simp only [Act.put]
      refine wpAnyH_take (i := 3) (v := ?_) rfl (by kernel_rfl) (by kernel_rfl) (by kernel_rfl) (fun _ _ _ h => h) (Or.inl ⟨by rfl, ?_⟩) (by assumption) ?_
      rotate_left
      · (intro w hSw; (try dsimp only at hSw); go_simp; try with_reducible rfl)
      try simp only [Act.put]
      refine wpAnyH_take (i := 4) (v := ?_) rfl (by kernel_rfl) (by kernel_rfl) (by kernel_rfl) (fun _ _ _ h => h) (Or.inl ⟨by rfl, ?_⟩) (by assumption) ?_
      rotate_left
      · (intro w hSw; (try dsimp only at hSw); go_simp; try with_reducible rfl)
      try simp only [Act.put]
      refine wpAnyH_take (i := 6) (v := ?_) rfl (by kernel_rfl) (by kernel_rfl) (by kernel_rfl) (fun _ _ _ h => h) (Or.inl ⟨by rfl, ?_⟩) (by assumption) ?_
      rotate_left
      · (intro w hSw; (try dsimp only at hSw); go_simp; try with_reducible rfl)
      try simp only [Act.put]
      refine wpAnyH_take (i := 7) (v := ?_) rfl (by kernel_rfl) (by kernel_rfl) (by kernel_rfl) (fun _ _ _ h => h) (Or.inl ⟨by rfl, ?_⟩) (by assumption) ?_
      rotate_left
      · (intro w hSw; (try dsimp only at hSw); go_simp; try with_reducible rfl)
      try simp only [Act.put]
      refine wpAnyH_take (i := 8) (v := ?_) rfl (by kernel_rfl) (by kernel_rfl) (by kernel_rfl) (fun _ _ _ h => h) (Or.inl ⟨by rfl, ?_⟩) (by assumption) ?_
      rotate_left
      · (intro w hSw; (try dsimp only at hSw); go_simp; try with_reducible rfl)
      try simp only [Act.put]
      refine wpAnyH_take (i := 9) (v := ?_) rfl (by kernel_rfl) (by kernel_rfl) (by kernel_rfl) (fun _ _ _ h => h) (Or.inl ⟨by rfl, ?_⟩) (by assumption) ?_
      rotate_left
      · (intro w hSw; (try dsimp only at hSw); go_simp; try with_reducible rfl)
      try simp only [Act.put]
      refine wpAnyH_take (i := 10) (v := ?_) rfl (by kernel_rfl) (by kernel_rfl) (by kernel_rfl) (fun _ _ _ h => h) (Or.inl ⟨by rfl, ?_⟩) (by assumption) ?_
      rotate_left
      · (intro w hSw; (try dsimp only at hSw); go_simp; try with_reducible rfl)
      try simp only [Act.put]
      refine wpAnyH_ready (rs := [5, 11]) (by kernel_rfl) (by simp) ?_
      refine AllReadyH.cons rfl (fun K hK => ?_) (AllReadyH.cons rfl (fun K hK => ?_) AllReadyH.nil)
      · go_simp
        refine hK.out _ _ ?_ (fun hHeld => ?_)
        · go_keep
        clear hK K
        try simp only [Act.put]
        refine wpAnyH_ready (rs := [11]) (by kernel_rfl) (by simp) ?_
        refine AllReadyH.cons rfl (fun K hK => ?_) AllReadyH.nil
        go_simp
        refine (C1.out _).mono ?_
        rintro e w' ⟨rfl, rfl⟩
        refine hK.out _ _ ?_ (fun hHeld => ?_)
        · exact hHeld
        clear hK K
        try simp only [Act.put]
        refine wpAnyH_take (i := 12) (v := ?_) rfl (by kernel_rfl) (by kernel_rfl) (by kernel_rfl) (fun _ _ _ h => h) (Or.inl ⟨by rfl, ?_⟩) (by assumption) ?_
        rotate_left
        · (intro w hSw; (try dsimp only at hSw); go_simp; try with_reducible rfl)
        try simp only [Act.put]
        refine wpAnyH_ready (rs := [13]) (by kernel_rfl) (by simp) ?_
        refine AllReadyH.cons rfl (fun K hK => ?_) AllReadyH.nil
        go_simp
        refine hK.out _ _ ?_ (fun hHeld => ?_)
        · exact hHeld
        clear hK K
        try simp only [Act.put]
        refine wpAnyH_ready (rs := [14]) (by kernel_rfl) (by simp) ?_
        refine AllReadyH.cons rfl (fun K hK => ?_) AllReadyH.nil
        go_simp
        refine (C2.out _).mono ?_
        rintro e w' ⟨rfl, rfl⟩
        refine hK.out _ _ ?_ (fun hHeld => ?_)
        · exact hHeld
        clear hK K
        try simp only [Act.put]
        refine wpAnyH_take (i := 15) (v := ?_) rfl (by kernel_rfl) (by kernel_rfl) (by kernel_rfl) (fun _ _ _ h => h) (Or.inl ⟨by rfl, ?_⟩) (by assumption) ?_
        rotate_left
        · (intro w hSw; (try dsimp only at hSw); go_simp; try with_reducible rfl)
        try simp only [Act.put]
        refine wpAnyH_ready (rs := [16]) (by kernel_rfl) (by simp) ?_
        refine AllReadyH.cons rfl (fun K hK => ?_) AllReadyH.nil
        go_simp
        refine hK.out _ _ ?_ (fun hHeld => ?_)
        · go_keep
        clear hK K
        try simp only [Act.put]
        refine wpAnyH_ready (rs := [17]) (by kernel_rfl) (by simp) ?_
        refine AllReadyH.cons rfl (fun K hK => ?_) AllReadyH.nil
        refine step_push tInts (by rfl) _ _ (by rfl) B sa k sc _ (by rfl) (((hO.out.alloc _).alloc _).drew) 1 (wr.heap.size + 1) _ (heap_alloc2_new wr _ _) (by rfl) (by rfl) (by simp [Value.oneCell']) (by omega) (by omega) (by omega) (by have := hBw.out; simp; omega) ?_
        intro sa' cap' w' hown' hgr hno
        refine hK.out _ _ ?_ (fun hHeld => ?_)
        · exact ((pushed_below2 hO.out hBw.out hgr).cell (p := ⟨b, off + k, none⟩) tb).trans cl
        clear hK K
        try simp only [Act.put]
        refine wpAnyH_take (i := 18) (v := ?_) rfl (by kernel_rfl) (by kernel_rfl) (by kernel_rfl) (fun _ _ _ h => h) (Or.inl ⟨by rfl, ?_⟩) (by assumption) ?_
        rotate_left
        · (intro w hSw; (try dsimp only at hSw); go_simp; try with_reducible rfl)
        try simp only [Act.put]
        refine wpAnyH_done (by kernel_rfl) ?_ _
        refine NoPanic.normal ?_
        have HO3 := Kp.mk hown'
        have HB3 := Kp.mk (hbel.trans (pushed_below2 hO.out hBw.out hgr))
        clear hown' hgr hno hHeld hc9 hwq hwz C1 C2 cl
        go_wp2
        go_roundw
        case rel =>
          refine ⟨k + 1, sa', cap', by omega, by omega, by go_num, rfl, ?_, HB3.out⟩
          rw [hsu.out, ints_append, hcod.out]; exact HO3.out
        case measure => simp [intOf]; omega
      · go_simp
        refine (C1.out _).mono ?_
        rintro e w' ⟨rfl, rfl⟩
        refine hK.out _ _ ?_ (fun hHeld => ?_)
        · exact hHeld
        clear hK K
        try simp only [Act.put]
        refine wpAnyH_ready (rs := [5]) (by kernel_rfl) (by simp) ?_
        refine AllReadyH.cons rfl (fun K hK => ?_) AllReadyH.nil
        go_simp
        refine hK.out _ _ ?_ (fun hHeld => ?_)
        · go_keep
        clear hK K
        try simp only [Act.put]
        refine wpAnyH_take (i := 12) (v := ?_) rfl (by kernel_rfl) (by kernel_rfl) (by kernel_rfl) (fun _ _ _ h => h) (Or.inl ⟨by rfl, ?_⟩) (by assumption) ?_
        rotate_left
        · (intro w hSw; (try dsimp only at hSw); go_simp; try with_reducible rfl)
        try simp only [Act.put]
        refine wpAnyH_ready (rs := [13]) (by kernel_rfl) (by simp) ?_
        refine AllReadyH.cons rfl (fun K hK => ?_) AllReadyH.nil
        go_simp
        refine hK.out _ _ ?_ (fun hHeld => ?_)
        · exact hHeld
        clear hK K
        try simp only [Act.put]
        refine wpAnyH_ready (rs := [14]) (by kernel_rfl) (by simp) ?_
        refine AllReadyH.cons rfl (fun K hK => ?_) AllReadyH.nil
        go_simp
        refine (C2.out _).mono ?_
        rintro e w' ⟨rfl, rfl⟩
        refine hK.out _ _ ?_ (fun hHeld => ?_)
        · exact hHeld
        clear hK K
        try simp only [Act.put]
        refine wpAnyH_take (i := 15) (v := ?_) rfl (by kernel_rfl) (by kernel_rfl) (by kernel_rfl) (fun _ _ _ h => h) (Or.inl ⟨by rfl, ?_⟩) (by assumption) ?_
        rotate_left
        · (intro w hSw; (try dsimp only at hSw); go_simp; try with_reducible rfl)
        try simp only [Act.put]
        refine wpAnyH_ready (rs := [16]) (by kernel_rfl) (by simp) ?_
        refine AllReadyH.cons rfl (fun K hK => ?_) AllReadyH.nil
        go_simp
        refine hK.out _ _ ?_ (fun hHeld => ?_)
        · go_keep
        clear hK K
        try simp only [Act.put]
        refine wpAnyH_ready (rs := [17]) (by kernel_rfl) (by simp) ?_
        refine AllReadyH.cons rfl (fun K hK => ?_) AllReadyH.nil
        refine step_push tInts (by rfl) _ _ (by rfl) B sa k sc _ (by rfl) (((hO.out.alloc _).alloc _).drew) 1 (wr.heap.size + 1) _ (heap_alloc2_new wr _ _) (by rfl) (by rfl) (by simp [Value.oneCell']) (by omega) (by omega) (by omega) (by have := hBw.out; simp; omega) ?_
        intro sa' cap' w' hown' hgr hno
        refine hK.out _ _ ?_ (fun hHeld => ?_)
        · exact ((pushed_below2 hO.out hBw.out hgr).cell (p := ⟨b, off + k, none⟩) tb).trans cl
        clear hK K
        try simp only [Act.put]
        refine wpAnyH_take (i := 18) (v := ?_) rfl (by kernel_rfl) (by kernel_rfl) (by kernel_rfl) (fun _ _ _ h => h) (Or.inl ⟨by rfl, ?_⟩) (by assumption) ?_
        rotate_left
        · (intro w hSw; (try dsimp only at hSw); go_simp; try with_reducible rfl)
        try simp only [Act.put]
        refine wpAnyH_done (by kernel_rfl) ?_ _
        refine NoPanic.normal ?_
        have HO3 := Kp.mk hown'
        have HB3 := Kp.mk (hbel.trans (pushed_below2 hO.out hBw.out hgr))
        clear hown' hgr hno hHeld hc9 hwq hwz C1 C2 cl
        go_wp2
        go_roundw
        case rel =>
          refine ⟨k + 1, sa', cap', by omega, by omega, by go_num, rfl, ?_, HB3.out⟩
          rw [hsu.out, ints_append, hcod.out]; exact HO3.out
        case measure => simp [intOf]; omega
    · have hstop : (¬ k < l.length) ∨ (k < l.length ∧ ¬ k < n) := by omega
      have e1 : cods l k = cods l n := by
        unfold cods
        rcases hstop with h | h
        · rw [List.take_of_length_le (by omega), List.take_of_length_le (by omega)]
        · rw [show k = n by omega]
      have hlen : Kp (k = (cods l n).length) := ⟨by rw [cods_length]; omega⟩
      rw [e1] at hO
      clear e1 hown
      rcases hstop with hs | ⟨hs, hs2⟩
      all_goals
        go_wp2
        go_ret
        refine ⟨sa, sc, by rw [← hlen.out]; rfl, ?_, HB.out ▸ hbel⟩
        unfold OwnI
        rw [← hlen.out, ← HB.out]
        exact hO.out

end Go.Proofs.Ytjofajpcchncpaa
