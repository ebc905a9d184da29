/- Package pers: count, Shared: the walks. -/
import Derived.Test.YtdjcmemdlmfgpaaPMap
import Derived.Test.YtdjcmemdlmfgpaaPersD
namespace Go.Proofs.Ytdjcmemdlmfgpaa
set_option linter.unusedVariables false
open Go.RowKit

abbrev nm (N : List Nat) (S : List Nat) : List Nat := S.map fun i => N.getD i 0
theorem nodup_at {N : List Nat} (h : N.Nodup) {i j : Nat} (hi : i < N.length) (hj : j < N.length) (e : N[i] = N[j]) : i = j := by
  have hp := List.pairwise_iff_getElem.1 h
  rcases Nat.lt_trichotomy i j with h1 | h1 | h1
  · exact absurd e (hp i j hi hj h1)
  · exact h1
  · exact absurd e.symm (hp j i hj hi h1)
theorem nm_snoc {N S : List Nat} {i b : Nat} (hb : N[i]? = some b) : nm N (S ++ [i]) = nm N S ++ [b] := by
  obtain ⟨hi, rfl⟩ := List.getElem?_eq_some_iff.1 hb
  rw [nm, List.map_append]
  simp [hi]
theorem nm_in {N S : List Nat} (hN : N.Nodup) (hS : ∀ i ∈ S, i < N.length) {i b : Nat} (hb : N[i]? = some b) : b ∈ nm N S ↔ i ∈ S := by
  obtain ⟨hi, rfl⟩ := List.getElem?_eq_some_iff.1 hb
  constructor
  · intro h
    obtain ⟨j, hj, e⟩ := List.mem_map.1 h
    rw [getD_at N 0 (hS j hj)] at e
    have := nodup_at hN (hS j hj) hi e
    exact this ▸ hj
  · intro h
    exact List.mem_map.2 ⟨i, h, getD_at N 0 hi⟩
theorem PMap.below {w w' : World} {mb : Nat} {K : List Nat} (h : PMap w mb K) (hb : Below w.heap.size w w') : PMap w' mb K := by
  obtain ⟨es, clock, h1, h2, h3⟩ := h.at_
  refine ⟨⟨es, clock, by rw [hb.block mb (Array.getElem?_eq_some_iff.1 h1).1]; exact h1, h2, h3⟩, fun b hk => ?_⟩
  obtain ⟨cs, t, hc⟩ := h.cells b hk
  exact ⟨cs, t, by rw [hb.block b (Array.getElem?_eq_some_iff.1 hc).1]; exact hc⟩
theorem cntT_lt {m : Nat} : ∀ (T : PT) (S : List Nat), (∀ i ∈ T.ids, i < m) → (∀ i ∈ S, i < m) → ∀ i ∈ cntT T S, i < m
  | .leaf j v, S, hT, hS, i, hi => by
    unfold cntT at hi
    split at hi
    · exact hS i hi
    · rcases List.mem_append.1 hi with hi | hi
      · exact hS i hi
      · rw [List.mem_singleton.1 hi]; exact hT j (by simp [PT.ids])
  | .node j l r, S, hT, hS, i, hi => by
    unfold cntT at hi
    split at hi
    · exact hS i hi
    · refine cntT_lt r _ (fun x hx => hT x (by simp [PT.ids, hx])) (cntT_lt l _ (fun x hx => hT x (by simp [PT.ids, hx])) (fun x hx => ?_)) i hi
      rcases List.mem_append.1 hx with hx | hx
      · exact hS x hx
      · rw [List.mem_singleton.1 hx]; exact hT j (by simp [PT.ids])
theorem pmem_ids {w : World} {N : List Nat} : ∀ (T : PT), PMem w N T → ∀ i ∈ T.ids, i < N.length
  | .leaf j v, h, i, hi => by
    obtain ⟨b, h1, _⟩ := h
    have : i = j := by simpa [PT.ids] using hi
    rw [this]; exact (List.getElem?_eq_some_iff.1 h1).1
  | .node j l r, h, i, hi => by
    obtain ⟨b, p, x, y, h1, _, _, _, _, h6, h7⟩ := h
    simp only [PT.ids, List.mem_cons, List.mem_append] at hi
    rcases hi with rfl | hi | hi
    · exact (List.getElem?_eq_some_iff.1 h1).1
    · exact pmem_ids l h6 i hi
    · exact pmem_ids r h7 i hi

set_option maxRecDepth 100000 in
set_option maxHeartbeats 2000000 in
theorem count_any (N : List Nat) (hN : N.Nodup) (mb : Nat) (w0 : World) (hmb : w0.heap.size ≤ mb) (T : PT) : ∀ (b : Nat) (S : List Nat) (w : World), PMem w0 N T → N[T.id]? = some b → T.wide ≤ 1000 → (∀ i ∈ S, i < N.length) → PMap w mb (nm N S) → Below w0.heap.size w0 w →
    Calls Try.prog 11 #[.pointer (some ⟨b, 0, none⟩), .map (some mb)] w fun e w' => e = .returned (.tuple #[]) ∧ Kp (PMap w' mb (nm N (cntT T S))) ∧ Kp (Below w0.heap.size w0 w') := by
  induction T with
  | leaf i v =>
    intro b S w hm hb hw hS hP hB
    obtain ⟨b', h1, h2⟩ := hm
    obtain rfl : b' = b := by
      have hb' : N[i]? = some b := hb
      rw [hb'] at h1; simpa using h1.symm
    have hb : N[i]? = some b' := hb
    have hbx := h2.below hB
    have hin := nm_in hN hS hb
    have hlk := run_look hP ⟨_, _, hbx⟩
    have HAL := Kp.mk (below_alloc (Nat.le_refl w.heap.size) (.cells #[] 48))
    have HB := Kp.mk hB
    have HP := Kp.mk hP
    have HX := Kp.mk hbx
    by_cases his : i ∈ S
    · have HE := Kp.mk (show cntT (.leaf i v) S = S by unfold cntT; rw [if_pos his])
      rw [HE.out]
      rw [decide_eq_true (hin.2 his)] at hlk
      unfold pkey at hlk
      clear hS hP hB hbx hin h2 hb h1 hN hmb
      go_enter Try.func11, Try.ntmps11
      go_wp2
      refine bodyPost_ret (results_none rfl _ _ _) rfl ?_
      exact ⟨rfl, ⟨HP.out.below HAL.out⟩, ⟨below_step HB.out HAL.out⟩⟩
    · have HE := Kp.mk (show cntT (.leaf i v) S = S ++ [i] by unfold cntT; rw [if_neg his])
      rw [HE.out, nm_snoc hb]
      rw [decide_eq_false (fun h => his (hin.1 h))] at hlk
      have hP1 := hP.below HAL.out
      have hx1 := hbx.below HAL.out
      obtain ⟨w2, hrun, hP2, hg2⟩ := run_put hP1 ⟨_, _, hx1⟩ (fun h => his (hin.1 h))
      have hB2 := (below_step hB HAL.out).trans (below_of_grown hg2 (Nat.le_trans hB.size HAL.out.size) (fun q hq => by cases hq; exact hmb))
      have hx2 := h2.below hB2
      have c1 : w2.cell? ⟨b', 1, none⟩ = some (.int .i64 1) := hx2.cell 1 rfl
      have HP2 := Kp.mk hP2
      have HB2 := Kp.mk hB2
      unfold pkey at hlk hrun
      clear hS hP hB hbx hin h2 hb h1 hN hmb hP1 hx1 hP2 hg2 hB2 hx2 his HE HX HP
      go_enter Try.func11, Try.ntmps11
      go_wp2
      go_end0
      exact ⟨rfl, HP2, HB2⟩
  | node i l r hl hr =>
    intro b S w hm hb hw hS hP hB
    have HM := Kp.mk hm
    obtain ⟨b', p, x, y, h1, hlx, hry, h4, h5, h6, h7⟩ := hm
    obtain rfl : b' = b := by
      have hb' : N[i]? = some b := hb
      rw [hb'] at h1; simpa using h1.symm
    have hb : N[i]? = some b' := hb
    have hbx := h4.below hB
    have hin := nm_in hN hS hb
    have hlk := run_look hP ⟨_, _, hbx⟩
    have HAL := Kp.mk (below_alloc (Nat.le_refl w.heap.size) (.cells #[] 48))
    have HB := Kp.mk hB
    have HP := Kp.mk hP
    by_cases his : i ∈ S
    · have HE := Kp.mk (show cntT (.node i l r) S = S by unfold cntT; rw [if_pos his])
      rw [HE.out]
      rw [decide_eq_true (hin.2 his)] at hlk
      unfold pkey at hlk
      clear hS hP hB hbx hin h4 h5 h6 h7 hlx hry hb h1 hN hmb hl hr HM
      go_enter Try.func11, Try.ntmps11
      go_wp2
      refine bodyPost_ret (results_none rfl _ _ _) rfl ?_
      exact ⟨rfl, ⟨HP.out.below HAL.out⟩, ⟨below_step HB.out HAL.out⟩⟩
    · have HE := Kp.mk (show cntT (.node i l r) S = cntT r (cntT l (S ++ [i])) by rw [cntT, if_neg his])
      rw [HE.out]
      rw [decide_eq_false (fun h => his (hin.1 h))] at hlk
      have hP1 := hP.below HAL.out
      have hx1 := hbx.below HAL.out
      obtain ⟨w2, hrun, hP2, hg2⟩ := run_put hP1 ⟨_, _, hx1⟩ (fun h => his (hin.1 h))
      rw [← nm_snoc hb] at hP2
      have hB2 := (below_step hB HAL.out).trans (below_of_grown hg2 (Nat.le_trans hB.size HAL.out.size) (fun q hq => by cases hq; exact hmb))
      have hi : i < N.length := (List.getElem?_eq_some_iff.1 hb).1
      have hS2 : ∀ j ∈ S ++ [i], j < N.length := fun j hj => by
        rcases List.mem_append.1 hj with hj | hj
        · exact hS j hj
        · rw [List.mem_singleton.1 hj]; exact hi
      have hlp := l.wide_pos
      have hrp := r.wide_pos
      rw [PT.wide_node] at hw
      have C1 := Kp.mk (hl x (S ++ [i]) w2 h6 hlx (by omega) hS2 hP2 hB2)
      have HS3 := Kp.mk (cntT_lt l _ (pmem_ids l h6) hS2)
      have C2 := Kp.mk (fun W hPW hBW => hr y (cntT l (S ++ [i])) W h7 hry (by omega) HS3.out hPW hBW)
      have HN4 := Kp.mk h4
      have HN5 := Kp.mk h5
      have d1 : w2.cell? ⟨b', 1, none⟩ = some (.int .i64 ((l.wide + r.wide : Nat) : Int)) := (h4.below hB2).cell 1 rfl
      have d2 : w2.cell? ⟨b', 2, none⟩ = some (.pointer (some ⟨p, 0, none⟩)) := (h4.below hB2).cell 2 rfl
      have d3 : w2.cell? ⟨p, 0, none⟩ = some (.pointer (some ⟨x, 0, none⟩)) := (h5.below hB2).cell 0 rfl
      have t1 : decide (((l.wide + r.wide : Nat) : Int) > 1) = true := decide_eq_true (by omega)
      unfold pkey at hlk hrun
      clear hS hP hB hbx hin h4 h5 h6 h7 hlx hry hb h1 hN hmb hl hr HM hP1 hx1 hP2 hg2 hB2 his HE HP hS2
      generalize ((l.wide + r.wide : Nat) : Int) = wd at *
      go_enter Try.func11, Try.ntmps11
      go_wp2_with fail
      refine C1.out.mono ?_
      rintro e w3 ⟨rfl, HP3, HB3⟩
      have e2 : w3.cell? ⟨b', 2, none⟩ = some (.pointer (some ⟨p, 0, none⟩)) := (HN4.out.below HB3.out).cell 2 rfl
      have e3 : w3.cell? ⟨p, 1, none⟩ = some (.pointer (some ⟨y, 0, none⟩)) := (HN5.out.below HB3.out).cell 1 rfl
      clear d1 d2 d3 C1
      have C3 := Kp.mk (C2.out w3 HP3.out HB3.out)
      clear C2
      go_wp2_with fail
      refine C3.out.mono ?_
      rintro e w4 ⟨rfl, HP4, HB4⟩
      go_wp2
      go_end0
      exact ⟨rfl, HP4, HB4⟩

theorem run_len {w : World} {mb : Nat} {K : List Nat} (h : PMap w mb K) (ty : TypeId) : (Builtin.len_ #[41] ty #[.map (some mb)]).run Try.prog w = .ok (.int .i64 (K.length : Int)) w := by
  obtain ⟨es, clock, hb, h1, h2⟩ := h.at_
  have h3 : es.size = K.length := by
    have := congrArg List.length h1
    simpa using this
  simp [Builtin.len_, run_underlying Try.underlying41, MapKept.run_getObj_map hb, Result.andThen, h3, goInt]

theorem run_mk (w : World) : (Instr.makeMap 41 none).run Try.prog w = .ok (.map (some w.heap.size)) (w.alloc (.map #[] 0)) := by
  simp [Instr.makeMap, Result.andThen]
theorem pmap_new (w : World) : PMap (w.alloc (.map #[] 0)) w.heap.size [] := ⟨⟨#[], 0, heap_alloc_new w _, rfl, fun e he => by simp at he⟩, fun b hb => by simp at hb⟩
theorem cntL_lt {m : Nat} : ∀ (L : List PT) (S : List Nat), (∀ T ∈ L, ∀ i ∈ T.ids, i < m) → (∀ i ∈ S, i < m) → ∀ i ∈ cntL L S, i < m
  | [], S, _, hS => hS
  | T :: L, S, hL, hS => cntL_lt L (cntT T S) (fun U hU => hL U (by simp [hU])) (cntT_lt T S (hL T (by simp)) hS)

set_option maxRecDepth 100000 in
set_option maxHeartbeats 2000000 in
theorem shared_any (a ca : Option Addr) (cap cc n m : Nat) (l : List Int) (cs : List Chg) (w : World) (h : SlC w a n cap 1 (ints l)) (hl : l.length = n) (hcs : SlF chL 5 w ca m cc cs) (hn0 : 0 < n) (hn : n ≤ 300) (hm : m ≤ 60) (hok : ∀ j (h : j < cs.length), cs[j].Ok j n) :
    Calls Try.prog 6 #[.slice a n cap, .slice ca m cc] w fun e w' => e = .returned (.tuple #[.int .i64 ((verT l cs m).2 : Int), .int .i64 0]) ∧ Kp (Below w.heap.size w w') := by
  have hcl : cs.length = m := hcs.len chL_len (by omega)
  have CP := Kp.mk (pplay_any a ca cap cc n m l cs w h hl hcs hn0 hn hm hok)
  have HVO := Kp.mk (verT_ok hl hn0 m (by omega) hok)
  have HVL := Kp.mk (verT_length l cs m)
  have HCA := Kp.mk (cnt_all hl hn0 hok m (by omega))
  clear h hl hcs hcl hok
  obtain ⟨V, hV⟩ : ∃ V, verT l cs m = V := ⟨_, rfl⟩
  rw [hV] at CP HVO HVL HCA ⊢
  clear hV
  go_enter Try.func6, Try.ntmps6
  go_wp2_with fail
  refine CP.out.mono ?_
  rintro e w1 ⟨xa, xc, aa, ac, b7, N, bs, rfl, HBS, HPL⟩
  obtain ⟨g, rfl, _, _⟩ := own_some HPL.out.row (by omega)
  have hmk := run_mk w1
  have HAL := Kp.mk (below_alloc (Nat.le_refl w1.heap.size) (.map #[] 0))
  have HP0 := Kp.mk (pmap_new w1)
  have HSZ := Kp.mk (rfl : w1.heap.size = w1.heap.size)
  obtain ⟨mb, hmb⟩ : ∃ mb, w1.heap.size = mb := ⟨_, rfl⟩
  have HMB := Kp.mk hmb
  rw [hmb] at hmk HP0
  obtain ⟨w2, hw2⟩ : ∃ w2, w1.alloc (.map #[] 0) = w2 := ⟨_, rfl⟩
  rw [hw2] at hmk HAL HP0
  clear hmb hw2 CP
  go_wp2
  go_loopw [22] (fun i wr => ∃ k : Nat, k ≤ m + 1 ∧ i = .int .i64 k ∧ Kp (PMap wr mb (nm N (cntL (V.1.take k) []))) ∧ Kp (Below w1.heap.size w1 wr)) (fun i _ => m + 1 - (intOf i).toNat)
  case atStart => exact ⟨0, by omega, rfl, HP0, HAL⟩
  case round =>
    clear hmk
    obtain ⟨k, hk, rfl, HP, HB⟩ := hrel
    by_cases hlt : k < m + 1
    · obtain ⟨b, hbs, hNb, hPM⟩ := HPL.out.ver k hlt
      have hT : V.1.getD k pt0 ∈ V.1 := by rw [getD_at _ _ (by rw [HVL.out]; exact hlt)]; exact List.getElem_mem _
      have C := Kp.mk (count_any N HPL.out.nods.nd mb w1 (by rw [HMB.out]; exact Nat.le_refl _) (V.1.getD k pt0) b (cntL (V.1.take k) []) wr hPM hNb (by rw [(HVO.out.2 _ hT).2]; omega)
        (cntL_lt _ _ (fun T hT i hi => by
          obtain ⟨j, hj, e⟩ := List.getElem_of_mem (List.mem_of_mem_take hT)
          obtain ⟨_, _, _, hpm⟩ := HPL.out.ver j (by rw [HVL.out] at hj; exact hj)
          rw [getD_at _ _ hj, e] at hpm
          exact pmem_ids T hpm i hi) (fun i hi => by simp at hi)) HP.out HB.out)
      have HTK := Kp.mk (show cntT (V.1.getD k pt0) (cntL (V.1.take k) []) = cntL (V.1.take (k + 1)) [] from by
        rw [List.take_succ_eq_append_getElem (by rw [HVL.out]; exact hlt), cntL_append, getD_at _ _ (by rw [HVL.out]; exact hlt)]; rfl)
      rw [HTK.out] at C
      have c1 : wr.cell? ⟨g, k, none⟩ = some (.pointer (some ⟨b, 0, none⟩)) := by
        have h1 := HPL.out.row.cellAt k (by rw [Nat.mul_one]; exact hlt)
        rw [HB.out.cell (p := ⟨g, k, none⟩) (World.block_lt_of_cell? w1 _ (h1.trans (by
          unfold ptrs; rw [List.getElem?_map, hbs]; rfl))), h1]
        unfold ptrs; rw [List.getElem?_map, hbs]; rfl
      clear hbs hNb hPM hT
      go_wp2_with fail
      refine C.out.mono ?_
      rintro e w3 ⟨rfl, HP3, HB3⟩
      go_wp2
      go_roundw
      case rel => exact ⟨k + 1, by omega, by go_num, HP3, HB3⟩
      case measure => simp [intOf]; omega
    · obtain rfl : k = m + 1 := by omega
      have hln := run_len HP.out
      have HE := Kp.mk (show (nm N (cntL (V.1.take (m + 1)) [])).length = V.2 from by rw [nm, List.length_map, List.take_of_length_le (by rw [HVL.out]; exact Nat.le_refl _), HCA.out])
      rw [HE.out] at hln
      have HBW := Kp.mk (HPL.out.bel.trans (HB.out.mono HPL.out.bel.size))
      clear HP HB
      go_wp2
      exact bodyPost_ret (v := .tuple #[.int .i64 (V.2 : Int), .int .i64 0]) (by simp [results, Try.results6, go_sem]) rfl ⟨rfl, HBW⟩

end Go.Proofs.Ytdjcmemdlmfgpaa
