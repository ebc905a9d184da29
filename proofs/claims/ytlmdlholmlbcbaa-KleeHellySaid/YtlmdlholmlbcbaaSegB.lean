/- Package seg: apply on every tree. -/
import Derived.Test.YtlmdlholmlbcbaaSegA
namespace Go.Proofs.Ytlmdlholmlbcbaa
set_option linter.unusedVariables false
open Go.RowKit

theorem AppPost.out {o : SOp} {M K lo hi : Nat} {T : SgT} {D : List Int} {w : World} (h : o.hi < lo ∨ hi < o.lo) (hM : InMem w T) (hR : Rep 0 M T D) (hl : lo + D.length = hi + 1) :
    Calls Try.prog 160 #[.pointer T.ptr, opV o, .int .i64 lo, .int .i64 hi] w (AppPost (M + K) T (upd o lo D) (sub o lo (upd o lo D)) w) := by
  refine (apply_out o T.ptr lo hi w h).mono fun e w' ⟨he, hw⟩ => ?_
  obtain ⟨h1, h2⟩ := upd_out o D lo (by omega)
  rw [h1, h2]
  have ht : Turned ([] : List Nat) w w' := by rw [hw]; exact (Turned.refl _ _).alloc _
  exact ⟨T, rfl, rfl, hM.keep ht (by simp), hR.mono (by omega), ht.weak (by simp), he⟩

theorem AppPost.inn {o : SOp} {M K lo hi : Nat} {T : SgT} {D : List Int} {w : World} (hk : o.kind ≤ 4) (ha : o.amt.natAbs ≤ K) (hb : M + K ≤ 1000000000) (h1 : o.lo ≤ lo) (h2 : hi ≤ o.hi) (hM : InMem w T) (hN : T.blocks.Nodup) (hR : Rep 0 M T D) (hl : lo + D.length = hi + 1) (hh : hi ≤ 800) :
    Calls Try.prog 160 #[.pointer T.ptr, opV o, .int .i64 lo, .int .i64 hi] w (AppPost (M + K) T (upd o lo D) (sub o lo (upd o lo D)) w) := by
  have hpos := List.length_pos_iff.2 hR.pos
  obtain ⟨p, q, hx⟩ := hM.root
  have hmid := (hR.mid (by omega) (by omega)).1
  refine (apply_in o hk T.root D.length lo hi p q T.nd w hx h1 h2 (by omega) (by omega) hh (by omega) hmid).mono fun e w' ⟨he, hb', ht⟩ => ?_
  obtain ⟨e1, _⟩ := upd_all o D lo (by omega)
  obtain ⟨_, e2⟩ := upd_all o (upd o lo D) lo (by rw [upd_length]; omega)
  rw [e2]
  have hM' : InMem w' (T.with (o.node T.nd D.length)) := hM.with ht hN (fun k hk hne hm => hne (List.mem_singleton.1 hm)) (fun p' q' hx' => by
    obtain ⟨g1, g2⟩ := box_ptrs hx' hx
    rw [g1, g2]; exact hb')
  have hR' : Rep 0 (M + K) (T.with (o.node T.nd D.length)) (upd o lo D) := by
    rw [e1]
    by_cases k1 : o.kind = 1
    · have : o.act = fun x => x + o.amt := by funext x; simp [SOp.act, k1]
      rw [this, show o.node T.nd D.length = T.nd.addTo o.amt D.length by simp [SOp.node, k1]]
      exact Rep.addTo o.amt (hR.mono (by omega))
    · by_cases k2 : o.kind = 2
      · have : o.act = fun _ => o.amt := by funext x; simp [SOp.act, k2]
        rw [this, show o.node T.nd D.length = Nd.setTo o.amt D.length by simp [SOp.node, k2]]
        exact (hR.mono (M' := M + K) (by omega)).setTo o.amt (by omega)
      · have : o.act = fun x => x := by funext x; simp [SOp.act, k1, k2]
        rw [this, show o.node T.nd D.length = T.nd by simp [SOp.node, k1, k2], SgT.with_self, List.map_id']
        exact hR.mono (by omega)
  have ho := hR'.own
  rw [SgT.with_nd] at ho
  refine ⟨_, SgT.with_blocks _ _, SgT.with_root _ _, hM', hR', ht.weak (fun k hk => by rw [List.mem_singleton.1 hk]; exact T.root_mem), ?_⟩
  unfold telled
  rw [he, ho.1, ho.2.1, show (upd o lo D).isEmpty = false by rw [List.isEmpty_eq_false_iff]; exact hR'.pos]
  rfl

theorem sub_mem (o : SOp) (D : List Int) (i : Nat) : (∀ x ∈ sub o i D, x ∈ D) ∧ (sub o i D).length ≤ D.length := by
  induction D generalizing i with
  | nil => exact ⟨fun x h => h, Nat.le_refl _⟩
  | cons x D ih =>
    obtain ⟨h1, h2⟩ := ih (i + 1)
    simp only [sub]
    split
    · refine ⟨fun y hy => ?_, by simp; omega⟩
      rcases List.mem_cons.1 hy with rfl | hy
      · simp
      · exact List.mem_cons_of_mem _ (h1 y hy)
    · exact ⟨fun y hy => List.mem_cons_of_mem _ (h1 y hy), by simp; omega⟩

theorem upd_bd {o : SOp} {M K : Nat} {D : List Int} (h : ∀ x ∈ D, x.natAbs ≤ M) (ha : o.amt.natAbs ≤ K) (i : Nat) : ∀ x ∈ upd o i D, x.natAbs ≤ M + K := by
  induction D generalizing i with
  | nil => intro x hx; cases hx
  | cons y D ih =>
    intro x hx
    simp only [upd] at hx
    rcases List.mem_cons.1 hx with rfl | hx
    · have := h y (List.mem_cons_self ..)
      split
      · unfold SOp.act
        split
        · omega
        · split <;> omega
      · omega
    · exact ih (fun z hz => h z (List.mem_cons_of_mem _ hz)) _ x hx

theorem apply_all (o : SOp) (hk : o.kind ≤ 4) (K : Nat) (ha : o.amt.natAbs ≤ K) : ∀ (T : SgT) (v : Nd) (lo hi M : Nat) (D : List Int) (w : World), InMem w (T.with v) → T.blocks.Nodup → Rep 0 M (T.with v) D → M + K ≤ 1000000000 → lo + D.length = hi + 1 → hi ≤ 800 →
    Calls Try.prog 160 #[.pointer T.ptr, opV o, .int .i64 lo, .int .i64 hi] w (AppPost (M + K) (T.with v) (upd o lo D) (sub o lo (upd o lo D)) w) := by
  intro T
  induction T with
  | leaf b u =>
    intro v lo hi M D w hM hN hR hb hl hh
    obtain ⟨x, hD, _⟩ := id hR
    have hlen : D.length = 1 := by rw [hD]; rfl
    by_cases hout : o.hi < lo ∨ hi < o.lo
    · exact AppPost.out (T := (SgT.leaf b u).with v) hout hM hR hl
    · exact AppPost.inn (T := (SgT.leaf b u).with v) hk ha hb (by omega) (by omega) hM (by rw [SgT.with_blocks]; exact hN) hR hl hh
  | node b u l r ihl ihr =>
    intro v lo hi M D w hM hN hR hb hl hh
    by_cases hout : o.hi < lo ∨ hi < o.lo
    · exact AppPost.out (T := (SgT.node b u l r).with v) hout hM hR hl
    by_cases hin : o.lo ≤ lo ∧ hi ≤ o.hi
    · exact AppPost.inn (T := (SgT.node b u l r).with v) hk ha hb hin.1 hin.2 hM (by rw [SgT.with_blocks]; exact hN) hR hl hh
    have hmid := hR.mid (by omega) (by omega)
    obtain ⟨A, B, h1, h2, h3, h4, h5, h6, h7, h8⟩ := hR
    have hpa := List.length_pos_iff.2 h2.pos
    have hpb := List.length_pos_iff.2 h3.pos
    have hlen : D.length = A.length + B.length := by rw [h1]; simp
    have hla := h2.told h8
    have hlb := h3.told h8
    have hN' : (SgT.node b v l r).blocks.Nodup := hN
    obtain ⟨_, _, _, nl, nr, _, _⟩ := InMem.ptrs hM hN'
    obtain ⟨mid, hm⟩ : ∃ mid, mid = (lo + hi) / 2 := ⟨_, rfl⟩
    have hA : A.length = mid - lo + 1 := by omega
    have hB : B.length = hi - mid := by omega
    rw [hA] at hla
    rw [hB] at hlb
    have e0 : upd o lo D = upd o lo (A.map (pend v)) ++ upd o (mid + 1) (B.map (pend v)) := by
      rw [h1, List.map_append, upd_append, List.length_map, show lo + A.length = mid + 1 by omega]
    have e1 : sub o lo (upd o lo D) = sub o lo (upd o lo (A.map (pend v))) ++ sub o (mid + 1) (upd o (mid + 1) (B.map (pend v))) := by
      rw [e0, sub_append, upd_length, List.length_map, show lo + A.length = mid + 1 by omega]
    rw [e1, e0]
    have cl := fun w1 hw => ihl (told v l.nd (mid - lo + 1)) lo mid M (A.map (pend v)) w1 hw nl hla hb (by rw [List.length_map]; omega) (by omega)
    have cr := fun w1 hw => ihr (told v r.nd (hi - mid)) (mid + 1) hi M (B.map (pend v)) w1 hw nr hlb hb (by rw [List.length_map]; omega) (by omega)
    have bA := upd_bd (fun x hx => show x.natAbs ≤ M from by have := hla.bd x hx; omega) ha lo
    have bB := upd_bd (fun x hx => show x.natAbs ≤ M from by have := hlb.bd x hx; omega) ha (mid + 1)
    have sA := sub_mem o (upd o lo (A.map (pend v))) lo
    have sB := sub_mem o (upd o (mid + 1) (B.map (pend v))) (mid + 1)
    rw [upd_length, List.length_map] at sA sB
    have hml := (h2.mid (by omega) (by omega)).1
    have hmr := (h3.mid (by omega) (by omega)).1
    exact apply_part o b (mid - lo + 1) (hi - mid) lo mid hi (M + K) v l r _ _ _ _ w hM hN' (by omega) (by omega) (by omega) ⟨by omega, by omega, hh, rfl, rfl, hm⟩ ⟨hmid.2.1, hmid.2.2.1⟩ ⟨hmid.2.2.2.1, hmid.2.2.2.2⟩ hml hmr cl (fun w1 hw => by
        have := cr w1 hw
        rwa [show ((mid + 1 : Nat) : Int) = (mid : Int) + 1 by omega] at this) hb (by rw [upd_length, List.length_map]; omega) (by rw [upd_length, List.length_map]; omega)
      (sum_small (fun x hx => bA x (sA.1 x hx)) hb (n := 900) (by omega) (by omega)) (sum_small (fun x hx => bB x (sB.1 x hx)) hb (n := 900) (by omega) (by omega))

theorem apply_any (o : SOp) (hk : o.kind ≤ 4) (K : Nat) (ha : o.amt.natAbs ≤ K) (T : SgT) (lo hi M : Nat) (D : List Int) (w : World) (hM : InMem w T) (hN : T.blocks.Nodup) (hR : Rep 0 M T D) (hb : M + K ≤ 1000000000) (hl : lo + D.length = hi + 1) (hh : hi ≤ 800) :
    Calls Try.prog 160 #[.pointer T.ptr, opV o, .int .i64 lo, .int .i64 hi] w (AppPost (M + K) T (upd o lo D) (sub o lo (upd o lo D)) w) := by
  have h := apply_all o hk K ha T T.nd lo hi M D w (by rw [SgT.with_self]; exact hM) hN (by rw [SgT.with_self]; exact hR) hb hl hh
  rwa [SgT.with_self] at h

end Go.Proofs.Ytlmdlholmlbcbaa
