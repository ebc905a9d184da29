import Derived.Test.YtladgklnacihkaaGreatMg23
import Derived.Test.YtladgklnacihkaaGreatMg3
import Derived.Test.YtladgklnacihkaaGreatShelf
/- near.search: the walk. -/
namespace Go.Proofs.YtladgklnacihkaaGreat
set_option linter.unusedVariables false
open Go.RowKit
open Hp (nlt nlt_iff Best KT KD HeapF)

/-- A tree of places in memory. -/
def KMem (w : World) : KT → Value → Prop
  | .nil, v => v = .pointer none
  | .node m l r, v => ∃ b pl pr, v = .pointer (some ⟨b, 0, none⟩) ∧ Box w b #[.int .i64 (m : Int), pl, pr] 179 ∧ KMem w l pl ∧ KMem w r pr
theorem KMem.map {w w' : World} (h : ∀ b cs, Box w b cs 179 → Box w' b cs 179) : ∀ (T : KT) (v : Value), KMem w T v → KMem w' T v
  | .nil, v, hm => hm
  | .node m l r, v, hm => by
    obtain ⟨b, pl, pr, h1, h2, h3, h4⟩ := hm
    exact ⟨b, pl, pr, h1, h _ _ h2, KMem.map h l pl h3, KMem.map h r pr h4⟩
theorem KMem.below {w w' : World} {T : KT} {v : Value} (h : KMem w T v) (hb : Below w.heap.size w w') : KMem w' T v := KMem.map (fun b cs hx => hx.below hb) T v h
/-- The box of what is kept, the row's lowest block, and what else must stay. -/
structure NrE (b0 B : Nat) (pa : Option Addr) (n pcap : Nat) (L : List Pt) (W : World) : Prop where
  pts : SlF ptL 3 W pa n pcap L
  plt : ∀ k, blk pa = some k → k < B ∧ k ≠ b0
  box : ∃ s, Box W b0 #[s] 156
theorem slc_keepF {b0 B n c size : Nat} {a : Option Addr} {cs : List Value} {w W : World} (h : SlC w a n c size cs) (hk : KeepF b0 B w W) (hl : ∀ k, blk a = some k → k < B ∧ k ≠ b0) : SlC W a n c size cs :=
  ⟨h.hlen, h.le, h.capm, h.nil, fun i hi => by
    obtain ⟨b, off, ha, hc⟩ := h.cell i hi
    refine ⟨b, off, ha, ?_⟩
    have hb := World.block_lt_of_cell? w _ hc
    obtain ⟨h1, h2⟩ := hl b (by simp [ha, blk])
    have := hk.block b hb h2 (.inl h1)
    rw [← hc]
    exact World.cell?_of_block this⟩
theorem kmem_keepF {b0 B : Nat} {w W : World} {T : KT} {v s : Value} (h : KMem w T v) (hx : Box w b0 #[s] 156) (hk : KeepF b0 B w W) : KMem W T v :=
  KMem.map (fun b cs hb => hk.box hb (box_box hb hx (by decide)) (by decide)) T v h

/-- What a search of a tree does. -/
def SearchOk (b0 B : Nat) (pa : Option Addr) (n pcap many : Nat) (L : List Pt) (q : Pt) (T : KT) : Prop :=
  ∀ (v : Value) (deep : Nat) (S X : List Nat) (W : World), KMem W T v → SlF ptL 3 W pa n pcap L → KD (fun d i => crd (L.getD i pt0) d) deep T → (T.pl ++ S).Nodup → (∀ i ∈ T.pl, i < n) → deep + T.pl.length ≤ 400 →
    KI b0 B (fun i => fdist (L.getD i pt0) q) X W → Best (fun i => fdist (L.getD i pt0) q) many S X → HeapF (hlt fun i => fdist (L.getD i pt0) q) X X.length 0 →
    Calls Tryz.prog 94 #[v, .slice pa n pcap, .agg #[.int .i64 q.x, .int .i64 q.y, .int .i64 q.w], .int .i64 (deep : Int), .int .i64 (many : Int), .pointer (some ⟨b0, 0, none⟩)] W fun e w' =>
      e = .returned (.tuple #[]) ∧ ∃ X', Kp (Best (fun i => fdist (L.getD i pt0) q) many (T.pl ++ S) X' ∧ HeapF (hlt fun i => fdist (L.getD i pt0) q) X' X'.length 0) ∧ Kp (KI b0 B (fun i => fdist (L.getD i pt0) q) X' w') ∧ Kp (KeepF b0 B W w')

set_option maxRecDepth 100000 in
set_option maxHeartbeats 1000000 in
theorem search_nil (b0 B : Nat) (pa : Option Addr) (n pcap many : Nat) (L : List Pt) (q : Pt) : SearchOk b0 B pa n pcap many L q .nil := by
  intro v deep S X W hm hL hkd hnd hlt hdp hI hB hH
  have e : v = .pointer none := hm
  subst e
  have hal := below_alloc (Nat.le_refl W.heap.size) (.cells #[.int .i64 q.x, .int .i64 q.y, .int .i64 q.w] 28)
  have HI := Kp.mk (ki_box hI hal)
  have HK := Kp.mk (KeepF.below (b0 := b0) (B := B) hal)
  have HB := Kp.mk (And.intro hB hH)
  clear hm hL hkd hnd hlt hdp hI hB hH hal
  go_enter Tryz.func94, Tryz.ntmps94
  go_wp2
  refine bodyPost_ret (results_none rfl _ _ _) rfl ?_
  exact ⟨rfl, X, HB, HI, HK⟩

theorem root_max {far : Nat → Int} {X1 Y : List Nat} {k : Nat} (hp : X1.Perm Y) (hk : X1.length = k) (hh : HeapF (hlt far) X1 k 0) : ∀ t ∈ Y, nlt far (X1.getD 0 0) t = false := by
  intro t ht
  obtain ⟨j, hj, e⟩ := List.getElem_of_mem (hp.mem_iff.2 ht)
  have := Hp.heap_root (Hp.nlt_ord far) hh j (by omega)
  rw [getD_at X1 0 hj, e] at this
  exact this
theorem heap_len {far : Nat → Int} {X : List Nat} {k : Nat} (h : HeapF (hlt far) X k 0) (e : X.length = k) : HeapF (hlt far) X X.length 0 := by rw [e]; exact h
theorem ways_perm {T F O S : List Nat} {m : Nat} (h : T.Perm (m :: (F ++ O))) : (T ++ S).Perm (O ++ (F ++ m :: S)) := by
  refine (h.append_right S).trans ?_
  have h1 : (O ++ (F ++ m :: S)).Perm (m :: ((O ++ F) ++ S)) := by
    rw [← List.append_assoc]; exact List.perm_middle
  refine List.Perm.trans ?_ h1.symm
  exact List.Perm.cons _ (List.Perm.append_right S List.perm_append_comm)
/-- A search goes one way, and then maybe the other way. -/
structure Ways (b0 B : Nat) (pa : Option Addr) (n pcap many deep m : Nat) (L : List Pt) (q : Pt) (gap : Int) (l r F O : KT) (pl pr pF pO : Value) : Prop where
  sel : (F = r ∧ O = l ∧ pF = pr ∧ pO = pl) ∨ (F = l ∧ O = r ∧ pF = pl ∧ pO = pr)
  okF : SearchOk b0 B pa n pcap many L q F
  okO : SearchOk b0 B pa n pcap many L q O
  kdF : KD (fun d i => crd (L.getD i pt0) d) (deep + 1) F
  kdO : KD (fun d i => crd (L.getD i pt0) d) (deep + 1) O
  far : ∀ y ∈ O.pl, gap * gap ≤ fdist (L.getD y pt0) q
  perm : (KT.node m l r).pl.Perm (m :: (F.pl ++ O.pl))
  dF : deep + 1 + F.pl.length ≤ 400
  dO : deep + 1 + O.pl.length ≤ 400
theorem sq_mono {a b : Int} (h : (0 ≤ a ∧ a ≤ b) ∨ (b ≤ a ∧ a ≤ 0)) : a * a ≤ b * b := by
  rcases h with ⟨h1, h2⟩ | ⟨h1, h2⟩
  · exact Int.mul_le_mul h2 h2 h1 (by omega)
  · have := Int.mul_le_mul (show -a ≤ -b by omega) (show -a ≤ -b by omega) (show 0 ≤ -a by omega) (by omega)
    rwa [Int.neg_mul_neg, Int.neg_mul_neg] at this

attribute [local irreducible] HeapF
set_option maxRecDepth 100000 in
set_option maxHeartbeats 8000000 in
theorem search_node (b0 B : Nat) (pa : Option Addr) (n pcap many : Nat) (L : List Pt) (q : Pt) (hn : L.length = n) (hn1 : n ≤ 200) (hmany : 0 < many) (hmany2 : many ≤ 200) (hNL : ∀ p ∈ L, NearXY p) (hNq : NearXY q) (hpl : ∀ k, blk pa = some k → k < B ∧ k ≠ b0)
    (m : Nat) (l r : KT) (hl : SearchOk b0 B pa n pcap many L q l) (hr : SearchOk b0 B pa n pcap many L q r) : SearchOk b0 B pa n pcap many L q (.node m l r) := by
  intro v deep S X W hm hL hkd hnd hlt hdp hI hB hH
  obtain ⟨b, pl, pr, rfl, hbx, hml, hmr⟩ := hm
  obtain ⟨k1, k2, k3, k4⟩ := hkd
  have hmn : m < n := hlt m (by simp [KT.pl])
  have HPM := Kp.mk (getD_at L pt0 (show m < L.length by omega))
  have HPN := Kp.mk (hNL _ (List.getElem_mem (show m < L.length by omega)))
  rw [← HPM.out] at HPN
  have HNQ := Kp.mk hNq
  have HPL := Kp.mk hpl
  obtain ⟨far, hfar⟩ : ∃ far : Nat → Int, (fun i => fdist (L.getD i pt0) q) = far := ⟨_, rfl⟩
  have HFAR := Kp.mk hfar
  have HFM := Kp.mk (show fdist (L.getD m pt0) q = far m from by rw [← hfar])
  have HFI := Kp.mk (show ∀ i, far i = fdist (L.getD i pt0) q from fun i => by rw [← hfar])
  rw [hfar] at hI hB hH ⊢
  have HLl := Kp.mk hl
  have HLr := Kp.mk hr
  have hal := below_alloc (Nat.le_refl W.heap.size) (.cells #[.int .i64 q.x, .int .i64 q.y, .int .i64 q.w] 28)
  have HX8 := Kp.mk (Box.new W #[.int .i64 q.x, .int .i64 q.y, .int .i64 q.w] 28)
  have HBX := Kp.mk (hbx.below hal)
  have HML := Kp.mk (hml.below hal)
  have HMR := Kp.mk (hmr.below hal)
  have HPS := Kp.mk (hL.below hal)
  have HKI := Kp.mk (ki_box hI hal)
  have HKF := Kp.mk (KeepF.below (b0 := b0) (B := B) hal)
  have HBS := Kp.mk hB
  have HH := Kp.mk hH
  have HKD := Kp.mk (And.intro k1 (And.intro k2 (And.intro k3 k4)))
  have HND := Kp.mk hnd
  have HLT := Kp.mk hlt
  have h8 : W.heap.size ≠ b0 := by have := hI.lt; have := hI.size; omega
  have hXl : X.length ≤ many := by rw [hB.len]; exact Nat.min_le_left _ _
  have hdp' : deep + 1 + l.pl.length ≤ 400 ∧ deep + 1 + r.pl.length ≤ 400 := by simp [KT.pl] at hdp; omega
  clear hfar hl hr hbx hml hmr hL hI hB hH k1 k2 k3 k4 hnd hlt hal hpl hNL hNq hdp
  obtain ⟨W0, hW0⟩ : ∃ W0, W.alloc (.cells #[.int .i64 q.x, .int .i64 q.y, .int .i64 q.w] 28) = W0 := ⟨_, rfl⟩
  rw [hW0] at HX8 HBX HML HMR HPS HKI HKF
  obtain ⟨b8, hb8⟩ : ∃ b8, W.heap.size = b8 := ⟨_, rfl⟩
  rw [hb8] at HX8 h8
  go_enter Tryz.func94, Tryz.ntmps94
  go_upto_region 2 with (fail)
  clear hW0 hb8
  obtain ⟨pb, po, hpa, hpbw, co⟩ := HPS.out.at ptL_len (by omega) m (by omega)
  rw [← HPM.out] at co
  subst hpa
  obtain ⟨pm, hpm⟩ : ∃ pm, L.getD m pt0 = pm := ⟨_, rfl⟩
  have HPMV := Kp.mk hpm
  rw [hpm] at co HPN HFM
  clear hpm HPM
  have p0 := later_cell (show W0.cell? ⟨pb, po + m * 3, none⟩ = some (.int .i64 pm.x) from co 0 (by omega))
  have p1 := later_cell (show W0.cell? ⟨pb, po + m * 3 + 1, none⟩ = some (.int .i64 pm.y) from co 1 (by omega))
  have p2 := later_cell (show W0.cell? ⟨pb, po + m * 3 + 2, none⟩ = some (.int .i64 pm.w) from co 2 (by omega))
  have x0 := later_cell (show W0.cell? ⟨b8, 0, none⟩ = some (.int .i64 q.x) from HX8.out.cell 0 rfl)
  have x1 := later_cell (show W0.cell? ⟨b8, 1, none⟩ = some (.int .i64 q.y) from HX8.out.cell 1 rfl)
  have x2 := later_cell (show W0.cell? ⟨b8, 2, none⟩ = some (.int .i64 q.w) from HX8.out.cell 2 rfl)
  have n0 := later_cell (show W0.cell? ⟨b, 0, none⟩ = some (.int .i64 (m : Int)) from HBX.out.cell 0 rfl)
  have hmz : (m : Int) < n := by omega
  have CF := Kp.mk (fun (x : Later W0) => show Calls Tryz.prog 110 #[.agg #[.int .i64 pm.x, .int .i64 pm.y, .int .i64 pm.w], .agg #[.int .i64 q.x, .int .i64 q.y, .int .i64 q.w]] x.val (fun e w' => e = .returned (.int .i64 (far m)) ∧ Below x.val.heap.size x.val w') from by
    rw [← HFM.out]; exact far_any _ _ _ HPN.out HNQ.out)
  clear co
  refine region_later_tail 17 (by kernel_rfl) (by kernel_rfl) ?_
  simp only [List.take_succ_cons, List.take_zero, List.drop_succ_cons, List.drop_zero]
  iterate 17 (go_big_quiet_step ((go_at_call 110; exact q_later (CF.out _))))
  refine wpQuiet_nil ?_
  rintro w1 ⟨xl, rfl⟩
  have HX8' := Kp.mk (HX8.out.below xl.le)
  have HBX' := Kp.mk (HBX.out.below xl.le)
  have HML' := Kp.mk (HML.out.below xl.le)
  have HMR' := Kp.mk (HMR.out.below xl.le)
  have HPS' := Kp.mk (HPS.out.below xl.le)
  have HKI' := Kp.mk (ki_box HKI.out xl.le)
  have HKF' := Kp.mk (HKF.out.trans (KeepF.below (b0 := b0) (B := B) xl.le))
  clear HX8 HBX HML HMR HPS HKI HKF CF p0 p1 p2 x0 x1 x2 n0
  generalize xl.val = w1 at *
  have CP := Kp.mk (hpush_any (kfn b0) (hlt far) (fdV far) (fun _ => True) (fun X W => KI b0 B far X W ∧ KeepF b0 B w1 W ∧ X.length ≤ 1000) (Hp.nlt_ord far) (kops b0 B far w1) (kends b0 B far w1) X X.length m w1 ⟨HKI'.out, KeepF.refl _ _ _, by omega⟩ True.intro rfl (by omega) HH.out)
  have HFV := Kp.mk (show fdV far m = .iface 163 (.agg #[.int .i64 (far m), .int .i64 (m : Int)]) from rfl)
  rw [HFV.out] at CP
  go_wp2_with fail
  refine CP.out.mono ?_
  rintro e w2 ⟨rfl, X1, HP1, HI1⟩
  clear CP
  have HND0 := Kp.mk (show (m :: S).Nodup from by
    have h1 : ((m :: (l.pl ++ r.pl)) ++ S).Nodup := HND.out
    rw [List.cons_append, List.nodup_cons] at h1
    exact List.nodup_cons.2 ⟨fun h => h1.1 (List.mem_append_right _ h), (List.nodup_append.1 h1.2).2.1⟩)
  obtain ⟨n1, hn1⟩ : ∃ n1, X1.length = n1 := ⟨_, rfl⟩
  have hn1x : n1 = X.length + 1 := by rw [← hn1, HP1.out.1.length_eq]; simp
  have HN1 := Kp.mk hn1
  have HN1X := Kp.mk (show X1.length = X.length + 1 by omega)
  obtain ⟨sa, cap, hb2, ho2⟩ := HI1.out.1.at_
  have c2 : w2.cell? ⟨b0, 0, none⟩ = some (.slice sa n1 cap) := by rw [← hn1]; exact hb2.cell 0 rfl
  have CL := Kp.mk (klen_any sa n1 cap w2)
  obtain ⟨s0, HB0⟩ : ∃ s0, Kp (Box w1 b0 #[s0] 156) := by obtain ⟨sa0, cap0, hb0, _⟩ := HKI'.out.at_; exact ⟨_, ⟨hb0⟩⟩
  clear hn1 hb2 ho2 HKI'
  by_cases hpop : X.length = many
  focus
    have t1 : many < n1 := by omega
    have HPOP := Kp.mk hpop
    have CPP := Kp.mk (hpop_any (kfn b0) (hlt far) (fdV far) (fun _ => True) (fun X W => KI b0 B far X W ∧ KeepF b0 B w1 W ∧ X.length ≤ 1000) (Hp.nlt_ord far) (kops b0 B far w1) (kends b0 B far w1) X1 X.length w2 HI1.out HN1X.out (by omega) HP1.out.2)
    clear hpop hn1x
    go_wp2_with (first
      | (go_at_call 111; refine CL.out.mono ?_; rintro e w' ⟨rfl, rfl⟩)
      | fail)
    refine CPP.out.mono ?_
    rintro e w3 ⟨rfl, X2, HP2, HI2⟩
    have HX2L := Kp.mk (show X2.length = X.length from by have := HP2.out.1.length_eq; rw [HN1X.out] at this; simp at this; omega)
    have HB3 := Kp.mk (Hp.best_full HND0.out HBS.out HPOP.out (HP2.out.1.trans HP1.out.1) (root_max HP1.out.1 HN1X.out HP1.out.2))
    have HH3 := Kp.mk (heap_len HP2.out.2 HX2L.out)
    have HK3 := Kp.mk HI2.out.1
    have HF3 := Kp.mk HI2.out.2.1
    clear CPP CL c2 HI1 HI2 HP1 HP2 HX2L HN1 HN1X HPOP t1
    obtain ⟨vx, hvx⟩ : ∃ vx, fdV far (X1.getD 0 0) = vx := ⟨_, rfl⟩
    rw [hvx]
    clear hvx
    go_upto_region 5 with (fail)
  rotate_left
  focus
    have t1 : ¬ many < n1 := by omega
    have HB3 := Kp.mk ((Hp.best_few HND0.out HBS.out (by omega)).perm HP1.out.1)
    have HH3 := Kp.mk (heap_len HP1.out.2 HN1X.out)
    have HK3 := Kp.mk HI1.out.1
    have HF3 := Kp.mk HI1.out.2.1
    clear hpop hn1x HI1 HP1 HN1 HN1X
    generalize X1 = X2 at *
    go_wp2_with (first
      | (go_at_call 111; refine CL.out.mono ?_; rintro e w' ⟨rfl, rfl⟩)
      | fail)
    clear CL c2 t1
    generalize w2 = w3 at *
  rotate_left
  all_goals
    have HX83 := Kp.mk (HF3.out.box HX8'.out h8 (by decide))
    have HBX3 := Kp.mk (HF3.out.box HBX'.out (box_box HBX'.out HB0.out (by decide)) (by decide))
    have HML3 := Kp.mk (kmem_keepF HML'.out HB0.out HF3.out)
    have HMR3 := Kp.mk (kmem_keepF HMR'.out HB0.out HF3.out)
    have HPS3 := Kp.mk (show SlF ptL 3 w3 (some ⟨pb, po, none⟩) n pcap L from slc_keepF HPS'.out HF3.out HPL.out)
    have HKF3 := Kp.mk (HKF'.out.trans HF3.out)
    clear HX8' HBX' HML' HMR' HPS' HKF' HF3 HB0 HBS HH HFV HND0
    obtain ⟨_, _, hpa2, hpbw3, co⟩ := HPS3.out.at ptL_len (by omega) m (by omega)
    simp only [Option.some.injEq, Addr.mk.injEq, and_true] at hpa2
    obtain ⟨rfl, rfl⟩ := hpa2
    rw [← getD_at L pt0 (show m < L.length by omega), HPMV.out] at co
    have p0 := later_cell (show w3.cell? ⟨pb, po + m * 3, none⟩ = some (.int .i64 pm.x) from co 0 (by omega))
    have p1 := later_cell (show w3.cell? ⟨pb, po + m * 3 + 1, none⟩ = some (.int .i64 pm.y) from co 1 (by omega))
    have p2 := later_cell (show w3.cell? ⟨pb, po + m * 3 + 2, none⟩ = some (.int .i64 pm.w) from co 2 (by omega))
    have x0 := later_cell (show w3.cell? ⟨b8, 0, none⟩ = some (.int .i64 q.x) from HX83.out.cell 0 rfl)
    have x1 := later_cell (show w3.cell? ⟨b8, 1, none⟩ = some (.int .i64 q.y) from HX83.out.cell 1 rfl)
    have x2 := later_cell (show w3.cell? ⟨b8, 2, none⟩ = some (.int .i64 q.w) from HX83.out.cell 2 rfl)
    have n0 := later_cell (show w3.cell? ⟨b, 0, none⟩ = some (.int .i64 (m : Int)) from HBX3.out.cell 0 rfl)
    have CC := Kp.mk (fun (p : Pt) (x : Later w3) => (coord_any p deep x.val (by omega)).mono (R' := fun e w' => e = .returned (.int .i64 (crd p deep)) ∧ Below x.val.heap.size x.val w') (fun e w' ⟨h1, h2⟩ => ⟨h1, by rw [h2]; exact below_alloc (Nat.le_refl _) _⟩))
    have hcq := crd_bd HNQ.out deep
    have hcm := crd_bd HPN.out deep
    have HCQ := Kp.mk (CC.out q)
    have HCM := Kp.mk (CC.out pm)
    obtain ⟨cq, hcqe⟩ : ∃ z, crd q deep = z := ⟨_, rfl⟩
    obtain ⟨cm, hcme⟩ : ∃ z, crd pm deep = z := ⟨_, rfl⟩
    have HCQE := Kp.mk hcqe
    have HCME := Kp.mk hcme
    rw [hcqe] at HCQ hcq
    rw [hcme] at HCM hcm
    obtain ⟨gap, hgap⟩ : ∃ z, cq - cm = z := ⟨_, rfl⟩
    have HGAP := Kp.mk hgap
    have e1 : IntKind.i64.wrap (cq - cm) = gap := by rw [hgap]; exact IntWalk.i64_in _ (by omega)
    have hgb : -2097152 ≤ gap ∧ gap ≤ 2097152 := by omega
    clear co CC hcqe hcme hgap hpbw3 hcq hcm
    refine region_later (by kernel_rfl) (by kernel_rfl) ?_
    iterate 14 (go_big_quiet_step (first | (go_at_call 108; with_reducible exact q_later (HCQ.out _)) | (go_at_call 108; with_reducible exact q_later (HCM.out _))))
    refine wpQuiet_nil ?_
    rintro w4 ⟨xl2, rfl⟩
    have HX84 := Kp.mk (HX83.out.below xl2.le)
    have HBX4 := Kp.mk (HBX3.out.below xl2.le)
    have HML4 := Kp.mk (HML3.out.below xl2.le)
    have HMR4 := Kp.mk (HMR3.out.below xl2.le)
    have HPS4 := Kp.mk (HPS3.out.below xl2.le)
    have HK4 := Kp.mk (ki_box HK3.out xl2.le)
    have HKF4 := Kp.mk (HKF3.out.trans (KeepF.below (b0 := b0) (B := B) xl2.le))
    clear HX83 HBX3 HML3 HMR3 HPS3 HK3 HKF3 HCQ HCM p0 p1 p2 x0 x1 x2 n0
    generalize xl2.val = w4 at *
    obtain ⟨F, O, pF, pO, hsel, HMF, HMO, HWY⟩ : ∃ F O pF pO, ((0 < gap ∧ Kp (Box w4 b #[.int .i64 (m : Int), pO, pF] 179)) ∨ (¬ 0 < gap ∧ Kp (Box w4 b #[.int .i64 (m : Int), pF, pO] 179))) ∧ Kp (KMem w4 F pF) ∧ Kp (KMem w4 O pO) ∧ Kp (Ways b0 B (some ⟨pb, po, none⟩) n pcap many deep m L q gap l r F O pl pr pF pO) := by
      obtain ⟨k1, k2, k3, k4⟩ := HKD.out
      rw [HPMV.out, HCME.out] at k1 k2
      have hG := HGAP.out
      have hQ := HCQE.out
      have hsq : ∀ y, fdist (L.getD y pt0) q ≥ (crd (L.getD y pt0) deep - cq) * (crd (L.getD y pt0) deep - cq) := fun y => by
        have := crd_far (L.getD y pt0) q deep
        rw [hQ] at this; exact this
      by_cases hg : 0 < gap
      · refine ⟨r, l, pr, pl, .inl ⟨hg, HBX4⟩, HMR4, HML4, ⟨⟨.inl ⟨rfl, rfl, rfl, rfl⟩, HLr.out, HLl.out, k4, k3, fun y hy => ?_, ?_, hdp'.2, hdp'.1⟩⟩⟩
        · have h1 := k1 y hy
          refine Int.le_trans ?_ (hsq y)
          have h2 : (crd (L.getD y pt0) deep - cq) * (crd (L.getD y pt0) deep - cq) = (cq - crd (L.getD y pt0) deep) * (cq - crd (L.getD y pt0) deep) := by
            rw [← Int.neg_mul_neg, Int.neg_sub]
          rw [h2]
          exact sq_mono (.inl ⟨by omega, by omega⟩)
        · exact List.Perm.cons _ List.perm_append_comm
      · refine ⟨l, r, pl, pr, .inr ⟨hg, HBX4⟩, HML4, HMR4, ⟨⟨.inr ⟨rfl, rfl, rfl, rfl⟩, HLl.out, HLr.out, k3, k4, fun y hy => ?_, List.Perm.refl _, hdp'.1, hdp'.2⟩⟩⟩
        have h1 := k2 y hy
        refine Int.le_trans ?_ (hsq y)
        have h2 : gap * gap = (-gap) * (-gap) := by rw [Int.neg_mul_neg]
        rw [h2]
        exact sq_mono (.inl ⟨by omega, by omega⟩)
    have HNDF := Kp.mk (show (O.pl ++ (F.pl ++ m :: S)).Nodup from (ways_perm HWY.out.perm).nodup_iff.1 HND.out)
    have HLF := Kp.mk (show (∀ i ∈ F.pl, i < n) ∧ ∀ i ∈ O.pl, i < n from ⟨fun i hi => HLT.out i (HWY.out.perm.mem_iff.2 (by simp [hi])), fun i hi => HLT.out i (HWY.out.perm.mem_iff.2 (by simp [hi]))⟩)
    have hdp5 : IntKind.i64.wrap ((deep : Int) + 1) = (deep : Int) + 1 := IntWalk.i64_in _ (by omega)
    have HDC := Kp.mk (show ((deep + 1 : Nat) : Int) = (deep : Int) + 1 by omega)
    have x0 := later_cell (show w4.cell? ⟨b8, 0, none⟩ = some (.int .i64 q.x) from HX84.out.cell 0 rfl)
    have x1 := later_cell (show w4.cell? ⟨b8, 1, none⟩ = some (.int .i64 q.y) from HX84.out.cell 1 rfl)
    have x2 := later_cell (show w4.cell? ⟨b8, 2, none⟩ = some (.int .i64 q.w) from HX84.out.cell 2 rfl)
    obtain ⟨s4, HB4⟩ : ∃ s4, Kp (Box w4 b0 #[s4] 156) := by obtain ⟨sa0, cap0, hb0, _⟩ := HK4.out.at_; exact ⟨_, ⟨hb0⟩⟩
    have CF := Kp.mk (fun (x : Later w4) => show Calls Tryz.prog 94 #[pF, .slice (some ⟨pb, po, none⟩) n pcap, .agg #[.int .i64 q.x, .int .i64 q.y, .int .i64 q.w], .int .i64 ((deep : Int) + 1), .int .i64 (many : Int), .pointer (some ⟨b0, 0, none⟩)] x.val (fun e w' => e = .returned (.tuple #[]) ∧ ∃ X', Kp (Best far many (F.pl ++ (m :: S)) X' ∧ HeapF (hlt far) X' X'.length 0) ∧ Kp (KI b0 B far X' w') ∧ Kp (KeepF b0 B w4 w')) from by
      have h := HWY.out.okF pF (deep + 1) (m :: S) X2 x.val (HMF.out.below x.le) (HPS4.out.below x.le) HWY.out.kdF ((List.nodup_append.1 HNDF.out).2.1) HLF.out.1 HWY.out.dF (by rw [HFAR.out]; exact ki_box HK4.out x.le) (by rw [HFAR.out]; exact HB3.out) (by rw [HFAR.out]; exact HH3.out)
      rw [HFAR.out, HDC.out] at h
      refine h.mono ?_
      rintro e w' ⟨h1, X', h2, h3, h4⟩
      exact ⟨h1, X', h2, h3, ⟨(KeepF.below (b0 := b0) (B := B) x.le).trans h4.out⟩⟩)
    clear HK4 HB3 HH3 HBX4 HML4 HMR4 HKD HLl HLr HCQE HCME HGAP HND HLT
    rcases hsel with ⟨hg, HBW⟩ | ⟨hg, HBW⟩
    focus
      have tg : decide (gap > 0) = true := decide_eq_true hg
      have n1 := later_cell (show w4.cell? ⟨b, 2, none⟩ = some pF from HBW.out.cell 2 rfl)
      go_wp2
      refine region_later_tail 12 (by kernel_rfl) (by kernel_rfl) ?_
      simp only [List.take_succ_cons, List.take_zero, List.drop_succ_cons, List.drop_zero]
      iterate 12 (go_big_quiet_step (fail))
      refine wpQuiet_nil ?_
      rintro w5 ⟨xl3, rfl⟩
      have CF5 := Kp.mk (CF.out xl3)
      clear CF n1 tg x0 x1 x2
      go_wp2_with fail
      refine CF5.out.mono ?_
      rintro e w6 ⟨rfl, X3, HB5, HK6, HF6⟩
      have HOC := Kp.mk (show w6.cell? ⟨b, 1, none⟩ = some pO from (HF6.out.box HBW.out (box_box HBW.out HB4.out (by decide)) (by decide)).cell 1 rfl)
      clear CF5 HBW hg
    rotate_left
    focus
      have tg : decide (gap > 0) = false := decide_eq_false hg
      have n1 := later_cell (show w4.cell? ⟨b, 1, none⟩ = some pF from HBW.out.cell 1 rfl)
      go_wp2
      refine region_later_tail 12 (by kernel_rfl) (by kernel_rfl) ?_
      simp only [List.take_succ_cons, List.take_zero, List.drop_succ_cons, List.drop_zero]
      iterate 12 (go_big_quiet_step (fail))
      refine wpQuiet_nil ?_
      rintro w5 ⟨xl3, rfl⟩
      have CF5 := Kp.mk (CF.out xl3)
      clear CF n1 tg x0 x1 x2
      go_wp2_with fail
      refine CF5.out.mono ?_
      rintro e w6 ⟨rfl, X3, HB5, HK6, HF6⟩
      have HOC := Kp.mk (show w6.cell? ⟨b, 2, none⟩ = some pO from (HF6.out.box HBW.out (box_box HBW.out HB4.out (by decide)) (by decide)).cell 2 rfl)
      clear CF5 HBW hg
    rotate_left
    all_goals
      have HX86 := Kp.mk (HF6.out.box HX84.out h8 (by decide))
      have HMO6 := Kp.mk (kmem_keepF HMO.out HB4.out HF6.out)
      have HPS6 := Kp.mk (show SlF ptL 3 w6 (some ⟨pb, po, none⟩) n pcap L from slc_keepF HPS4.out HF6.out HPL.out)
      have HKF6 := Kp.mk (HKF4.out.trans HF6.out)
      clear HX84 HMO HMF HPS4 HKF4 HF6 HB4
      obtain ⟨sa3, cap3, hb6, ho6⟩ := HK6.out.at_
      have hlen := HB5.out.1.len
      obtain ⟨n3, hn3⟩ : ∃ n3, X3.length = n3 := ⟨_, rfl⟩
      have h30 : 0 < n3 := by rw [← hn3, hlen]; simp; omega
      have h3m : n3 ≤ many := by rw [← hn3, hlen]; exact Nat.min_le_left _ _
      have HN3 := Kp.mk hn3
      rw [hn3] at hb6 ho6
      obtain ⟨g3, rfl, _, _⟩ := own_some ho6 h30
      have c6 : w6.cell? ⟨b0, 0, none⟩ = some (.slice (some ⟨g3, 0, none⟩) n3 cap3) := hb6.cell 0 rfl
      have d6 := (fd_at ho6 hn3 0 h30).1
      have HRM := Kp.mk (root_max (List.Perm.refl X3) rfl HB5.out.2)
      obtain ⟨fr, hfr⟩ : ∃ fr, far (X3.getD 0 0) = fr := ⟨_, rfl⟩
      have HFR := Kp.mk hfr
      rw [hfr, Nat.zero_mul] at d6
      have hg2b := sq_le gap hgb.1 hgb.2
      obtain ⟨g2, hg2⟩ : ∃ g2, gap * gap = g2 := ⟨_, rfl⟩
      have HG2 := Kp.mk hg2
      rw [hg2] at hg2b
      have e2 : IntKind.i64.wrap (gap * gap) = g2 := by rw [hg2]; exact IntWalk.i64_in _ (by omega)
      have CL := Kp.mk (klen_any (some ⟨g3, 0, none⟩) n3 cap3 w6)
      have hcz : n3 ≤ cap3 := (own_slc ho6).le
      clear hlen hn3 hb6 ho6 hfr hg2 hg2b
      rcases (show (n3 < many ∧ Kp True) ∨ (¬ n3 < many ∧ g2 ≤ fr ∧ Kp (n3 = many)) ∨ (¬ n3 < many ∧ ¬ g2 ≤ fr ∧ Kp (n3 = many)) from by
        by_cases h3 : n3 < many
        · exact .inl ⟨h3, ⟨trivial⟩⟩
        · by_cases h4 : g2 ≤ fr
          · exact .inr (.inl ⟨h3, h4, ⟨by omega⟩⟩)
          · exact .inr (.inr ⟨h3, h4, ⟨by omega⟩⟩)) with ⟨h3, HEM⟩ | ⟨h3, h4, HEM⟩ | ⟨h3, h4, HEM⟩
      rotate_left
      rotate_left
      · have t3 : decide ((n3 : Int) < many) = false := decide_eq_false (by omega)
        have t4 : decide (g2 ≤ fr) = false := decide_eq_false h4
        have HFIN := Kp.mk (show Best far many ((KT.node m l r).pl ++ S) X3 from by
          refine (Hp.best_skip HB5.out.1 (by rw [HN3.out]; exact HEM.out) (Y := O.pl) (fun y hy t ht => ?_)).perm2 (ways_perm HWY.out.perm)
          have h5 := HWY.out.far y hy
          rw [HG2.out, ← HFI.out] at h5
          have h6 := HRM.out t ht
          rw [Hp.nlt_not, HFR.out] at h6
          rw [nlt_iff]
          omega)
        have HHF := Kp.mk HB5.out.2
        clear HB5 HWY HMO6 HPS6 HX86 HOC HRM
        go_wp2_with (first
          | (go_at_call 111; refine CL.out.mono ?_; rintro e w' ⟨rfl, rfl⟩)
          | fail)
        go_end0
        exact ⟨rfl, X3, ⟨HFIN.out, HHF.out⟩, HK6, HKF6⟩
      all_goals
        obtain ⟨s6, HB6⟩ : ∃ s6, Kp (Box w6 b0 #[s6] 156) := by obtain ⟨sa0, cap0, hb0, _⟩ := HK6.out.at_; exact ⟨_, ⟨hb0⟩⟩
        have x0 := later_cell (show w6.cell? ⟨b8, 0, none⟩ = some (.int .i64 q.x) from HX86.out.cell 0 rfl)
        have x1 := later_cell (show w6.cell? ⟨b8, 1, none⟩ = some (.int .i64 q.y) from HX86.out.cell 1 rfl)
        have x2 := later_cell (show w6.cell? ⟨b8, 2, none⟩ = some (.int .i64 q.w) from HX86.out.cell 2 rfl)
        have n2 := later_cell HOC.out
        have CO := Kp.mk (fun (x : Later w6) => show Calls Tryz.prog 94 #[pO, .slice (some ⟨pb, po, none⟩) n pcap, .agg #[.int .i64 q.x, .int .i64 q.y, .int .i64 q.w], .int .i64 ((deep : Int) + 1), .int .i64 (many : Int), .pointer (some ⟨b0, 0, none⟩)] x.val (fun e w' => e = .returned (.tuple #[]) ∧ ∃ X', Kp (Best far many (O.pl ++ (F.pl ++ (m :: S))) X' ∧ HeapF (hlt far) X' X'.length 0) ∧ Kp (KI b0 B far X' w') ∧ Kp (KeepF b0 B w6 w')) from by
          have h := HWY.out.okO pO (deep + 1) (F.pl ++ (m :: S)) X3 x.val (HMO6.out.below x.le) (HPS6.out.below x.le) HWY.out.kdO HNDF.out HLF.out.2 HWY.out.dO (by rw [HFAR.out]; exact ki_box HK6.out x.le) (by rw [HFAR.out]; exact HB5.out.1) (by rw [HFAR.out]; exact HB5.out.2)
          rw [HFAR.out, HDC.out] at h
          refine h.mono ?_
          rintro e w' ⟨h1, X', h2, h3, h4⟩
          exact ⟨h1, X', h2, h3, ⟨(KeepF.below (b0 := b0) (B := B) x.le).trans h4.out⟩⟩)
        have HWP := Kp.mk HWY.out.perm
        clear HWY HMO6 HPS6 HX86 HOC HRM HB5 HK6 HB6 HEM
        go_wp2_with (first
          | (go_at_call 111; refine CL.out.mono ?_; rintro e w' ⟨rfl, rfl⟩)
          | fail)
        refine region_later_tail 13 (by kernel_rfl) (by kernel_rfl) ?_
        simp only [List.take_succ_cons, List.take_zero, List.drop_succ_cons, List.drop_zero]
        iterate 13 (go_big_quiet_step (fail))
        refine wpQuiet_nil ?_
        rintro w7 ⟨xl7, rfl⟩
        have CO7 := Kp.mk (CO.out xl7)
        clear CO CL n2 x0 x1 x2 c6 d6
        go_wp2_with fail
        refine CO7.out.mono ?_
        rintro e w8 ⟨rfl, X4, HB8, HK8, HF8⟩
        have HFIN := Kp.mk (show Best far many ((KT.node m l r).pl ++ S) X4 from HB8.out.1.perm2 (ways_perm HWP.out))
        have HHF := Kp.mk HB8.out.2
        have HKW := Kp.mk (HKF6.out.trans HF8.out)
        clear CO7 HB8 HF8
        go_wp2
        go_end0
        exact ⟨rfl, X4, ⟨HFIN.out, HHF.out⟩, HK8, HKW⟩

theorem nsearch_any (b0 B : Nat) (pa : Option Addr) (n pcap many : Nat) (L : List Pt) (q : Pt) (hn : L.length = n) (hn1 : n ≤ 200) (hmany : 0 < many) (hmany2 : many ≤ 200) (hNL : ∀ p ∈ L, NearXY p) (hNq : NearXY q) (hpl : ∀ k, blk pa = some k → k < B ∧ k ≠ b0) : ∀ T : KT, SearchOk b0 B pa n pcap many L q T
  | .nil => search_nil b0 B pa n pcap many L q
  | .node m l r => search_node b0 B pa n pcap many L q hn hn1 hmany hmany2 hNL hNq hpl m l r (nsearch_any b0 B pa n pcap many L q hn hn1 hmany hmany2 hNL hNq hpl l) (nsearch_any b0 B pa n pcap many L q hn hn1 hmany hmany2 hNL hNq hpl r)

end Go.Proofs.YtladgklnacihkaaGreat

/- near.grow: its comparison, and the sorting of a part of a row. -/
namespace Go.Proofs.YtladgklnacihkaaGreat
set_option linter.unusedVariables false
open Go.RowKit Go.Sort
open Hp (KT KD)

/-- A world that has drawn and grown, no more. -/
structure Gro (w0 : World) where
  val : World
  is_ : ∃ q os, val = grow (w0.drewN q) os
instance (w0 : World) : Nonempty (Gro w0) := ⟨⟨w0, 0, #[], by simp [grow, World.drewN]⟩⟩
theorem gro_trans {w0 w1 w2 : World} (h : ∃ q os, w1 = grow (w0.drewN q) os) (k : ∃ q os, w2 = grow (w1.drewN q) os) : ∃ q os, w2 = grow (w0.drewN q) os := by
  obtain ⟨q, os, rfl⟩ := h
  obtain ⟨q', os', rfl⟩ := k
  refine ⟨q + q', os ++ os', ?_⟩
  have : (grow (w0.drewN q) os).drewN q' = grow (w0.drewN (q + q')) os := by
    rw [← World.drewN_drewN]; rfl
  rw [this, grow_grow]
theorem gro_cell {w0 : World} {b o : Nat} {v : Value} (h : w0.cell? ⟨b, o, none⟩ = some v) : ∀ x : Gro w0, x.val.cell? ⟨b, o, none⟩ = some v := fun x => by
  obtain ⟨q, os, e⟩ := x.is_
  rw [e, (grow_below w0 q os).cell (p := ⟨b, o, none⟩) (World.block_lt_of_cell? w0 _ h)]; exact h
theorem q_gro {P : Program} {f : FuncId} {args : Array Value} {w0 : World} {x : Gro w0} {v : Value}
    (h : Calls P f args x.val fun e w' => e = .returned v ∧ ∃ q os, w' = grow (x.val.drewN q) os) : Calls P f args x.val fun e w'' => e = .returned v ∧ ∃ x' : Gro w0, w'' = x'.val :=
  h.mono fun _ w' ⟨he, hg⟩ => ⟨he, ⟨w', gro_trans x.is_ hg⟩, rfl⟩
theorem gro_alloc (w : World) (o : Obj) : ∃ q os, w.alloc o = grow (w.drewN q) os := ⟨0, #[o], alloc_eq_grow w o⟩
theorem gro_same (w : World) : ∃ q os, w = grow (w.drewN q) os := ⟨0, #[], by simp [grow, World.drewN]⟩

/-- The comparison of two places by a coordinate, and by place. -/
def cmpK (c : Nat → Int) (a b : Nat) : Int := or2 (cmpI (c a) (c b)) (cmpI (a : Int) (b : Int))
theorem cmpK_neg (c : Nat → Int) (a b : Nat) : cmpK c a b < 0 ↔ (c a < c b ∨ (c a = c b ∧ a < b)) := by
  have := cmpN_neg (c a) (a : Int) (c b) (b : Int)
  unfold cmpN at this
  unfold cmpK
  rw [this]; omega

set_option maxRecDepth 100000 in
set_option maxHeartbeats 4000000 in
theorem growOrd_any (b3 b5 : Nat) (a : Option Addr) (cap n x y deep : Nat) (L : List Pt) (w : World) (h : SlF ptL 3 w a n cap L) (hn : n ≤ 1000) (hb3 : w.cell? ⟨b3, 0, none⟩ = some (.slice a n cap)) (hb5 : w.cell? ⟨b5, 0, none⟩ = some (.int .i64 (deep : Int))) (hx : x < n) (hy : y < n) (hd : deep ≤ 1000) :
    Calls Tryz.prog 107 #[.int .i64 x, .int .i64 y, .pointer (some ⟨b3, 0, none⟩), .pointer (some ⟨b5, 0, none⟩)] w fun e w' => e = .returned (.int .i64 (cmpK (fun i => crd (L.getD i pt0) deep) x y)) ∧ ∃ q os, w' = grow (w.drewN q) os := by
  have hl := h.len ptL_len (by omega)
  obtain ⟨b, off, rfl, hbw, cx⟩ := h.at ptL_len (by omega) x (by omega)
  obtain ⟨_, _, e1, _, cy⟩ := h.at ptL_len (by omega) y (by omega)
  simp only [Option.some.injEq, Addr.mk.injEq, and_true] at e1
  obtain ⟨rfl, rfl⟩ := e1
  rw [← getD_at L pt0 (by omega)] at cx cy
  have HP := Kp.mk (show cmpK (fun i => crd (L.getD i pt0) deep) x y = or2 (cmpI (crd (L.getD x pt0) deep) (crd (L.getD y pt0) deep)) (cmpI x y) from rfl)
  generalize L.getD x pt0 = p at *
  generalize L.getD y pt0 = q at *
  have x0 := gro_cell (show w.cell? ⟨b, off + x * 3, none⟩ = some (.int .i64 p.x) from cx 0 (by omega))
  have x1 := gro_cell (show w.cell? ⟨b, off + x * 3 + 1, none⟩ = some (.int .i64 p.y) from cx 1 (by omega))
  have x2 := gro_cell (show w.cell? ⟨b, off + x * 3 + 2, none⟩ = some (.int .i64 p.w) from cx 2 (by omega))
  have y0 := gro_cell (show w.cell? ⟨b, off + y * 3, none⟩ = some (.int .i64 q.x) from cy 0 (by omega))
  have y1 := gro_cell (show w.cell? ⟨b, off + y * 3 + 1, none⟩ = some (.int .i64 q.y) from cy 1 (by omega))
  have y2 := gro_cell (show w.cell? ⟨b, off + y * 3 + 2, none⟩ = some (.int .i64 q.w) from cy 2 (by omega))
  have g3 := gro_cell hb3
  have g5 := gro_cell hb5
  rw [HP.out]
  obtain ⟨u, hu⟩ : ∃ u, crd p deep = u := ⟨_, rfl⟩
  obtain ⟨v, hv⟩ : ∃ v, crd q deep = v := ⟨_, rfl⟩
  have CP := Kp.mk (fun (W : World) => (coord_any p deep W hd).mono (R' := fun e w' => e = .returned (.int .i64 u) ∧ ∃ q os, w' = grow (W.drewN q) os) (fun e w' ⟨h1, h2⟩ => ⟨by rw [← hu]; exact h1, by rw [h2]; exact gro_alloc _ _⟩))
  have CQ := Kp.mk (fun (W : World) => (coord_any q deep W hd).mono (R' := fun e w' => e = .returned (.int .i64 v) ∧ ∃ q os, w' = grow (W.drewN q) os) (fun e w' ⟨h1, h2⟩ => ⟨by rw [← hv]; exact h1, by rw [h2]; exact gro_alloc _ _⟩))
  rw [hu, hv]
  have C1 := Kp.mk (fun (W : World) => (compare_any u v W).mono (R' := fun e w' => e = .returned (.int .i64 (cmpI u v)) ∧ ∃ q os, w' = grow (W.drewN q) os) (fun e w' ⟨h1, h2⟩ => ⟨h1, by rw [← h2]; exact gro_same _⟩))
  have C2 := Kp.mk (fun (W : World) => (compare_any (x : Int) (y : Int) W).mono (R' := fun e w' => e = .returned (.int .i64 (cmpI x y)) ∧ ∃ q os, w' = grow (W.drewN q) os) (fun e w' ⟨h1, h2⟩ => ⟨h1, by rw [← h2]; exact gro_same _⟩))
  clear h cx cy HP hl hu hv hb3 hb5
  generalize cmpI u v = r1 at *
  generalize cmpI (x : Int) (y : Int) = r2 at *
  have hxz : (x : Int) < n := by omega
  have hyz : (y : Int) < n := by omega
  go_enter Tryz.func107, Tryz.ntmps107
  go_wp2
  refine region_quiet_tail 16 (fun w' => ∃ x : Gro w, w' = x.val) (by kernel_rfl) (by kernel_rfl) ⟨⟨w.drew, 1, #[], by simp [grow, World.drewN]; rfl⟩, rfl⟩ ?_
  simp only [List.take_succ_cons, List.take_zero, List.drop_succ_cons, List.drop_zero]
  iterate 16 (go_big_quiet_step (first | (go_at_call 108; with_reducible exact q_gro (CP.out _)) | (go_at_call 108; with_reducible exact q_gro (CQ.out _)) | (go_at_call 29; with_reducible exact q_gro (C1.out _)) | (go_at_call 29; with_reducible exact q_gro (C2.out _)) | fail))
  refine wpQuiet_nil ?_
  rintro w1 ⟨xl, rfl⟩
  have HG := Kp.mk xl.is_
  clear x0 x1 x2 y0 y1 y2 g3 g5 CP CQ C1 C2
  generalize xl.val = w1 at *
  have bx := Box.new w1 #[.int .i64 r1, .int .i64 r2] 3
  have CO := Kp.mk (or2_any w1.heap.size r1 r2 (w1.alloc (.cells #[.int .i64 r1, .int .i64 r2] 3)) (bx.cell 0 rfl) (bx.cell 1 rfl))
  clear bx
  go_wp2_with fail
  refine CO.out.mono ?_
  rintro e w' ⟨rfl, rfl⟩
  go_wp2
  go_ret
  exact ⟨rfl, gro_trans HG.out (gro_alloc _ _)⟩

end Go.Proofs.YtladgklnacihkaaGreat

/- slices.SortFunc on a part of a row of places, by a number and by place. -/
namespace Go.Proofs.YtladgklnacihkaaGreat
set_option linter.unusedVariables false
open Go.RowKit Go.Sort
open Hp (KT KD)

def natV (X : List Nat) : List Value := X.map fun (x : Nat) => Value.int .i64 (x : Int)
theorem natV_len (X : List Nat) : (natV X).length = X.length := by simp [natV]
theorem natV_app (X Y : List Nat) : natV (X ++ Y) = natV X ++ natV Y := by simp [natV]
def nencN (m : Nat) (i : Fin (m + 1)) : Value := .int .i64 ((i.val : Nat) : Int)
/-- A comparison of places, of those up to m. -/
def cfN (m : Nat) (cf : Nat → Nat → Int) (a b : Fin (m + 1)) : Int := cf a.val b.val
/-- A comparison as a sort needs it. -/
structure CmpOk (cf : Nat → Nat → Int) : Prop where
  irrefl : ∀ x, ¬ cf x x < 0
  trans : ∀ x y z, cf x y < 0 → cf y z < 0 → cf x z < 0
  ntrans : ∀ x y z, ¬ cf x y < 0 → ¬ cf y z < 0 → ¬ cf x z < 0
theorem cmpK_ok (c : Nat → Int) : CmpOk (cmpK c) where
  irrefl x := by rw [cmpK_neg]; omega
  trans x y z h1 h2 := by rw [cmpK_neg] at *; omega
  ntrans x y z h1 h2 := by rw [cmpK_neg] at *; omega
theorem cmpX_ok (c : Nat → Int) : CmpOk (fun a b => cmpI (c a) (c b)) where
  irrefl x := by unfold cmpI; split <;> omega
  trans x y z h1 h2 := by unfold cmpI at *; split at h1 <;> split at h2 <;> (try split at h1) <;> (try split at h2) <;> (repeat' split) <;> omega
  ntrans x y z h1 h2 := by unfold cmpI at *; split at h1 <;> split at h2 <;> (try split at h1) <;> (try split at h2) <;> (repeat' split) <;> omega
theorem swoN (m : Nat) {cf : Nat → Nat → Int} (h : CmpOk cf) : SWO (ltOf (cfN m cf)) where
  irrefl x := by
    unfold ltOf cfN
    rw [decide_eq_false_iff_not]; exact h.irrefl _
  trans x y z h1 h2 := by
    unfold ltOf cfN at *
    rw [decide_eq_true_eq] at *; exact h.trans _ _ _ h1 h2
  ntrans x y z h1 h2 := by
    unfold ltOf cfN at *
    rw [decide_eq_false_iff_not] at *; exact h.ntrans _ _ _ h1 h2
theorem puts_win {α : Type} [Inhabited α] (enc : α → Value) (d : Array α) (P A Q : List Value) (off : Nat) (hP : P.length = off) (hA : A.length = d.size) : putCells enc off d (P ++ A ++ Q).toArray = (P ++ d.toList.map enc ++ Q).toArray := by
  apply Array.ext_getElem?
  intro k
  unfold putCells
  rw [Array.getElem?_mapIdx]
  simp only [List.getElem?_toArray]
  by_cases h1 : k < off
  · rw [List.getElem?_append_left (by simp; omega), List.getElem?_append_left (by omega), List.getElem?_append_left (by simp; omega), List.getElem?_append_left (by omega), List.getElem?_eq_getElem (by omega)]
    simp only [Option.map_some]
    rw [if_neg (by omega)]
  · by_cases h2 : k < off + d.size
    · rw [List.getElem?_append_left (by simp; omega), List.getElem?_append_right (by omega), List.getElem?_append_left (by simp; omega), List.getElem?_append_right (by omega), hP]
      rw [List.getElem?_eq_getElem (by omega), List.getElem?_map, Array.getElem?_toList, Array.getElem?_eq_getElem (by omega)]
      simp only [Option.map_some]
      rw [if_pos (by omega), getElem!_pos d (k - off) (by omega)]
    · rw [List.getElem?_append_right (by simp; omega), List.getElem?_append_right (by simp; omega)]
      have e : (P ++ A).length = (P ++ d.toList.map enc).length := by simp [hA]
      rw [e]
      cases (Q[k - (P ++ d.toList.map enc).length]?) with
      | none => rfl
      | some y =>
        simp only [Option.map_some]
        rw [if_neg (by omega)]
theorem heap_sorted {α : Type} [Inhabited α] {enc : α → Value} {w : World} {g off n : Nat} {os : Array Obj} {cur : Array Value} {e : TypeId} {fr : Nat × Nat} (d : Array α) (hb : w.heap[g]? = some (.cells cur e fr)) :
    (sortWorld enc w g off n d os).heap[g]? = some (.cells (putCells enc off d cur) e fr) := by
  have hg : g < w.heap.size := (Array.getElem?_eq_some_iff.1 hb).1
  unfold sortWorld
  rw [heap_grow_old _ _ (by simpa using hg)]
  simp [putRow, mapBlock, Sort.ahead, Array.getElem?_modify, hb, onCells]
theorem grown_sorted {α : Type} [Inhabited α] {enc : α → Value} {w : World} {g off n : Nat} {os : Array Obj} (d : Array α) : w.grownBy (sortWorld enc w g off n d os) (some g) := by
  unfold sortWorld
  refine ⟨rfl, rfl, rfl, by simp, fun k hk hne => ?_⟩
  rw [heap_grow_old _ _ (by simpa using hk)]
  have : g ≠ k := fun e => hne (by rw [e])
  simp [putRow, mapBlock, Sort.ahead, Array.getElem?_modify, this]
def toF (m : Nat) (X : List Nat) : List (Fin (m + 1)) := X.map fun x => ⟨min x m, by omega⟩
theorem toF_val {m : Nat} {X : List Nat} (h : ∀ x ∈ X, x < m + 1) : (toF m X).map (fun i => i.val) = X := by
  unfold toF
  rw [List.map_map]
  apply List.ext_getElem
  · simp
  · intro i h1 h2
    simp
    have := h X[i] (List.getElem_mem h2)
    omega
theorem toF_enc {m : Nat} {X : List Nat} (h : ∀ x ∈ X, x < m + 1) : (toF m X).map (nencN m) = natV X := by
  have h1 := toF_val h
  have h2 : (toF m X).map (nencN m) = ((toF m X).map (fun i => i.val)).map (fun (x : Nat) => Value.int .i64 (x : Int)) := by rw [List.map_map]; rfl
  rw [h2, h1]; rfl

/-- slices.SortFunc on a part of a row. -/
theorem sort_gen (fn : Nat) (cb : Array Value) (cf : Nat → Nat → Int) (hcf : CmpOk cf) (m gb off cap : Nat) (P Q : List Value) (X : List Nat) (w : World) (hX : ∀ x ∈ X, x < m + 1) (hl : X.length ≤ 1000) (hP : P.length = off) (hb : Box w gb (P ++ natV X ++ Q).toArray 3) (eg : ∀ args w, (callFunc fn args).run Tryz.prog w = .ok (.enter fn args) w)
    (hcmp : ∀ w', w.grownBy w' (some gb) → ∀ x y : Nat, x < m + 1 → y < m + 1 → Calls Tryz.prog fn (#[.int .i64 x, .int .i64 y] ++ cb) w' fun e w'' => e = .returned (.int .i64 (cf x y)) ∧ ∃ q os, w'' = grow (w'.drewN q) os) :
    Calls Tryz.prog 26 #[.slice (some ⟨gb, off, none⟩) X.length cap, .func (.func fn) #[] cb] w fun e w' => e = .returned (.tuple #[]) ∧ ∃ Z, Kp (Z.Perm X ∧ ∀ i j, i < j → j < Z.length → ¬ cf (Z.getD j 0) (Z.getD i 0) < 0) ∧ Kp (Box w' gb (P ++ natV Z ++ Q).toArray 3) ∧ Kp (w.grownBy w' (some gb)) := by
  have hs : (toF m X).toArray.size = X.length := by simp [toF]
  have hH : Holds (nencN m) w gb off (toF m X).toArray := by
    intro j hj
    rw [hs] at hj
    have hj2 : j < (toF m X).length := by simpa [toF] using hj
    refine ⟨?_, frozen_of_row w gb (off + j) _ _ hb⟩
    rw [Box.cell hb (off + j) (v := nencN m ((toF m X)[j])) ?_]
    · rw [getElem!_pos (toF m X).toArray j (by rw [hs]; exact hj)]; rfl
    · rw [List.getElem?_toArray, List.getElem?_append_left (by rw [List.length_append, natV_len]; omega), List.getElem?_append_right (by omega), hP, Nat.add_sub_cancel_left, ← toF_enc hX, List.getElem?_map, List.getElem?_eq_getElem hj2]
      rfl
  have hC : CmpLays1 Tryz.prog fn cb (nencN m) (cfN m cf) gb off (toF m X).toArray.size w := by
    intro k os dk hk x y
    exact hcmp _ (grown_sorted dk) x.val y.val x.isLt y.isLt
  have hS := Tryz.slices_SortFunc (nencN m) (fun _ => rfl) (cfN m cf) (swoN m hcf) fn cb gb off cap (toF m X).toArray w eg hC hH hb.lt (by rw [hs]; omega)
  rw [hs] at hS
  refine hS.mono ?_
  rintro e w' ⟨rfl, d', q, os, hp, hsrt, rfl⟩
  have hsz : d'.size = X.length := by rw [hp.1, hs]
  have hpl : (d'.toList.map fun i => i.val).Perm X := by
    have h1 := hp.2.2
    have e1 : ∀ {α : Type} (d : Array α) (n : Nat), d.size = n → d.extract 0 n = d := fun d n h => by subst h; simp
    rw [e1 d' _ hsz, e1 (toF m X).toArray _ hs] at h1
    have h2 := h1.map (fun i => i.val)
    rwa [show ((toF m X).toArray.toList.map fun i => i.val) = X from toF_val hX] at h2
  refine ⟨rfl, d'.toList.map (fun i => i.val), ⟨⟨hpl, ?_⟩⟩, ⟨?_⟩, ⟨grown_sorted d'⟩⟩
  · intro i j hij hj
    rw [List.length_map, Array.length_toList] at hj
    have h5 := hsrt i j (Nat.zero_le _) hij (by omega)
    unfold ltOf cfN at h5
    rw [decide_eq_false_iff_not, getElem!_pos d' j hj, getElem!_pos d' i (by omega)] at h5
    have e1 : ∀ k (h : k < d'.size), (d'.toList.map fun i => i.val).getD k 0 = d'[k].val := fun k h => by
      rw [getD_at _ _ (by rw [List.length_map, Array.length_toList]; exact h), List.getElem_map, Array.getElem_toList]
    rw [e1 i (by omega), e1 j hj]
    exact h5
  · have h1 := heap_sorted (enc := nencN m) (off := off) (n := q) (os := os) d' (show w.heap[gb]? = some (.cells (P ++ natV X ++ Q).toArray 3 (0, 0)) from hb)
    rw [puts_win (nencN m) d' P (natV X) Q off hP (by rw [natV_len, hsz])] at h1
    have e2 : d'.toList.map (nencN m) = natV (d'.toList.map fun i => i.val) := by
      unfold natV
      rw [List.map_map]; rfl
    rw [e2] at h1
    exact h1

theorem sort_win (fn : Nat) (cb : Array Value) (c : Nat → Int) (m gb off cap : Nat) (P Q : List Value) (X : List Nat) (w : World) (hX : ∀ x ∈ X, x < m + 1) (hl : X.length ≤ 1000) (hP : P.length = off) (hb : Box w gb (P ++ natV X ++ Q).toArray 3) (eg : ∀ args w, (callFunc fn args).run Tryz.prog w = .ok (.enter fn args) w)
    (hcmp : ∀ w', w.grownBy w' (some gb) → ∀ x y : Nat, x < m + 1 → y < m + 1 → Calls Tryz.prog fn (#[.int .i64 x, .int .i64 y] ++ cb) w' fun e w'' => e = .returned (.int .i64 (cmpK c x y)) ∧ ∃ q os, w'' = grow (w'.drewN q) os) :
    Calls Tryz.prog 26 #[.slice (some ⟨gb, off, none⟩) X.length cap, .func (.func fn) #[] cb] w fun e w' => e = .returned (.tuple #[]) ∧ ∃ Z, Kp (Z.Perm X ∧ ∀ i j, i < j → j < Z.length → ¬ cmpK c (Z.getD j 0) (Z.getD i 0) < 0) ∧ Kp (Box w' gb (P ++ natV Z ++ Q).toArray 3) ∧ Kp (w.grownBy w' (some gb)) :=
  sort_gen fn cb (cmpK c) (cmpK_ok c) m gb off cap P Q X w hX hl hP hb eg hcmp

end Go.Proofs.YtladgklnacihkaaGreat

