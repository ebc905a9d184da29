/- near.grow: the walk. -/
import Derived.Test.YtlmdlholmlbcbaaNrW
namespace Go.Proofs.Ytlmdlholmlbcbaa
set_option linter.unusedVariables false
open Go.RowKit Go.Sort
open Hp (KT KD)

theorem kmem_ptr {w : World} {v : Value} : ∀ (T : KT), KMem w T v → ∃ p, v = .pointer p
  | .nil, h => ⟨none, h⟩
  | .node m l r, h => by obtain ⟨b, _, _, h1, _⟩ := h; exact ⟨_, h1⟩
/-- What grow makes of a part of a row. -/
def GrowOk (gb : Nat) (pa : Option Addr) (n pcap : Nat) (L : List Pt) (N : Nat) : Prop :=
  ∀ (X : List Nat) (P Q : List Value) (deep off cap : Nat) (a : Option Addr) (W : World), X.length ≤ N → (∀ x ∈ X, x < n) → P.length = off → (X = [] ∨ a = some ⟨gb, off, none⟩) → X.length ≤ cap → cap ≤ maxLen → Box W gb (P ++ natV X ++ Q).toArray 3 → SlF ptL 3 W pa n pcap L → blk pa ≠ some gb → deep + X.length ≤ 400 →
    Calls Try.prog 61 #[.slice pa n pcap, .slice a X.length cap, .int .i64 (deep : Int)] W fun e w' => ∃ v T Z, e = .returned v ∧ Kp (KMem w' T v) ∧ Kp (T.pl.Perm X ∧ KD (fun d i => crd (L.getD i pt0) d) deep T ∧ Z.Perm X) ∧ Kp (Box w' gb (P ++ natV Z ++ Q).toArray 3) ∧ Kp (W.grownBy w' (some gb))

theorem run_back (gb off n1 cap mid : Nat) (hm : mid + 1 ≤ n1) (hc : n1 ≤ cap) (hcm : cap ≤ 9223372036854775807) : ∃ ra, (n1 - (mid + 1) = 0 ∨ ra = some ⟨gb, off + (mid + 1), none⟩) ∧ ∀ w, (Instr.slice 22 (.slice (some ⟨gb, off, none⟩) n1 cap) (some (.int .i64 ((mid : Int) + 1))) none none).run Try.prog w = .ok (.slice ra (n1 - (mid + 1)) (cap - (mid + 1))) w := by
  by_cases h : cap = mid + 1
  · refine ⟨some ⟨gb, off, none⟩, .inl (by omega), fun w => ?_⟩
    subst h
    obtain rfl : n1 = mid + 1 := by omega
    simp [go_sem, Try.underlying22]
    intro h5; omega
  · refine ⟨some ⟨gb, off + (mid + 1), none⟩, .inr rfl, fun w => ?_⟩
    have h1 : ¬ (n1 : Int) < (mid : Int) + 1 := by omega
    have h3 : ((mid : Int) + 1).toNat = mid + 1 := by omega
    simp [go_sem, Try.underlying22, h, h1, h3]
    intro h5; omega

set_option maxRecDepth 100000 in
set_option maxHeartbeats 4000000 in
theorem grow_zero (gb : Nat) (pa : Option Addr) (n pcap : Nat) (L : List Pt) (X : List Nat) (P Q : List Value) (deep off cap : Nat) (a : Option Addr) (W : World) (hX : X = []) (hb : Box W gb (P ++ natV X ++ Q).toArray 3) :
    Calls Try.prog 61 #[.slice pa n pcap, .slice a X.length cap, .int .i64 (deep : Int)] W fun e w' => ∃ v T Z, e = .returned v ∧ Kp (KMem w' T v) ∧ Kp (T.pl.Perm X ∧ KD (fun d i => crd (L.getD i pt0) d) deep T ∧ Z.Perm X) ∧ Kp (Box w' gb (P ++ natV Z ++ Q).toArray 3) ∧ Kp (W.grownBy w' (some gb)) := by
  subst hX
  have hal := (below_alloc (Nat.le_refl W.heap.size) (.cells #[.slice pa n pcap] 38)).alloc (by rw [alloc_size]; omega) (.cells #[.int .i64 (deep : Int)] 3)
  have HB := Kp.mk (hb.below hal)
  have HG := Kp.mk (grown_of_below (r := some gb) hal)
  show Calls _ _ #[.slice pa n pcap, .slice a 0 cap, .int .i64 (deep : Int)] _ _
  clear hb hal
  go_enter Try.func61, Try.ntmps61
  go_wp2
  go_ret
  exact ⟨_, .nil, [], rfl, ⟨rfl⟩, ⟨List.Perm.refl _, trivial, List.Perm.refl _⟩, HB, HG⟩

theorem split_mid (Z : List Nat) (mid : Nat) (h : mid < Z.length) : Z = Z.take mid ++ Z.getD mid 0 :: Z.drop (mid + 1) := by
  rw [getD_at Z 0 h]
  have h1 := List.take_succ_eq_append_getElem h
  have h2 := List.take_append_drop (mid + 1) Z
  rw [h1] at h2
  rw [List.append_assoc] at h2
  exact h2.symm
theorem sorted_kd {c : Nat → Int} {Z : List Nat} {mid : Nat} (hm : mid < Z.length) (h : ∀ i j, i < j → j < Z.length → ¬ cmpK c (Z.getD j 0) (Z.getD i 0) < 0) : (∀ y ∈ Z.take mid, c y ≤ c (Z.getD mid 0)) ∧ ∀ y ∈ Z.drop (mid + 1), c (Z.getD mid 0) ≤ c y := by
  refine ⟨fun y hy => ?_, fun y hy => ?_⟩
  · obtain ⟨i, hi, e⟩ := List.getElem_of_mem hy
    rw [List.length_take] at hi
    rw [List.getElem_take] at e
    have := h i mid (by omega) hm
    rw [cmpK_neg, getD_at Z 0 (show i < Z.length by omega), e] at this
    omega
  · obtain ⟨i, hi, e⟩ := List.getElem_of_mem hy
    rw [List.length_drop] at hi
    rw [List.getElem_drop] at e
    have := h mid (mid + 1 + i) (by omega) (by omega)
    rw [cmpK_neg, getD_at Z 0 (show mid + 1 + i < Z.length by omega), e] at this
    omega

set_option maxRecDepth 100000 in
set_option maxHeartbeats 8000000 in
theorem grow_step (gb : Nat) (pa : Option Addr) (n pcap : Nat) (L : List Pt) (hL : L.length = n) (hn : n ≤ 200) (N : Nat) (ih : GrowOk gb pa n pcap L N) : GrowOk gb pa n pcap L (N + 1) := by
  intro X P Q deep off cap a W hXN hXn hP ha hXc hcm hb hpts hpg hdp
  by_cases hX0 : X = []
  · exact grow_zero gb pa n pcap L X P Q deep off cap a W hX0 hb
  have ha' : a = some ⟨gb, off, none⟩ := ha.resolve_left hX0
  subst ha'
  have hXpos : 0 < X.length := List.length_pos_iff.2 hX0
  obtain ⟨n', hn'⟩ : ∃ n', n = n' + 1 := ⟨n - 1, by
    have : 0 < n := by
      have := hXn _ (List.getElem_mem hXpos)
      omega
    omega⟩
  unfold maxLen at hcm
  have hgl := hb.lt
  have hal := (below_alloc (Nat.le_refl W.heap.size) (.cells #[.slice pa n pcap] 38)).alloc (by rw [alloc_size]; omega) (.cells #[.int .i64 (deep : Int)] 3)
  obtain ⟨W1, hW1⟩ : ∃ W1, W.alloc (.cells #[.slice pa n pcap] 38) = W1 := ⟨_, rfl⟩
  have hx3 : Box W1 W.heap.size #[.slice pa n pcap] 38 := by rw [← hW1]; exact Box.new _ _ _
  have hs1 : W1.heap.size = W.heap.size + 1 := by rw [← hW1, alloc_size]
  rw [hW1] at hal
  obtain ⟨W2, hW2⟩ : ∃ W2, W1.alloc (.cells #[.int .i64 (deep : Int)] 3) = W2 := ⟨_, rfl⟩
  have hx5 : Box W2 (W.heap.size + 1) #[.int .i64 (deep : Int)] 3 := by rw [← hW2, ← hs1]; exact Box.new _ _ _
  have hx3' : Box W2 W.heap.size #[.slice pa n pcap] 38 := by rw [← hW2]; exact hx3.alloc _
  rw [hW2] at hal
  have hb2 := hb.below hal
  have hp2 := hpts.below hal
  have h3g : W.heap.size ≠ gb := by omega
  have h5g : W.heap.size + 1 ≠ gb := by omega
  have CS := Kp.mk (sort_win 98 #[.pointer (some ⟨W.heap.size, 0, none⟩), .pointer (some ⟨W.heap.size + 1, 0, none⟩)] (fun i => crd (L.getD i pt0) deep) n' gb off cap P Q X W2 (fun x hx => by have := hXn x hx; omega) (by omega) hP hb2 (enters_of Try.func98 (by kernel_rfl) rfl)
    (fun w' hg x y hx hy => growOrd_any W.heap.size (W.heap.size + 1) pa pcap n x y deep L w' (hp2.keep hg (fun k hk => by cases hk; exact hpg)) (by omega) ((box_grow hx3' hg (by simp; omega)).cell 0 rfl) ((box_grow hx5 hg (by simp; omega)).cell 0 rfl) (by omega) (by omega) (by omega)))
  have H3G := Kp.mk (show (some gb : Option Nat) ≠ some W.heap.size by simp; omega)
  have H5G := Kp.mk (show (some gb : Option Nat) ≠ some (W.heap.size + 1) by simp; omega)
  have HX3 := Kp.mk hx3'
  have HX5 := Kp.mk hx5
  have HP2 := Kp.mk hp2
  have HAL := Kp.mk hal
  have HPG := Kp.mk hpg
  have HP := Kp.mk hP
  have HIH := Kp.mk ih
  have HXN := Kp.mk hXn
  have HLL := Kp.mk hL
  obtain ⟨n1, hn1⟩ : ∃ n1, X.length = n1 := ⟨_, rfl⟩
  have HN1 := Kp.mk hn1
  rw [hn1] at hXN hXc hdp hXpos CS ⊢
  obtain ⟨b3, hb3⟩ : ∃ b3, W.heap.size = b3 := ⟨_, rfl⟩
  have HS2 := Kp.mk (show W2.heap.size = W.heap.size + 1 + 1 by rw [← hW2, alloc_size, hs1])
  have HS1 := Kp.mk hs1
  have t0 : ¬ n1 = 0 := by omega
  have hnz : ((n1 : Int) == 0) = false := by rw [beq_eq_false_iff_ne]; omega
  clear hn1 hx3 hx3' hx5 hp2 hal hpg hP ih hXn hL hb hb2 hpts hX0 ha hs1 hn' hgl hb3
  go_enter Try.func61, Try.ntmps61
  go_wp2_with fail
  rw [HS1.out]
  refine CS.out.mono ?_
  rintro e w3 ⟨rfl, Z, HZ, HBX, HG⟩
  clear CS hW1 hW2 h3g h5g
  have HZ' := Kp.mk (show Z.Perm X ∧ ∀ i j, i < j → j < Z.length → ¬ cmpK (fun i => crd (L.getD i pt0) deep) (Z.getD j 0) (Z.getD i 0) < 0 from ⟨HZ.out.1, fun i j h1 h2 => by have := HZ.out.2 i j h1 h2; omega⟩)
  have HZL := Kp.mk (show Z.length = n1 by rw [HZ'.out.1.length_eq]; exact HN1.out)
  obtain ⟨mid, hmid⟩ : ∃ mid, n1 / 2 = mid := ⟨_, rfl⟩
  have hm1 : mid < n1 := by omega
  have HQ := Kp.mk (show (n1 : Int) / 2 = (mid : Int) by omega)
  obtain ⟨ra, hra, hsl⟩ := run_back gb off n1 cap mid hm1 hXc hcm
  have hsl1 : ∀ w, (Instr.slice 22 (.slice (some ⟨gb, off, none⟩) n1 cap) none (some (.int .i64 (mid : Int))) none).run Try.prog w = .ok (.slice (some ⟨gb, off, none⟩) mid cap) w := fun w => by
    simp [go_sem, Try.underlying22]
    omega
  have HRA := Kp.mk hra
  have hsp := split_mid Z mid (by rw [HZL.out]; exact hm1)
  have HKD := Kp.mk (sorted_kd (c := fun i => crd (L.getD i pt0) deep) (by rw [HZL.out]; exact hm1) HZ'.out.2)
  obtain ⟨z, hz⟩ : ∃ z, Z.getD mid 0 = z := ⟨_, rfl⟩
  have hz1 : (Z.take mid).length = mid := by rw [List.length_take, HZL.out]; omega
  have hz2 : (Z.drop (mid + 1)).length = n1 - (mid + 1) := by rw [List.length_drop, HZL.out]
  rw [hz] at hsp HKD
  obtain ⟨Z1, hZ1⟩ : ∃ Z1, Z.take mid = Z1 := ⟨_, rfl⟩
  obtain ⟨Z2, hZ2⟩ : ∃ Z2, Z.drop (mid + 1) = Z2 := ⟨_, rfl⟩
  rw [hZ1, hZ2] at hsp HKD
  rw [hZ1] at hz1
  rw [hZ2] at hz2
  have HZX := Kp.mk (show (Z1 ++ z :: Z2).Perm X from by rw [← hsp]; exact HZ'.out.1)
  have HZN := Kp.mk (show ∀ x ∈ Z1 ++ z :: Z2, x < n from fun x hx => HXN.out x (HZX.out.mem_iff.1 hx))
  have HBZ := Kp.mk (show Box w3 gb (P ++ natV Z1 ++ (.int .i64 (z : Int) :: (natV Z2 ++ Q))).toArray 3 from by
    have h := HBX.out
    rw [hsp, natV_app] at h
    have e : P ++ (natV Z1 ++ natV (z :: Z2)) ++ Q = P ++ natV Z1 ++ (.int .i64 (z : Int) :: (natV Z2 ++ Q)) := by
      simp [natV]
    rwa [e] at h)
  have cz : w3.cell? ⟨gb, off + mid, none⟩ = some (.int .i64 (z : Int)) := HBZ.out.cell (off + mid) (by
    rw [List.getElem?_toArray, List.getElem?_append_right (by rw [List.length_append, natV_len, hz1, HP.out]; exact Nat.le_refl _), List.length_append, natV_len, hz1, HP.out, Nat.sub_self]; rfl)
  have c3 : w3.cell? ⟨W.heap.size, 0, none⟩ = some (.slice pa n pcap) := (box_grow HX3.out HG.out H3G.out).cell 0 rfl
  have c5 : w3.cell? ⟨W.heap.size + 1, 0, none⟩ = some (.int .i64 (deep : Int)) := (box_grow HX5.out HG.out H5G.out).cell 0 rfl
  have HPT3 := Kp.mk (show SlF ptL 3 w3 pa n pcap L from SlC.keep HP2.out HG.out (fun k hk => by cases hk; exact HPG.out))
  have HB3L := Kp.mk (show W.heap.size < W2.heap.size ∧ W.heap.size + 1 < W2.heap.size by rw [HS2.out]; omega)
  have HDC := Kp.mk (show ((deep + 1 : Nat) : Int) = (deep : Int) + 1 by omega)
  have C1 := Kp.mk (show Calls Try.prog 61 #[.slice pa n pcap, .slice (some ⟨gb, off, none⟩) mid cap, .int .i64 ((deep : Int) + 1)] w3.drew (fun e w' => ∃ v T Y, e = .returned v ∧ Kp (KMem w' T v) ∧ Kp (T.pl.Perm Z1 ∧ KD (fun d i => crd (L.getD i pt0) d) (deep + 1) T ∧ Y.Perm Z1) ∧ Kp (Box w' gb (P ++ natV Y ++ (.int .i64 (z : Int) :: (natV Z2 ++ Q))).toArray 3) ∧ Kp (w3.drew.grownBy w' (some gb))) from by
    have h := HIH.out Z1 P (.int .i64 (z : Int) :: (natV Z2 ++ Q)) (deep + 1) off cap (some ⟨gb, off, none⟩) w3.drew (by omega) (fun x hx => HZN.out x (by simp [hx])) HP.out (.inr rfl) (by omega) (by unfold maxLen; omega) (HBZ.out.below (Below.refl _ _).drew) (HPT3.out.below (Below.refl _ _).drew) HPG.out (by omega)
    rw [HDC.out, hz1] at h
    exact h)
  have C2 := Kp.mk (fun (w4 : World) (Y : List Nat) (hY : Y.Perm Z1) (hB : Box w4 gb (P ++ natV Y ++ (.int .i64 (z : Int) :: (natV Z2 ++ Q))).toArray 3) (hG : w3.drew.grownBy w4 (some gb)) => show Calls Try.prog 61 #[.slice pa n pcap, .slice ra (n1 - (mid + 1)) (cap - (mid + 1)), .int .i64 ((deep : Int) + 1)] w4 (fun e w' => ∃ v T Y2, e = .returned v ∧ Kp (KMem w' T v) ∧ Kp (T.pl.Perm Z2 ∧ KD (fun d i => crd (L.getD i pt0) d) (deep + 1) T ∧ Y2.Perm Z2) ∧ Kp (Box w' gb (P ++ natV (Y ++ z :: Y2) ++ Q).toArray 3) ∧ Kp (w4.grownBy w' (some gb))) from by
    have hYL : Y.length = mid := by rw [hY.length_eq]; exact hz1
    have e1 : ∀ V : List Nat, P ++ natV Y ++ (.int .i64 (z : Int) :: (natV V ++ Q)) = (P ++ natV (Y ++ [z])) ++ natV V ++ Q := fun V => by simp [natV]
    rw [e1] at hB
    have h := HIH.out Z2 (P ++ natV (Y ++ [z])) Q (deep + 1) (off + (mid + 1)) (cap - (mid + 1)) ra w4 (by omega) (fun x hx => HZN.out x (by simp [hx])) (by rw [List.length_append, natV_len, HP.out]; simp [hYL]) (HRA.out.imp_left (fun h => List.eq_nil_of_length_eq_zero (by rw [hz2]; exact h))) (by omega) (by unfold maxLen; omega) hB (SlC.keep (HPT3.out.below (Below.refl _ _).drew) hG (fun k hk => by cases hk; exact HPG.out)) HPG.out (by omega)
    rw [HDC.out, hz2] at h
    refine h.mono ?_
    rintro e w' ⟨v, T, Y2, h1, h2, h3, h4, h5⟩
    refine ⟨v, T, Y2, h1, h2, h3, ⟨?_⟩, h5⟩
    have h6 := h4.out
    have e2 : P ++ natV (Y ++ [z]) ++ natV Y2 ++ Q = P ++ natV (Y ++ z :: Y2) ++ Q := by simp [natV]
    rwa [e2] at h6)
  have e1 : IntKind.i64.wrap ((deep : Int) + 1) = (deep : Int) + 1 := IntWalk.i64_in _ (by omega)
  have e2 : IntKind.i64.wrap ((mid : Int) + 1) = (mid : Int) + 1 := IntWalk.i64_in _ (by omega)
  have hmz : (mid : Int) < n1 := by omega
  clear hra hsp hz hZ1 hZ2 hz2 hmid HZ HBX
  have HSF := Kp.mk (fun (w' : World) (Y : List Nat) (V : List Value) (hY : Y.length = mid) (hB : Box w' gb (P ++ natV Y ++ (.int .i64 (z : Int) :: V)).toArray 3) (hg : w3.drew.grownBy w' (some gb)) => show w'.cell? ⟨gb, off + mid, none⟩ = some (.int .i64 (z : Int)) ∧ w'.cell? ⟨W.heap.size, 0, none⟩ = some (.slice pa n pcap) ∧ w'.cell? ⟨W.heap.size + 1, 0, none⟩ = some (.int .i64 (deep : Int)) from
    ⟨hB.cell (off + mid) (by
      rw [List.getElem?_toArray, List.getElem?_append_right (by rw [List.length_append, natV_len, hY, HP.out]; exact Nat.le_refl _), List.length_append, natV_len, hY, HP.out, Nat.sub_self]; rfl),
     (box_grow ((box_grow HX3.out HG.out H3G.out).below (Below.refl _ _).drew) hg H3G.out).cell 0 rfl, (box_grow ((box_grow HX5.out HG.out H5G.out).below (Below.refl _ _).drew) hg H5G.out).cell 0 rfl⟩)
  have HZ1L := Kp.mk hz1
  have HAP := Kp.mk (show ∀ Y V : List Nat, P ++ natV (Y ++ z :: V) ++ Q = P ++ natV Y ++ (.int .i64 (z : Int) :: (natV V ++ Q)) from fun Y V => by simp [natV])
  clear hz1
  go_upto_region 5 with (fail)
  rw [HQ.out]
  go_region_held3 (fun w' => w'.cell? ⟨gb, off + mid, none⟩ = some (.int .i64 (z : Int)) ∧ w'.cell? ⟨W.heap.size, 0, none⟩ = some (.slice pa n pcap) ∧ w'.cell? ⟨W.heap.size + 1, 0, none⟩ = some (.int .i64 (deep : Int)))
    (first | exact ⟨cz, c3, c5⟩ | exact hS4 | exact hS5 | go_keep)
    ((first
      | (go_at_call 61; (with_reducible refine C1.out.mono ?_); rintro e w4 ⟨v1, T1, Y1, rfl, HM1, HT1, HB1, HG1⟩; obtain ⟨p1, rfl⟩ := kmem_ptr T1 HM1.out; have hS4 : w4.cell? ⟨gb, off + mid, none⟩ = some (.int .i64 (z : Int)) ∧ w4.cell? ⟨W.heap.size, 0, none⟩ = some (.slice pa n pcap) ∧ w4.cell? ⟨W.heap.size + 1, 0, none⟩ = some (.int .i64 (deep : Int)) := HSF.out w4 Y1 _ (by rw [HT1.out.2.2.length_eq]; exact HZ1L.out) HB1.out HG1.out)
      | (go_at_call 61; refine (C2.out w4 Y1 HT1.out.2.2 HB1.out HG1.out).mono ?_; rintro e w5 ⟨v2, T2, Y2, rfl, HM2, HT2, HB2, HG2⟩; obtain ⟨p2, rfl⟩ := kmem_ptr T2 HM2.out; have hS5 : w5.cell? ⟨gb, off + mid, none⟩ = some (.int .i64 (z : Int)) ∧ w5.cell? ⟨W.heap.size, 0, none⟩ = some (.slice pa n pcap) ∧ w5.cell? ⟨W.heap.size + 1, 0, none⟩ = some (.int .i64 (deep : Int)) := HSF.out w5 Y1 (natV Y2 ++ Q) (by rw [HT1.out.2.2.length_eq]; exact HZ1L.out) (by rw [← HAP.out]; exact HB2.out) (grown_trans HG1.out HG2.out))
      | fail))
  all_goals
    have HBF := Kp.mk (show Box (w5.alloc (.cells #[.int .i64 (z : Int), .pointer p1, .pointer p2] 139)) gb (P ++ natV (Y1 ++ z :: Y2) ++ Q).toArray 3 from HB2.out.alloc _)
    have HMF := Kp.mk (show KMem (w5.alloc (.cells #[.int .i64 (z : Int), .pointer p1, .pointer p2] 139)) (.node z T1 T2) (.pointer (some ⟨w5.heap.size, 0, none⟩)) from
      ⟨w5.heap.size, .pointer p1, .pointer p2, rfl, Box.new _ _ _, (KMem.map (fun b cs hx => box_grow hx HG2.out (fun e => by cases e; exact box_box hx HB1.out (by decide) rfl)) T1 _ HM1.out).below (below_alloc (Nat.le_refl _) _), HM2.out.below (below_alloc (Nat.le_refl _) _)⟩)
    have HTF := Kp.mk (show (KT.node z T1 T2).pl.Perm X ∧ KD (fun d i => crd (L.getD i pt0) d) deep (.node z T1 T2) ∧ (Y1 ++ z :: Y2).Perm X from by
      refine ⟨?_, ⟨fun y hy => HKD.out.1 y (HT1.out.1.mem_iff.1 hy), fun y hy => HKD.out.2 y (HT2.out.1.mem_iff.1 hy), HT1.out.2.1, HT2.out.2.1⟩, ?_⟩
      · refine List.Perm.trans ?_ HZX.out
        exact (List.Perm.cons z (HT1.out.1.append HT2.out.1)).trans List.perm_middle.symm
      · exact (HT1.out.2.2.append (HT2.out.2.2.cons z)).trans HZX.out)
    have HGF := Kp.mk (show W.grownBy (w5.alloc (.cells #[.int .i64 (z : Int), .pointer p1, .pointer p2] 139)) (some gb) from
      grown_trans (grown_of_below (r := some gb) HAL.out) (grown_trans (grown_drew HG.out) (grown_trans HG1.out (grown_trans HG2.out (grown_of_below (below_alloc (Nat.le_refl _) _))))))
    clear C1 C2 HSF hS4 hS5 hsl hsl1 cz c3 c5
    go_wp2
    go_ret
    exact ⟨_, .node z T1 T2, Y1 ++ z :: Y2, rfl, HMF, HTF, HBF, HGF⟩

theorem grow_any (gb : Nat) (pa : Option Addr) (n pcap : Nat) (L : List Pt) (hL : L.length = n) (hn : n ≤ 200) : ∀ N, GrowOk gb pa n pcap L N
  | 0 => fun X P Q deep off cap a W hXN _ _ _ _ _ hb _ _ _ => grow_zero gb pa n pcap L X P Q deep off cap a W (List.eq_nil_of_length_eq_zero (by omega)) hb
  | N + 1 => grow_step gb pa n pcap L hL hn N (grow_any gb pa n pcap L hL hn N)

end Go.Proofs.Ytlmdlholmlbcbaa
