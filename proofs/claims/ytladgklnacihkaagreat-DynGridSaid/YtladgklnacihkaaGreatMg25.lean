import Derived.Test.YtladgklnacihkaaGreatMg24
import Derived.Test.YtladgklnacihkaaGreatMg23
import Derived.Test.YtladgklnacihkaaGreatMg1
import Derived.Test.YtladgklnacihkaaGreatShelfN
import Derived.Test.YtladgklnacihkaaGreatShelf
/- near.grow: the walk. -/
namespace Go.Proofs.YtladgklnacihkaaGreat
set_option linter.unusedVariables false
open Go.RowKit Go.Sort
open Hp (KT KD)

theorem kmem_ptr {w : World} {v : Value} : ∀ (T : KT), KMem w T v → ∃ p, v = .pointer p
  | .nil, h => ⟨none, h⟩
  | .node m l r, h => by obtain ⟨b, _, _, h1, _⟩ := h; exact ⟨_, h1⟩
/-- What grow makes of a part of a row. -/
def GrowOk (gb : Nat) (pa : Option Addr) (n pcap : Nat) (L : List Pt) (N : Nat) : Prop :=
  ∀ (X : List Nat) (P Q : List Value) (deep off cap : Nat) (a : Option Addr) (W : World), X.length ≤ N → (∀ x ∈ X, x < n) → P.length = off → (X = [] ∨ a = some ⟨gb, off, none⟩) → X.length ≤ cap → cap ≤ maxLen → Box W gb (P ++ natV X ++ Q).toArray 3 → SlF ptL 3 W pa n pcap L → blk pa ≠ some gb → deep + X.length ≤ 400 →
    Calls Tryz.prog 93 #[.slice pa n pcap, .slice a X.length cap, .int .i64 (deep : Int)] W fun e w' => ∃ v T Z, e = .returned v ∧ Kp (KMem w' T v) ∧ Kp (T.pl.Perm X ∧ KD (fun d i => crd (L.getD i pt0) d) deep T ∧ Z.Perm X) ∧ Kp (Box w' gb (P ++ natV Z ++ Q).toArray 3) ∧ Kp (W.grownBy w' (some gb))

theorem run_back (gb off n1 cap mid : Nat) (hm : mid + 1 ≤ n1) (hc : n1 ≤ cap) (hcm : cap ≤ 9223372036854775807) : ∃ ra, (n1 - (mid + 1) = 0 ∨ ra = some ⟨gb, off + (mid + 1), none⟩) ∧ ∀ w, (Instr.slice 37 (.slice (some ⟨gb, off, none⟩) n1 cap) (some (.int .i64 ((mid : Int) + 1))) none none).run Tryz.prog w = .ok (.slice ra (n1 - (mid + 1)) (cap - (mid + 1))) w := by
  by_cases h : cap = mid + 1
  · refine ⟨some ⟨gb, off, none⟩, .inl (by omega), fun w => ?_⟩
    subst h
    obtain rfl : n1 = mid + 1 := by omega
    simp [go_sem, Tryz.underlying37]
    intro h5; omega
  · refine ⟨some ⟨gb, off + (mid + 1), none⟩, .inr rfl, fun w => ?_⟩
    have h1 : ¬ (n1 : Int) < (mid : Int) + 1 := by omega
    have h3 : ((mid : Int) + 1).toNat = mid + 1 := by omega
    simp [go_sem, Tryz.underlying37, h, h1, h3]
    intro h5; omega

set_option maxRecDepth 100000 in
set_option maxHeartbeats 4000000 in
theorem grow_zero (gb : Nat) (pa : Option Addr) (n pcap : Nat) (L : List Pt) (X : List Nat) (P Q : List Value) (deep off cap : Nat) (a : Option Addr) (W : World) (hX : X = []) (hb : Box W gb (P ++ natV X ++ Q).toArray 3) :
    Calls Tryz.prog 93 #[.slice pa n pcap, .slice a X.length cap, .int .i64 (deep : Int)] W fun e w' => ∃ v T Z, e = .returned v ∧ Kp (KMem w' T v) ∧ Kp (T.pl.Perm X ∧ KD (fun d i => crd (L.getD i pt0) d) deep T ∧ Z.Perm X) ∧ Kp (Box w' gb (P ++ natV Z ++ Q).toArray 3) ∧ Kp (W.grownBy w' (some gb)) := by
  subst hX
  have hal := (below_alloc (Nat.le_refl W.heap.size) (.cells #[.slice pa n pcap] 43)).alloc (by rw [alloc_size]; omega) (.cells #[.int .i64 (deep : Int)] 3)
  have HB := Kp.mk (hb.below hal)
  have HG := Kp.mk (grown_of_below (r := some gb) hal)
  show Calls _ _ #[.slice pa n pcap, .slice a 0 cap, .int .i64 (deep : Int)] _ _
  clear hb hal
  go_enter Tryz.func93, Tryz.ntmps93
  go_wp2
  go_ret
  exact ⟨_, .nil, [], rfl, ⟨rfl⟩, ⟨List.Perm.refl _, trivial, List.Perm.refl _⟩, HB, HG⟩

theorem split_mid (Z : List Nat) (mid : Nat) (h : mid < Z.length) : Z = Z.take mid ++ Z.getD mid 0 :: Z.drop (mid + 1) := by
  rw [getD_at Z 0 h]
  have h1 := List.take_succ_eq_append_getElem h
  have h2 := List.take_append_drop (mid + 1) Z
  rw [h1] at h2
  rw [List.append_assoc] at h2
  exact h2.symm
theorem sorted_kd {c : Nat → Int} {Z : List Nat} {mid : Nat} (hm : mid < Z.length) (h : ∀ i j, i < j → j < Z.length → ¬ cmpK c (Z.getD j 0) (Z.getD i 0) < 0) : (∀ y ∈ Z.take mid, c y ≤ c (Z.getD mid 0)) ∧ ∀ y ∈ Z.drop (mid + 1), c (Z.getD mid 0) ≤ c y := by
  refine ⟨fun y hy => ?_, fun y hy => ?_⟩
  · obtain ⟨i, hi, e⟩ := List.getElem_of_mem hy
    rw [List.length_take] at hi
    rw [List.getElem_take] at e
    have := h i mid (by omega) hm
    rw [cmpK_neg, getD_at Z 0 (show i < Z.length by omega), e] at this
    omega
  · obtain ⟨i, hi, e⟩ := List.getElem_of_mem hy
    rw [List.length_drop] at hi
    rw [List.getElem_drop] at e
    have := h mid (mid + 1 + i) (by omega) (by omega)
    rw [cmpK_neg, getD_at Z 0 (show mid + 1 + i < Z.length by omega), e] at this
    omega

set_option maxRecDepth 100000 in
set_option maxHeartbeats 8000000 in
theorem grow_step (gb : Nat) (pa : Option Addr) (n pcap : Nat) (L : List Pt) (hL : L.length = n) (hn : n ≤ 200) (N : Nat) (ih : GrowOk gb pa n pcap L N) : GrowOk gb pa n pcap L (N + 1) := by
  intro X P Q deep off cap a W hXN hXn hP ha hXc hcm hb hpts hpg hdp
  by_cases hX0 : X = []
  · exact grow_zero gb pa n pcap L X P Q deep off cap a W hX0 hb
  have ha' : a = some ⟨gb, off, none⟩ := ha.resolve_left hX0
  subst ha'
  have hXpos : 0 < X.length := List.length_pos_iff.2 hX0
  obtain ⟨n', hn'⟩ : ∃ n', n = n' + 1 := ⟨n - 1, by
    have : 0 < n := by
      have := hXn _ (List.getElem_mem hXpos)
      omega
    omega⟩
  unfold maxLen at hcm
  have hgl := hb.lt
  have hal := (below_alloc (Nat.le_refl W.heap.size) (.cells #[.slice pa n pcap] 43)).alloc (by rw [alloc_size]; omega) (.cells #[.int .i64 (deep : Int)] 3)
  obtain ⟨W1, hW1⟩ : ∃ W1, W.alloc (.cells #[.slice pa n pcap] 43) = W1 := ⟨_, rfl⟩
  have hx3 : Box W1 W.heap.size #[.slice pa n pcap] 43 := by rw [← hW1]; exact Box.new _ _ _
  have hs1 : W1.heap.size = W.heap.size + 1 := by rw [← hW1, alloc_size]
  rw [hW1] at hal
  obtain ⟨W2, hW2⟩ : ∃ W2, W1.alloc (.cells #[.int .i64 (deep : Int)] 3) = W2 := ⟨_, rfl⟩
  have hx5 : Box W2 (W.heap.size + 1) #[.int .i64 (deep : Int)] 3 := by rw [← hW2, ← hs1]; exact Box.new _ _ _
  have hx3' : Box W2 W.heap.size #[.slice pa n pcap] 43 := by rw [← hW2]; exact hx3.alloc _
  rw [hW2] at hal
  have hb2 := hb.below hal
  have hp2 := hpts.below hal
  have h3g : W.heap.size ≠ gb := by omega
  have h5g : W.heap.size + 1 ≠ gb := by omega
  have CS := Kp.mk (sort_win 107 #[.pointer (some ⟨W.heap.size, 0, none⟩), .pointer (some ⟨W.heap.size + 1, 0, none⟩)] (fun i => crd (L.getD i pt0) deep) n' gb off cap P Q X W2 (fun x hx => by have := hXn x hx; omega) (by omega) hP hb2 (enters_of Tryz.func107 (by kernel_rfl) rfl)
    (fun w' hg x y hx hy => growOrd_any W.heap.size (W.heap.size + 1) pa pcap n x y deep L w' (hp2.keep hg (fun k hk => by cases hk; exact hpg)) (by omega) ((box_grow hx3' hg (by simp; omega)).cell 0 rfl) ((box_grow hx5 hg (by simp; omega)).cell 0 rfl) (by omega) (by omega) (by omega)))
  have H3G := Kp.mk (show (some gb : Option Nat) ≠ some W.heap.size by simp; omega)
  have H5G := Kp.mk (show (some gb : Option Nat) ≠ some (W.heap.size + 1) by simp; omega)
  have HX3 := Kp.mk hx3'
  have HX5 := Kp.mk hx5
  have HP2 := Kp.mk hp2
  have HAL := Kp.mk hal
  have HPG := Kp.mk hpg
  have HP := Kp.mk hP
  have HIH := Kp.mk ih
  have HXN := Kp.mk hXn
  have HLL := Kp.mk hL
  obtain ⟨n1, hn1⟩ : ∃ n1, X.length = n1 := ⟨_, rfl⟩
  have HN1 := Kp.mk hn1
  rw [hn1] at hXN hXc hdp hXpos CS ⊢
  obtain ⟨b3, hb3⟩ : ∃ b3, W.heap.size = b3 := ⟨_, rfl⟩
  have HS2 := Kp.mk (show W2.heap.size = W.heap.size + 1 + 1 by rw [← hW2, alloc_size, hs1])
  have HS1 := Kp.mk hs1
  have t0 : ¬ n1 = 0 := by omega
  have hnz : ((n1 : Int) == 0) = false := by rw [beq_eq_false_iff_ne]; omega
  clear hn1 hx3 hx3' hx5 hp2 hal hpg hP ih hXn hL hb hb2 hpts hX0 ha hs1 hn' hgl hb3
  go_enter Tryz.func93, Tryz.ntmps93
  go_wp2_with fail
  rw [HS1.out]
  refine CS.out.mono ?_
  rintro e w3 ⟨rfl, Z, HZ, HBX, HG⟩
  clear CS hW1 hW2 h3g h5g
  have HZ' := Kp.mk (show Z.Perm X ∧ ∀ i j, i < j → j < Z.length → ¬ cmpK (fun i => crd (L.getD i pt0) deep) (Z.getD j 0) (Z.getD i 0) < 0 from ⟨HZ.out.1, fun i j h1 h2 => by have := HZ.out.2 i j h1 h2; omega⟩)
  have HZL := Kp.mk (show Z.length = n1 by rw [HZ'.out.1.length_eq]; exact HN1.out)
  obtain ⟨mid, hmid⟩ : ∃ mid, n1 / 2 = mid := ⟨_, rfl⟩
  have hm1 : mid < n1 := by omega
  have HQ := Kp.mk (show (n1 : Int) / 2 = (mid : Int) by omega)
  obtain ⟨ra, hra, hsl⟩ := run_back gb off n1 cap mid hm1 hXc hcm
  have hsl1 : ∀ w, (Instr.slice 37 (.slice (some ⟨gb, off, none⟩) n1 cap) none (some (.int .i64 (mid : Int))) none).run Tryz.prog w = .ok (.slice (some ⟨gb, off, none⟩) mid cap) w := fun w => by
    simp [go_sem, Tryz.underlying37]
    omega
  have HRA := Kp.mk hra
  have hsp := split_mid Z mid (by rw [HZL.out]; exact hm1)
  have HKD := Kp.mk (sorted_kd (c := fun i => crd (L.getD i pt0) deep) (by rw [HZL.out]; exact hm1) HZ'.out.2)
  obtain ⟨z, hz⟩ : ∃ z, Z.getD mid 0 = z := ⟨_, rfl⟩
  have hz1 : (Z.take mid).length = mid := by rw [List.length_take, HZL.out]; omega
  have hz2 : (Z.drop (mid + 1)).length = n1 - (mid + 1) := by rw [List.length_drop, HZL.out]
  rw [hz] at hsp HKD
  obtain ⟨Z1, hZ1⟩ : ∃ Z1, Z.take mid = Z1 := ⟨_, rfl⟩
  obtain ⟨Z2, hZ2⟩ : ∃ Z2, Z.drop (mid + 1) = Z2 := ⟨_, rfl⟩
  rw [hZ1, hZ2] at hsp HKD
  rw [hZ1] at hz1
  rw [hZ2] at hz2
  have HZX := Kp.mk (show (Z1 ++ z :: Z2).Perm X from by rw [← hsp]; exact HZ'.out.1)
  have HZN := Kp.mk (show ∀ x ∈ Z1 ++ z :: Z2, x < n from fun x hx => HXN.out x (HZX.out.mem_iff.1 hx))
  have HBZ := Kp.mk (show Box w3 gb (P ++ natV Z1 ++ (.int .i64 (z : Int) :: (natV Z2 ++ Q))).toArray 3 from by
    have h := HBX.out
    rw [hsp, natV_app] at h
    have e : P ++ (natV Z1 ++ natV (z :: Z2)) ++ Q = P ++ natV Z1 ++ (.int .i64 (z : Int) :: (natV Z2 ++ Q)) := by
      simp [natV]
    rwa [e] at h)
  have cz : w3.cell? ⟨gb, off + mid, none⟩ = some (.int .i64 (z : Int)) := HBZ.out.cell (off + mid) (by
    rw [List.getElem?_toArray, List.getElem?_append_right (by rw [List.length_append, natV_len, hz1, HP.out]; exact Nat.le_refl _), List.length_append, natV_len, hz1, HP.out, Nat.sub_self]; rfl)
  have c3 : w3.cell? ⟨W.heap.size, 0, none⟩ = some (.slice pa n pcap) := (box_grow HX3.out HG.out H3G.out).cell 0 rfl
  have c5 : w3.cell? ⟨W.heap.size + 1, 0, none⟩ = some (.int .i64 (deep : Int)) := (box_grow HX5.out HG.out H5G.out).cell 0 rfl
  have HPT3 := Kp.mk (show SlF ptL 3 w3 pa n pcap L from SlC.keep HP2.out HG.out (fun k hk => by cases hk; exact HPG.out))
  have HB3L := Kp.mk (show W.heap.size < W2.heap.size ∧ W.heap.size + 1 < W2.heap.size by rw [HS2.out]; omega)
  have HDC := Kp.mk (show ((deep + 1 : Nat) : Int) = (deep : Int) + 1 by omega)
  have C1 := Kp.mk (show Calls Tryz.prog 93 #[.slice pa n pcap, .slice (some ⟨gb, off, none⟩) mid cap, .int .i64 ((deep : Int) + 1)] w3.drew (fun e w' => ∃ v T Y, e = .returned v ∧ Kp (KMem w' T v) ∧ Kp (T.pl.Perm Z1 ∧ KD (fun d i => crd (L.getD i pt0) d) (deep + 1) T ∧ Y.Perm Z1) ∧ Kp (Box w' gb (P ++ natV Y ++ (.int .i64 (z : Int) :: (natV Z2 ++ Q))).toArray 3) ∧ Kp (w3.drew.grownBy w' (some gb))) from by
    have h := HIH.out Z1 P (.int .i64 (z : Int) :: (natV Z2 ++ Q)) (deep + 1) off cap (some ⟨gb, off, none⟩) w3.drew (by omega) (fun x hx => HZN.out x (by simp [hx])) HP.out (.inr rfl) (by omega) (by unfold maxLen; omega) (HBZ.out.below (Below.refl _ _).drew) (HPT3.out.below (Below.refl _ _).drew) HPG.out (by omega)
    rw [HDC.out, hz1] at h
    exact h)
  have C2 := Kp.mk (fun (w4 : World) (Y : List Nat) (hY : Y.Perm Z1) (hB : Box w4 gb (P ++ natV Y ++ (.int .i64 (z : Int) :: (natV Z2 ++ Q))).toArray 3) (hG : w3.drew.grownBy w4 (some gb)) => show Calls Tryz.prog 93 #[.slice pa n pcap, .slice ra (n1 - (mid + 1)) (cap - (mid + 1)), .int .i64 ((deep : Int) + 1)] w4 (fun e w' => ∃ v T Y2, e = .returned v ∧ Kp (KMem w' T v) ∧ Kp (T.pl.Perm Z2 ∧ KD (fun d i => crd (L.getD i pt0) d) (deep + 1) T ∧ Y2.Perm Z2) ∧ Kp (Box w' gb (P ++ natV (Y ++ z :: Y2) ++ Q).toArray 3) ∧ Kp (w4.grownBy w' (some gb))) from by
    have hYL : Y.length = mid := by rw [hY.length_eq]; exact hz1
    have e1 : ∀ V : List Nat, P ++ natV Y ++ (.int .i64 (z : Int) :: (natV V ++ Q)) = (P ++ natV (Y ++ [z])) ++ natV V ++ Q := fun V => by simp [natV]
    rw [e1] at hB
    have h := HIH.out Z2 (P ++ natV (Y ++ [z])) Q (deep + 1) (off + (mid + 1)) (cap - (mid + 1)) ra w4 (by omega) (fun x hx => HZN.out x (by simp [hx])) (by rw [List.length_append, natV_len, HP.out]; simp [hYL]) (HRA.out.imp_left (fun h => List.eq_nil_of_length_eq_zero (by rw [hz2]; exact h))) (by omega) (by unfold maxLen; omega) hB (SlC.keep (HPT3.out.below (Below.refl _ _).drew) hG (fun k hk => by cases hk; exact HPG.out)) HPG.out (by omega)
    rw [HDC.out, hz2] at h
    refine h.mono ?_
    rintro e w' ⟨v, T, Y2, h1, h2, h3, h4, h5⟩
    refine ⟨v, T, Y2, h1, h2, h3, ⟨?_⟩, h5⟩
    have h6 := h4.out
    have e2 : P ++ natV (Y ++ [z]) ++ natV Y2 ++ Q = P ++ natV (Y ++ z :: Y2) ++ Q := by simp [natV]
    rwa [e2] at h6)
  have e1 : IntKind.i64.wrap ((deep : Int) + 1) = (deep : Int) + 1 := IntWalk.i64_in _ (by omega)
  have e2 : IntKind.i64.wrap ((mid : Int) + 1) = (mid : Int) + 1 := IntWalk.i64_in _ (by omega)
  have hmz : (mid : Int) < n1 := by omega
  clear hra hsp hz hZ1 hZ2 hz2 hmid HZ HBX
  have HSF := Kp.mk (fun (w' : World) (Y : List Nat) (V : List Value) (hY : Y.length = mid) (hB : Box w' gb (P ++ natV Y ++ (.int .i64 (z : Int) :: V)).toArray 3) (hg : w3.drew.grownBy w' (some gb)) => show w'.cell? ⟨gb, off + mid, none⟩ = some (.int .i64 (z : Int)) ∧ w'.cell? ⟨W.heap.size, 0, none⟩ = some (.slice pa n pcap) ∧ w'.cell? ⟨W.heap.size + 1, 0, none⟩ = some (.int .i64 (deep : Int)) from
    ⟨hB.cell (off + mid) (by
      rw [List.getElem?_toArray, List.getElem?_append_right (by rw [List.length_append, natV_len, hY, HP.out]; exact Nat.le_refl _), List.length_append, natV_len, hY, HP.out, Nat.sub_self]; rfl),
     (box_grow ((box_grow HX3.out HG.out H3G.out).below (Below.refl _ _).drew) hg H3G.out).cell 0 rfl, (box_grow ((box_grow HX5.out HG.out H5G.out).below (Below.refl _ _).drew) hg H5G.out).cell 0 rfl⟩)
  have HZ1L := Kp.mk hz1
  have HAP := Kp.mk (show ∀ Y V : List Nat, P ++ natV (Y ++ z :: V) ++ Q = P ++ natV Y ++ (.int .i64 (z : Int) :: (natV V ++ Q)) from fun Y V => by simp [natV])
  clear hz1
  go_upto_region 5 with (fail)
  rw [HQ.out]
  go_region_held3 (fun w' => w'.cell? ⟨gb, off + mid, none⟩ = some (.int .i64 (z : Int)) ∧ w'.cell? ⟨W.heap.size, 0, none⟩ = some (.slice pa n pcap) ∧ w'.cell? ⟨W.heap.size + 1, 0, none⟩ = some (.int .i64 (deep : Int)))
    (first | exact ⟨cz, c3, c5⟩ | exact hS4 | exact hS5 | go_keep)
    ((first
      | (go_at_call 93; (with_reducible refine C1.out.mono ?_); rintro e w4 ⟨v1, T1, Y1, rfl, HM1, HT1, HB1, HG1⟩; obtain ⟨p1, rfl⟩ := kmem_ptr T1 HM1.out; have hS4 : w4.cell? ⟨gb, off + mid, none⟩ = some (.int .i64 (z : Int)) ∧ w4.cell? ⟨W.heap.size, 0, none⟩ = some (.slice pa n pcap) ∧ w4.cell? ⟨W.heap.size + 1, 0, none⟩ = some (.int .i64 (deep : Int)) := HSF.out w4 Y1 _ (by rw [HT1.out.2.2.length_eq]; exact HZ1L.out) HB1.out HG1.out)
      | (go_at_call 93; refine (C2.out w4 Y1 HT1.out.2.2 HB1.out HG1.out).mono ?_; rintro e w5 ⟨v2, T2, Y2, rfl, HM2, HT2, HB2, HG2⟩; obtain ⟨p2, rfl⟩ := kmem_ptr T2 HM2.out; have hS5 : w5.cell? ⟨gb, off + mid, none⟩ = some (.int .i64 (z : Int)) ∧ w5.cell? ⟨W.heap.size, 0, none⟩ = some (.slice pa n pcap) ∧ w5.cell? ⟨W.heap.size + 1, 0, none⟩ = some (.int .i64 (deep : Int)) := HSF.out w5 Y1 (natV Y2 ++ Q) (by rw [HT1.out.2.2.length_eq]; exact HZ1L.out) (by rw [← HAP.out]; exact HB2.out) (grown_trans HG1.out HG2.out))
      | fail))
  all_goals
    have HBF := Kp.mk (show Box (w5.alloc (.cells #[.int .i64 (z : Int), .pointer p1, .pointer p2] 179)) gb (P ++ natV (Y1 ++ z :: Y2) ++ Q).toArray 3 from HB2.out.alloc _)
    have HMF := Kp.mk (show KMem (w5.alloc (.cells #[.int .i64 (z : Int), .pointer p1, .pointer p2] 179)) (.node z T1 T2) (.pointer (some ⟨w5.heap.size, 0, none⟩)) from
      ⟨w5.heap.size, .pointer p1, .pointer p2, rfl, Box.new _ _ _, (KMem.map (fun b cs hx => box_grow hx HG2.out (fun e => by cases e; exact box_box hx HB1.out (by decide) rfl)) T1 _ HM1.out).below (below_alloc (Nat.le_refl _) _), HM2.out.below (below_alloc (Nat.le_refl _) _)⟩)
    have HTF := Kp.mk (show (KT.node z T1 T2).pl.Perm X ∧ KD (fun d i => crd (L.getD i pt0) d) deep (.node z T1 T2) ∧ (Y1 ++ z :: Y2).Perm X from by
      refine ⟨?_, ⟨fun y hy => HKD.out.1 y (HT1.out.1.mem_iff.1 hy), fun y hy => HKD.out.2 y (HT2.out.1.mem_iff.1 hy), HT1.out.2.1, HT2.out.2.1⟩, ?_⟩
      · refine List.Perm.trans ?_ HZX.out
        exact (List.Perm.cons z (HT1.out.1.append HT2.out.1)).trans List.perm_middle.symm
      · exact (HT1.out.2.2.append (HT2.out.2.2.cons z)).trans HZX.out)
    have HGF := Kp.mk (show W.grownBy (w5.alloc (.cells #[.int .i64 (z : Int), .pointer p1, .pointer p2] 179)) (some gb) from
      grown_trans (grown_of_below (r := some gb) HAL.out) (grown_trans (grown_drew HG.out) (grown_trans HG1.out (grown_trans HG2.out (grown_of_below (below_alloc (Nat.le_refl _) _))))))
    clear C1 C2 HSF hS4 hS5 hsl hsl1 cz c3 c5
    go_wp2
    go_ret
    exact ⟨_, .node z T1 T2, Y1 ++ z :: Y2, rfl, HMF, HTF, HBF, HGF⟩

theorem grow_any (gb : Nat) (pa : Option Addr) (n pcap : Nat) (L : List Pt) (hL : L.length = n) (hn : n ≤ 200) : ∀ N, GrowOk gb pa n pcap L N
  | 0 => fun X P Q deep off cap a W hXN _ _ _ _ _ hb _ _ _ => grow_zero gb pa n pcap L X P Q deep off cap a W (List.eq_nil_of_length_eq_zero (by omega)) hb
  | N + 1 => grow_step gb pa n pcap L hL hn N (grow_any gb pa n pcap L hL hn N)

end Go.Proofs.YtladgklnacihkaaGreat

/- slices.SortFunc on what was found: the walk. -/
namespace Go.Proofs.YtladgklnacihkaaGreat
set_option linter.unusedVariables false
open Go.RowKit Go.Sort Go.Lib
open Hp (nlt nlt_iff nlt_not)

def encP (q : Int × Int) : List Value := [.int .i64 q.1, .int .i64 q.2]
theorem encP_len (q : Int × Int) : (encP q).length = 2 := rfl
theorem encP_one (q : Int × Int) : ∀ v ∈ encP q, v.oneCell' = true := by
  intro v hv
  simp only [encP, List.mem_cons, List.not_mem_nil, or_false] at hv
  rcases hv with rfl | rfl <;> rfl
def cfP (a b : Int × Int) : Int := cmpN a.1 a.2 b.1 b.2
theorem swoP : SWO (ltOf cfP) where
  irrefl x := by unfold ltOf cfP; rw [decide_eq_false_iff_not, cmpN_neg]; omega
  trans x y z h1 h2 := by unfold ltOf cfP at *; rw [decide_eq_true_eq, cmpN_neg] at *; omega
  ntrans x y z h1 h2 := by unfold ltOf cfP at *; rw [decide_eq_false_iff_not, cmpN_neg] at *; omega
def prF (far : Nat → Int) (p : Nat) : Int × Int := (far p, (p : Int))
theorem flat_pr (far : Nat → Int) (X : List Nat) : flat encP (X.map (prF far)) = flat (fdL far) X := by
  unfold flat
  rw [List.flatMap_map]
  rfl
theorem perm_pr {far : Nat → Int} {X : List Nat} {M : List (Int × Int)} (h : M.Perm (X.map (prF far))) : ∃ X' : List Nat, X'.Perm X ∧ M = X'.map (prF far) := by
  refine ⟨M.map (fun q => q.2.toNat), ?_, ?_⟩
  · have h1 := h.map (fun q => q.2.toNat)
    rw [List.map_map] at h1
    have e : X.map ((fun q : Int × Int => q.2.toNat) ∘ prF far) = X := by
      conv => rhs; rw [← List.map_id X]
      apply List.map_congr_left
      intro x _
      simp [prF]
    rwa [e] at h1
  · rw [List.map_map]
    conv => lhs; rw [← List.map_id M]
    apply List.map_congr_left
    intro q hq
    obtain ⟨x, _, rfl⟩ := List.mem_map.1 (h.mem_iff.1 hq)
    simp [prF]

theorem nodup_ne {N : List Nat} (h : N.Nodup) {i j : Nat} (hi : i < N.length) (hj : j < N.length) (hij : i < j) : N[i] ≠ N[j] := List.pairwise_iff_getElem.1 h i j hi hj hij

set_option maxRecDepth 100000 in
set_option maxHeartbeats 2000000 in
theorem ksort_any (far : Nat → Int) (X : List Nat) (B n c : Nat) (a : Option Addr) (w : World) (hl : X.length = n) (h0 : 0 < n) (hn : n ≤ 1000) (hnd : X.Nodup) (h : w.ownsRow B 163 2 (.slice a n c) n (flat (fdL far) X)) :
    Calls Tryz.prog 95 #[.slice a n c, .func (.func 96) #[] #[]] w fun e w' => e = .returned (.tuple #[]) ∧ ∃ X' : List Nat, Kp (X'.Perm X ∧ X'.Pairwise (fun a b => nlt far a b = true)) ∧ Kp (w'.ownsRow B 163 2 (.slice a n c) n (flat (fdL far) X')) ∧ Kp (w.grownBy w' (blk a)) := by
  obtain ⟨gb, rfl, hg, hg2⟩ := own_some h h0
  rcases h.2 with ⟨hv, _⟩ | ⟨g', cap', cur, hv, hB', hgb, h1, h2, h3, h4⟩
  · cases hv
  simp only [Value.slice.injEq, Option.some.injEq, Addr.mk.injEq, and_true, true_and] at hv
  obtain ⟨rfl, rfl⟩ := hv
  have hs : (X.map (prF far)).toArray.size = n := by simp [hl]
  have hH : HoldsK encP 2 w gb 0 (X.map (prF far)).toArray := holds_cells hgb (by
    rw [flatK_flat encP_len (by omega), size_flatK, hs]
    rw [show (X.map (prF far)).toArray.toList = X.map (prF far) from rfl, flat_pr]
    exact h4)
  have hC : CmpLays Tryz.prog 96 #[] encP 2 cfP gb 0 (X.map (prF far)).toArray.size w := by
    intro m os dk hk x y
    exact order_any x.1 x.2 y.1 y.2 _
  have e14 : ∀ args w, (callFunc 96 args).run Tryz.prog w = .ok (.enter 96 args) w := enters_of Tryz.func96 (by kernel_rfl) rfl
  have hlim : Lib.bitLen n < 4611686018427387904 := Nat.lt_of_le_of_lt (Lib.bitLen_le n 62 (by omega) (by omega)) (by omega)
  have hp := AnyQ.pdqsortCmpFunc_all Tryz.pdqFnd 2 (fun w => by kernel_rfl) (fun w => by kernel_rfl) encP cfP 96 #[] swoP gb 0 c (X.map (prF far)).toArray w e14 hC ⟨encP_len, encP_one, hH, hg2⟩ (n + 1) 0 n (Lib.bitLen n) (X.map (prF far)).toArray w (by omega) rfl (SWK.start hH) (Nat.zero_le _) (by omega) (by omega) hlim (Or.inl rfl)
  rw [hs] at hp
  have HP := Kp.mk (show Calls Tryz.prog 112 #[.slice (some ⟨gb, 0, none⟩) n c, .int .i64 0, .int .i64 (n : Int), .int .i64 (Lib.bitLen n), .func (.func 96) #[] #[]] w _ from hp)
  have HL := Kp.mk (show Calls Tryz.prog 47 #[.int .u64 (n : Int)] w (fun e w' => e = .returned (.int .i64 (Lib.bitLen n)) ∧ w' = w) from by
    have h := Tryz.bits_Len (n : Int) w (by omega) (by omega)
    rwa [Int.toNat_natCast] at h)
  have wr : IntKind.u64.wrap (n : Int) = n := by simp [IntKind.wrap, IntKind.bits, IntKind.signed]; omega
  have hd := pdq_sorts (ltOf cfP) swoP (X.map (prF far)).toArray 0 n (Lib.bitLen n) true true (Nat.zero_le _) (by omega) (Or.inl rfl)
  have HF := Kp.mk (fun (q : Nat) (os : Array Obj) => show ∃ X' : List Nat, Kp (X'.Perm X ∧ X'.Pairwise (fun a b => nlt far a b = true)) ∧ Kp ((sortWorldK encP 2 w gb 0 q (pdq (ltOf cfP) (X.map (prF far)).toArray 0 n (Lib.bitLen n) true true) os).ownsRow B 163 2 (.slice (some ⟨gb, 0, none⟩) n c) n (flat (fdL far) X')) ∧ Kp (w.grownBy (sortWorldK encP 2 w gb 0 q (pdq (ltOf cfP) (X.map (prF far)).toArray 0 n (Lib.bitLen n) true true) os) (blk (some ⟨gb, 0, none⟩))) from by
    generalize pdq (ltOf cfP) (X.map (prF far)).toArray 0 n (Lib.bitLen n) true true = d' at *
    have hsz : d'.size = n := by rw [hd.1.1, hs]
    have hperm : d'.toList.Perm (X.map (prF far)) := by
      have := hd.1.2.2
      rw [ext_arr d' _ hsz, ext_arr (X.map (prF far)).toArray _ hs] at this
      exact this
    obtain ⟨X', hx1, hx2⟩ := perm_pr hperm
    refine ⟨X', ⟨hx1, ?_⟩, ⟨?_⟩, ⟨grownBy_cells _⟩⟩
    · refine List.pairwise_iff_getElem.2 fun i j hi hj hij => ?_
      have hl' : X'.length = n := by rw [hx1.length_eq, hl]
      have h5 := hd.2 i j (Nat.zero_le _) hij (by omega)
      unfold ltOf cfP at h5
      rw [decide_eq_false_iff_not, getElem!_pos d' j (by omega), getElem!_pos d' i (by omega)] at h5
      have e1 : ∀ k (h : k < d'.size) (h2 : k < X'.length), d'[k] = prF far (X'[k]) := fun k h h2 => by
        have : d'.toList[k]'(by rw [Array.length_toList]; exact h) = (X'.map (prF far))[k]'(by rw [List.length_map]; exact h2) := by simp only [hx2]
        rw [List.getElem_map] at this
        rw [← this, Array.getElem_toList]
      rw [e1 j (by omega) hj, e1 i (by omega) hi, cmpN_neg] at h5
      have hne : X'[i] ≠ X'[j] := fun e => by
        have := nodup_ne (hx1.nodup_iff.2 hnd) hi hj hij
        exact this e
      rw [nlt_iff]
      simp only [prF] at h5
      omega
    · have h6 := own_cells (w := w) (base := B) (g := gb) (cap := c) (n := q) (m := n) (size := 2) (e := 163) (os := os) (cur := cur) (flatK encP 2 d') (by rw [size_flatK, hsz]) hB' hgb h1 h2 h3
      rw [flatK_flat encP_len (by omega), hx2, flat_pr] at h6
      exact h6)
  clear h hg hg2 hB' hgb h1 h2 h3 h4 hH hC hp hd hlim hs
  go_enter Tryz.func95, Tryz.ntmps95
  go_wp2_with (first | (go_at_call 47; refine HL.out.mono ?_; rintro e w' ⟨rfl, rfl⟩) | (go_at_call 112; refine HP.out.mono ?_; rintro e w' ⟨rfl, q, os, rfl⟩) | fail)
  go_end0
  exact ⟨rfl, HF.out q os⟩

end Go.Proofs.YtladgklnacihkaaGreat

/- near.Nearest: the walk. -/
namespace Go.Proofs.YtladgklnacihkaaGreat
set_option linter.unusedVariables false
open Go.RowKit
open Hp (nlt Best KT KD HeapF IsNear)

theorem info_kp : (Tryz.prog.info? 156).map (fun i => (i.zero, i.size)) = some (some (.slice none 0 0), 1) := by kernel_rfl
set_option maxHeartbeats 1000000 in
theorem nnear_any (x : Int) (w : World) (h : -1048576 ≤ x ∧ x ≤ 1048576) : Calls Tryz.prog 92 #[.int .i64 x] w fun e w' => e = .returned (.bool true) ∧ w = w' := by
  obtain ⟨h1, h2⟩ := h
  have t1 : decide (x ≥ -1048576) = true := decide_eq_true h1
  have t2 : decide (x ≤ 1048576) = true := decide_eq_true h2
  go_enter Tryz.func92, Tryz.ntmps92
  go_wp2
  go_ret
  exact ⟨by simp, rfl⟩
theorem range_snoc (k : Nat) : natV (List.range k) ++ [.int .i64 (k : Int)] = natV (List.range (k + 1)) := by
  rw [List.range_succ, natV_app]; rfl
theorem best_start {far : Nat → Int} {k n : Nat} {T : KT} {K : List Nat} (hT : T.pl.Perm (List.range n)) (h : Best far k (T.pl ++ []) K) : K.Nodup ∧ K.length = min k n ∧ ∀ out, out.Perm K → out.Pairwise (fun a b => nlt far a b = true) → IsNear far n k out := by
  rw [List.append_nil] at h
  refine ⟨h.nd, by rw [h.len, hT.length_eq, List.length_range], fun out ho hw => Hp.near_of hT h ho hw⟩

theorem heap_nil (far : Nat → Int) : HeapF (hlt far) [] ([] : List Nat).length 0 := fun k h0 hk _ => by simp at hk
theorem own_box {w : World} {B n c g : Nat} {X : List Nat} (h : w.ownsRow B 3 1 (.slice (some ⟨g, 0, none⟩) n c) n (natV X)) (hX : X.length = n) : ∃ Q, Box w g ([] ++ natV X ++ Q).toArray 3 := by
  rcases h.2 with ⟨hv, _⟩ | ⟨g', cap', cur, hv, _, hg, _, _, _, h4⟩
  · cases hv
  · simp only [Value.slice.injEq, Option.some.injEq, Addr.mk.injEq, and_true, true_and] at hv
    obtain ⟨rfl, rfl⟩ := hv
    refine ⟨cur.toList.drop n, ?_⟩
    have e : ([] ++ natV X ++ cur.toList.drop n).toArray = cur := by
      rw [Nat.mul_one] at h4
      rw [List.nil_append, ← h4, List.take_append_drop]
    rw [e]; exact hg

attribute [local irreducible] HeapF
set_option maxRecDepth 100000 in
set_option maxHeartbeats 8000000 in
theorem nearest_any (a : Option Addr) (cap n k : Nat) (x y : Int) (L : List Pt) (w : World) (h : SlF ptL 3 w a n cap L) (hn0 : 0 < n) (hn : n ≤ 150) (hN : ∀ p ∈ L, p.Near) (hx : -1048576 ≤ x ∧ x ≤ 1048576) (hy : -1048576 ≤ y ∧ y ≤ 1048576) (hk0 : 0 < k) (hk : k ≤ 200) :
    Calls Tryz.prog 67 #[.slice a n cap, .int .i64 x, .int .i64 y, .int .i64 (k : Int)] w fun e w' => ∃ oa oc out, e = .returned (.tuple #[.slice oa (min k n) oc, .int .i64 0]) ∧ Kp (IsNear (fun i => fdist (L.getD i pt0) ⟨x, y, 0⟩) n k out) ∧ Kp (w'.ownsRow w.heap.size 3 1 (.slice oa (min k n) oc) (min k n) (natV out)) ∧ Kp (Below w.heap.size w w') := by
  have HL := Kp.mk (h.len ptL_len (by omega))
  have C0 := Kp.mk (gcheck_any a cap n L w h (by omega) hN)
  have CX := Kp.mk (fun W => nnear_any x W hx)
  have CY := Kp.mk (fun W => nnear_any y W hy)
  have H := Kp.mk h
  have HN := Kp.mk hN
  have HQ := Kp.mk (show NearXY (⟨x, y, 0⟩ : Pt) from ⟨hx, hy⟩)
  obtain ⟨far, hfar⟩ : ∃ far : Nat → Int, (fun i => fdist (L.getD i pt0) ⟨x, y, 0⟩) = far := ⟨_, rfl⟩
  have HFAR := Kp.mk hfar
  rw [hfar]
  have tk1 : ¬ ((k : Int) < 0) := by omega
  have tk2 : ((k : Int) == 0) = false := by rw [beq_eq_false_iff_ne]; omega
  have tk3 : ¬ k = 0 := by omega
  obtain ⟨m, hm⟩ : ∃ m, min k n = m := ⟨_, rfl⟩
  have HM := Kp.mk hm
  have hm0 : 0 < m := by omega
  have hmk : m ≤ 150 := by omega
  rw [hm]
  clear h hN hfar hx hy hm
  obtain ⟨B0, hB0⟩ : ∃ B0, w.heap.size = B0 := ⟨_, rfl⟩
  have HB0 := Kp.mk hB0
  rw [hB0]
  clear hB0
  go_enter Tryz.func67, Tryz.ntmps67
  go_wp2_with (first
    | (go_at_call 14; refine C0.out.mono ?_; rintro e w1 ⟨rfl, HB1⟩)
    | (go_at_call 92; with_reducible refine (CX.out _).mono ?_; rintro e w' ⟨rfl, rfl⟩)
    | (go_at_call 92; with_reducible refine (CY.out _).mono ?_; rintro e w' ⟨rfl, rfl⟩)
    | fail)
  clear CX CY C0
  go_loopw [11, 41] (fun v i wr => ∃ (j : Nat) (sa : Option Addr) (sc : Nat), j ≤ n ∧ i = .int .i64 j ∧ v = .slice sa j sc ∧ Kp (wr.ownsRow B0 3 1 (.slice sa j sc) j (natV (List.range j))) ∧ Kp (Below B0 w wr)) (fun _ i _ => n - (intOf i).toNat)
  case atStart => exact ⟨0, none, 0, Nat.zero_le _, rfl, rfl, ⟨World.ownsRow_nil _ _ _ _⟩, ⟨by rw [← HB0.out]; exact HB1.out⟩⟩
  case round =>
    obtain ⟨j, sa, sc, hj, rfl, rfl, HO, HBL⟩ := hrel
    have hBw : B0 ≤ wr.heap.size := by rw [← HB0.out]; exact HBL.out.size
    by_cases hjn : j < n
    · have HS := Kp.mk (range_snoc j)
      go_wp2_with (at_builtin; refine wpList_push tInts rfl _ _ rfl B0 sa j sc _ rfl HO.out 1 1 _ rfl rfl ?d1 (by decide) ?d2 (by decide) hBw ?d4)
      case d1 => simp [Value.oneCell']
      case d2 => omega
      case d4 =>
        intro sa' sc' w2 hown hbel
        have HO2 := Kp.mk (show w2.ownsRow B0 3 1 (.slice sa' (j + 1) sc') (j + 1) (natV (List.range (j + 1))) from by rw [← HS.out]; exact hown)
        have HB2 := Kp.mk (HBL.out.trans hbel)
        clear hown hbel HO HBL HS
        go_wp2
        go_roundw
        case rel => exact ⟨j + 1, sa', sc', by omega, by go_num, rfl, HO2, HB2⟩
        case measure => simp [intOf]; omega
    · obtain rfl : j = n := by omega
      obtain ⟨g, rfl, hgB, hgl⟩ := own_some HO.out hn0
      have hsc := (own_slc HO.out).le
      have hscm := (own_slc HO.out).capm
      obtain ⟨Q, hbx⟩ := own_box HO.out (by simp)
      have hbk : ∀ q, blk a = some q → q < B0 := fun q hq => by
        obtain ⟨q', hq', hlt'⟩ := SlC.lt H.out (by rw [flat_length ptL_len, HL.out]; omega)
        rw [hq] at hq'
        cases hq'
        rw [← HB0.out]; exact hlt'
      have hpa : blk a ≠ some g := fun e => by have := hbk g e; omega
      have hal := below_alloc (Nat.le_refl wr.heap.size) (.cells #[.slice none 0 0] 156)
      have hpts := (H.out.below (by rw [HB0.out]; exact HBL.out)).below hal
      have hx0 := Box.new wr #[.slice none 0 0] 156
      have CG := Kp.mk (grow_any g a j cap L HL.out (by omega) j (List.range j) [] Q 0 0 sc (some ⟨g, 0, none⟩) _ (by simp) (fun z hz => List.mem_range.1 hz) rfl (.inr rfl) (by simpa using hsc) hscm (hbx.below hal) hpts hpa (by simp; omega))
      rw [List.length_range] at CG
      have HX0 := Kp.mk hx0
      have HPT := Kp.mk hpts
      have HBK := Kp.mk (show ∀ q, blk a = some q → q < B0 from hbk)
      have HBW := Kp.mk (HBL.out.trans (hal.mono hBw))
      have HGB := Kp.mk (And.intro hgB hgl)
      obtain ⟨b0, hb0⟩ : ∃ b0, wr.heap.size = b0 := ⟨_, rfl⟩
      rw [hb0] at HX0 hBw HGB
      obtain ⟨w4, hw4⟩ : ∃ w4, wr.alloc (.cells #[.slice none 0 0] 156) = w4 := ⟨_, rfl⟩
      rw [hw4] at CG HX0 HPT HBW
      have HS4 := Kp.mk (show w4.heap.size = b0 + 1 by rw [← hw4, alloc_size, hb0])
      clear hbx hal hpts hx0 hpa hbk HO HBL H hsc hscm hgB hgl HB1
      go_wp2_with fail
      refine CG.out.mono ?_
      rintro e w5 ⟨v, T, Z, rfl, HKM, HT, HBZ, HG5⟩
      clear CG hw4 hb0
      have hne5 : (some g : Option Nat) ≠ some b0 := fun e => by cases e; have := HGB.out.2; omega
      have hx5 := box_grow HX0.out HG5.out hne5
      have hb5 : b0 < w5.heap.size := hx5.lt
      have HPL := Kp.mk (show ∀ q, blk a = some q → q < w5.heap.size ∧ q ≠ b0 from fun q hq => by have := HBK.out q hq; omega)
      have HP5 := Kp.mk (show SlF ptL 3 w5 a j cap L from SlC.keep HPT.out HG5.out (fun q hq => by cases hq; exact fun e => by have := HBK.out _ e; have := HGB.out.1; omega))
      have CSE := Kp.mk (show Calls Tryz.prog 94 #[v, .slice a j cap, .agg #[.int .i64 x, .int .i64 y, .int .i64 0], .int .i64 0, .int .i64 (k : Int), .pointer (some ⟨b0, 0, none⟩)] w5 (fun e w' => e = .returned (.tuple #[]) ∧ ∃ X', Kp (Best far k (T.pl ++ []) X' ∧ HeapF (hlt far) X' X'.length 0) ∧ Kp (KI b0 w5.heap.size far X' w') ∧ Kp (KeepF b0 w5.heap.size w5 w')) from by
        have h := nsearch_any b0 w5.heap.size a j cap k L ⟨x, y, 0⟩ HL.out (by omega) hk0 hk (fun p hp => (HN.out p hp).xy) HQ.out HPL.out T v 0 [] [] w5 HKM.out HP5.out HT.out.2.1 (by rw [List.append_nil]; exact HT.out.1.nodup_iff.2 List.nodup_range) (fun i hi => List.mem_range.1 (HT.out.1.mem_iff.1 hi)) (by rw [HT.out.1.length_eq, List.length_range]; omega)
          ⟨⟨none, 0, hx5, World.ownsRow_nil _ _ _ _⟩, hb5, Nat.le_refl _⟩ (Hp.best_nil _ _) (heap_nil _)
        rw [HFAR.out] at h
        exact h)
      have HTP := Kp.mk HT.out.1
      have HX5 := Kp.mk hx5
      have HB5 := Kp.mk hb5
      clear hne5 hx5 hb5 HKM HT HBZ HP5 HPL HPT
      go_wp2_with fail
      refine CSE.out.mono ?_
      rintro e w6 ⟨rfl, X6, HBT, HK6, HF6⟩
      clear CSE
      obtain ⟨hx6n, hx6l, HOUT⟩ := best_start HTP.out HBT.out.1
      rw [HM.out] at hx6l
      have HOU := Kp.mk HOUT
      obtain ⟨sa6, cap6, hb6, ho6⟩ := HK6.out.at_
      rw [hx6l] at hb6 ho6
      have CSO := Kp.mk (ksort_any far X6 w5.heap.size m cap6 sa6 w6 hx6l hm0 (by omega) hx6n ho6)
      have c6 : w6.cell? ⟨b0, 0, none⟩ = some (.slice sa6 m cap6) := hb6.cell 0 rfl
      have HB6 := Kp.mk hb6
      have HO6 := Kp.mk ho6
      clear hx6n hx6l HOUT hb6 ho6 HBT HK6
      go_wp2_with fail
      refine CSO.out.mono ?_
      rintro e w7 ⟨rfl, O, HPO, HO7, HG7⟩
      have HIN := Kp.mk (HOU.out O HPO.out.1 HPO.out.2)
      have HOL := Kp.mk (show O.length = m by rw [HIN.out.len, HM.out])
      have hx7 := box_grow HB6.out HG7.out (row_box HO6.out HB6.out (by decide))
      have c7 : w7.cell? ⟨b0, 0, none⟩ = some (.slice sa6 m cap6) := hx7.cell 0 rfl
      have HBA := Kp.mk (show Below B0 w w7 from by
        refine HBW.out.trans ?_
        have h1 : Below B0 w4 w5 := below_of_grown HG5.out (by rw [HS4.out]; omega) (fun q hq => by cases hq; exact HGB.out.1)
        have h2 : Below B0 w5 w6 := HF6.out.to hBw (by have := h1.size; rw [HS4.out] at this; omega) (by have := h1.size; rw [HS4.out] at this; omega)
        have h3 : Below B0 w6 w7 := below_of_grown HG7.out (by have := h1.size; have := h2.size; rw [HS4.out] at *; omega) (fun q hq => by have := (own_lt HO6.out q hq).1; have := h1.size; rw [HS4.out] at this; omega)
        exact h1.trans (h2.trans h3))
      clear CSO c6 HB6 HO6 HG7 HF6 HOU HPO hx7 HX5 HB5 HX0 HG5 HBW HTP
      obtain ⟨g7, rfl, _, _⟩ := own_some HO7.out hm0
      have HB7 := Kp.mk (fun (w' : World) (hb : Below w7.heap.size w7 w') (i : Nat) (hi : i < m) => show w'.cell? ⟨g7, i * 2, none⟩ = some (.int .i64 (far (O.getD i 0))) ∧ w'.cell? ⟨g7, i * 2 + 1, none⟩ = some (.int .i64 ((O.getD i 0 : Nat) : Int)) from by
        obtain ⟨d0, d1⟩ := fd_at HO7.out HOL.out i hi
        have hg : g7 < w7.heap.size := (own_lt HO7.out g7 rfl).2
        exact ⟨(hb.cell (p := ⟨g7, i * 2, none⟩) hg).trans d0, (hb.cell (p := ⟨g7, i * 2 + 1, none⟩) hg).trans d1⟩)
      have hmc : m ≤ cap6 := (own_slc HO7.out).le
      go_wp2
      go_loopw [14, 62] (fun v i wr => ∃ (q : Nat) (oa : Option Addr) (oc : Nat), q ≤ m ∧ i = .int .i64 q ∧ v = .slice oa q oc ∧ Kp (wr.ownsRow w7.heap.size 3 1 (.slice oa q oc) q (natV (O.take q))) ∧ Kp (Below w7.heap.size w7 wr)) (fun _ i _ => m - (intOf i).toNat)
      case atStart => exact ⟨0, none, 0, Nat.zero_le _, rfl, rfl, ⟨World.ownsRow_nil _ _ _ _⟩, ⟨Below.refl _ _⟩⟩
      case round =>
        obtain ⟨wo, rfl⟩ : ∃ wo : World, wo = wr := ⟨_, rfl⟩
        obtain ⟨q, oa, oc, hq, rfl, rfl, HOO, HBO⟩ := hrel
        by_cases hqm : q < m
        · obtain ⟨d0, d1⟩ := HB7.out wo HBO.out q hqm
          have HTK := Kp.mk (show natV (O.take q) ++ [.int .i64 ((O.getD q 0 : Nat) : Int)] = natV (O.take (q + 1)) from by
            rw [List.take_succ_eq_append_getElem (by rw [HOL.out]; exact hqm), natV_app, getD_at _ _ (by rw [HOL.out]; exact hqm)]; rfl)
          generalize far (O.getD q 0) = f0 at *
          generalize O.getD q 0 = p0 at *
          have HAL := Kp.mk (below_alloc (Nat.le_refl wo.heap.size) (.cells #[.int .i64 f0, .int .i64 (p0 : Int)] 163))
          have hB7 : w7.heap.size ≤ (wo.alloc (.cells #[.int .i64 f0, .int .i64 (p0 : Int)] 163)).heap.size := Nat.le_trans HBO.out.size HAL.out.size
          have x1 : (wo.alloc (.cells #[.int .i64 f0, .int .i64 (p0 : Int)] 163)).cell? ⟨wo.heap.size, 1, none⟩ = some (.int .i64 (p0 : Int)) := (Box.new wo #[.int .i64 f0, .int .i64 (p0 : Int)] 163).cell 1 rfl
          obtain ⟨w8, hw8⟩ : ∃ w8, wo.alloc (.cells #[.int .i64 f0, .int .i64 (p0 : Int)] 163) = w8 := ⟨_, rfl⟩
          rw [hw8] at x1 hB7 HAL
          go_wp2_with (at_builtin; refine wpList_push tInts rfl _ _ rfl w7.heap.size oa q oc _ rfl (own_below HOO.out HAL.out) 1 1 _ rfl rfl ?d1 (by decide) ?d2 (by decide) hB7 ?d4)
          case d1 => simp [Value.oneCell']
          case d2 => omega
          case d4 =>
            intro sa' sc' w2 hown hbel
            have HO2 := Kp.mk (show w2.ownsRow w7.heap.size 3 1 (.slice sa' (q + 1) sc') (q + 1) (natV (O.take (q + 1))) from by rw [← HTK.out]; exact hown)
            have HB2 := Kp.mk (HBO.out.trans ((HAL.out.mono HBO.out.size).trans hbel))
            clear hown hbel HOO HBO HTK HAL hw8
            go_wp2
            go_roundw
            case rel => exact ⟨q + 1, sa', sc', by omega, by go_num, rfl, HO2, HB2⟩
            case measure => simp [intOf]; omega
        · obtain rfl : q = m := by omega
          have HFO := Kp.mk (show wo.ownsRow B0 3 1 (.slice oa q oc) q (natV O) from by
            have h := HOO.out
            rw [List.take_of_length_le (by rw [HOL.out]; exact Nat.le_refl _)] at h
            exact own_base h (by rw [← HB0.out]; exact HBA.out.size))
          have HFB := Kp.mk (show Below B0 w wo from HBA.out.trans (HBO.out.mono (by rw [← HB0.out]; exact HBA.out.size)))
          clear HOO HBO HB7
          go_wp2
          exact bodyPost_ret (v := .tuple #[.slice oa q oc, .int .i64 0]) (by simp [results, Tryz.results67, go_sem]) rfl ⟨oa, oc, O, rfl, HIN, HFO, HFB⟩

end Go.Proofs.YtladgklnacihkaaGreat

