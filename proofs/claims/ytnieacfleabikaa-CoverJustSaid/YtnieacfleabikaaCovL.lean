/- Package morton: Cover, and the walk of CoverJust. -/
import Derived.Test.YtnieacfleabikaaCov
namespace Go.Proofs.Ytnieacfleabikaa
set_option linter.unusedVariables false
open Go.RowKit

/-- What cover hands back. -/
def CovPost (X0 Y0 X1 Y1 x y m c B : Nat) (w : World) (sa : Option Addr) (l : List (Nat × Nat)) (e : Ending) (w' : World) : Prop :=
  ∃ sa' cap' l', e = .returned (.slice sa' l'.length cap') ∧ OwnS B w' sa' cap' l' ∧ Cov X0 Y0 X1 Y1 x y m c l l' ∧ w.grownBy w' (blk sa) ∧ NewOr w sa sa'

theorem cover_whole (X0 Y0 X1 Y1 k a b B : Nat) (sa : Option Addr) (cap : Nat) (l : List (Nat × Nat)) (w : World) (h1 : X1 < 256) (h2 : Y1 < 256) (hk : k ≤ 8) (ha : 2 ^ k * a + 2 ^ k ≤ X1 + 1) (hb : 2 ^ k * b + 2 ^ k ≤ Y1 + 1)
    (hx0 : X0 ≤ 2 ^ k * a) (hy0 : Y0 ≤ 2 ^ k * b) (hB : B ≤ w.heap.size) (h : OwnS B w sa cap l) (hG : Gap (4 ^ k * cod a b) l) :
    Calls Try.prog 34 #[.agg #[.int .i64 X0, .int .i64 Y0, .int .i64 X1, .int .i64 Y1], .int .i64 (2 ^ k * a : Nat), .int .i64 (2 ^ k * b : Nat), .int .i64 (2 ^ k : Nat), .slice sa l.length cap] w (CovPost X0 Y0 X1 Y1 (2 ^ k * a) (2 ^ k * b) (2 ^ k) (4 ^ k * cod a b) B w sa l) := by
  have hm : 0 < 2 ^ k := Nat.pow_pos (by omega)
  have e4 : 4 ^ k * cod a b = cod (2 ^ k * a) (2 ^ k * b) := by
    have := cod_blk k a b 0 0 hm hm (by omega) (by omega)
    rw [cod_zero] at this
    simpa using this.symm
  have hc6 : 4 ^ k * cod a b < 65536 := by
    have := cod_small 8 (2 ^ k * a) (2 ^ k * b) (by omega) (by omega) (by omega)
    rw [← e4] at this
    simpa using this
  obtain ⟨A, D, hW⟩ := whole_of (2 ^ k * a) (2 ^ k * b) (2 ^ k) (4 ^ k * cod a b) hm (by omega) (by omega) e4.symm
  have cw := fun {l l' : List (Nat × Nat)} => Cov.whole (X0 := X0) (Y0 := Y0) (X1 := X1) (Y1 := Y1) (k := k) (a := a) (b := b) (l := l) (l' := l') hk (by omega) (by omega) hx0 hy0 ha hb
  revert h hG
  refine snoc_ind (P := fun l => OwnS B w sa cap l → Gap (4 ^ k * cod a b) l → Calls Try.prog 34 #[.agg #[.int .i64 X0, .int .i64 Y0, .int .i64 X1, .int .i64 Y1], .int .i64 (2 ^ k * a : Nat), .int .i64 (2 ^ k * b : Nat), .int .i64 (2 ^ k : Nat), .slice sa l.length cap] w (CovPost X0 Y0 X1 Y1 (2 ^ k * a) (2 ^ k * b) (2 ^ k) (4 ^ k * cod a b) B w sa l)) ?_ ?_ l
  · intro h hG
    refine (cover_new0 X0 Y0 X1 Y1 _ _ _ _ _ A D B sa cap w h1 h2 ha hb hm hx0 hy0 hW (by omega) hB h).mono ?_
    rintro e w' ⟨sa', cap', rfl, hO, hg, hn⟩
    have hp := push_new (c := 4 ^ k * cod a b) (l := []) hW.mp hG (by simp)
    exact ⟨sa', cap', _, rfl, hO, cw hp.1 hp.2.1 hp.2.2, hg, hn⟩
  · rintro l ⟨p, q⟩ _ h hG
    have hf := hG.front
    have hlen := hG.len
    rw [List.length_append, List.length_singleton] at hlen
    have hl1 : (l ++ [(p, q)]).length = l.length + 1 := by simp
    rw [hl1]
    by_cases hj : q + 1 = 4 ^ k * cod a b
    · refine (cover_join X0 Y0 X1 Y1 _ _ _ _ _ A D B sa cap l.length p q l w h1 h2 ha hb hm hx0 hy0 hW (by omega) hB h rfl (by omega) hj).mono ?_
      rintro e w' ⟨rfl, hO, hg⟩
      have hp := push_join hW.mp hG hj
      exact ⟨sa, cap, _, by simp, hO, cw hp.1 hp.2.1 hp.2.2, hg, .inl rfl⟩
    · refine (cover_new X0 Y0 X1 Y1 _ _ _ _ _ A D B sa cap l.length p q l w h1 h2 ha hb hm hx0 hy0 hW (by omega) hB h rfl (by omega) hj (by omega)).mono ?_
      rintro e w' ⟨sa', cap', rfl, hO, hg, hn⟩
      have hp := push_new (c := 4 ^ k * cod a b) hW.mp hG (by
        intro s hs
        rcases List.mem_append.1 hs with hs | hs
        · have := hf.2.2.2 s hs; omega
        · rw [List.mem_singleton.1 hs]; exact hj)
      exact ⟨sa', cap', _, by simp, hO, cw hp.1 hp.2.1 hp.2.2, hg, hn⟩

theorem box_grown {w w' : World} {b : Nat} {cs : Array Value} {t : TypeId} {r : Option Nat} (h : Box w b cs t) (hg : w.grownBy w' r) (hr : some b ≠ r) : Box w' b cs t := (hg.block b h.lt hr).trans h
/-- The code of a quarter's first place. -/
theorem quarter (j a b n : Nat) (hn : n < 4) (ha : 2 ^ (j + 1) * a + 2 ^ (j + 1) ≤ 256) (hb : 2 ^ (j + 1) * b + 2 ^ (j + 1) ≤ 256) :
    2 ^ (j + 1) * a + 2 ^ j * (n % 2) = 2 ^ j * (2 * a + n % 2) ∧ 2 ^ (j + 1) * b + 2 ^ j * (n / 2) = 2 ^ j * (2 * b + n / 2) ∧ 4 ^ (j + 1) * cod a b + n * (2 ^ j * 2 ^ j) = 4 ^ j * cod (2 * a + n % 2) (2 * b + n / 2) ∧
    2 ^ j * (2 * a + n % 2) + 2 ^ j ≤ 256 ∧ 2 ^ j * (2 * b + n / 2) + 2 ^ j ≤ 256 := by
  have e1 : ∀ a d : Nat, 2 ^ (j + 1) * a + 2 ^ j * d = 2 ^ j * (2 * a + d) := by
    intro a d; rw [Nat.pow_succ, Nat.mul_add, Nat.mul_assoc]
  have hp : 0 < 2 ^ j := Nat.pow_pos (by omega)
  have e4 : 2 ^ j * 2 ^ j = 4 ^ j := by rw [← Nat.mul_pow]
  have h2 : n % 2 < 2 := Nat.mod_lt _ (by omega)
  have h3 : n / 2 < 2 := by omega
  have la : a ≤ 2 ^ (j + 1) * a := Nat.le_mul_of_pos_left _ (Nat.pow_pos (by omega))
  have lb : b ≤ 2 ^ (j + 1) * b := Nat.le_mul_of_pos_left _ (Nat.pow_pos (by omega))
  have hd : ∀ a d : Nat, d < 2 → 2 ^ (j + 1) * a + 2 ^ (j + 1) ≤ 256 → 2 ^ j * (2 * a + d) + 2 ^ j ≤ 256 := by
    intro a d hd h
    have : 2 ^ j * d ≤ 2 ^ j * 1 := Nat.mul_le_mul_left _ (by omega)
    have h6 : 2 ^ (j + 1) = 2 ^ j + 2 ^ j := by rw [Nat.pow_succ]; omega
    rw [← e1]
    generalize 2 ^ (j + 1) * a = u at *
    omega
  refine ⟨e1 _ _, e1 _ _, ?_, hd _ _ h2 ha, hd _ _ h3 hb⟩
  have hc := cod_step (2 * a + n % 2) (2 * b + n / 2) (by omega) (by omega)
  rw [show (2 * a + n % 2) % 2 = n % 2 by omega, show (2 * b + n / 2) % 2 = n / 2 by omega, show (2 * a + n % 2) / 2 = a by omega, show (2 * b + n / 2) / 2 = b by omega] at hc
  rw [hc, e4, Nat.pow_succ, Nat.mul_add, Nat.mul_add, Nat.mul_assoc]
  have : n % 2 + 2 * (n / 2) = n := by omega
  have h5 : 4 ^ j * (n % 2) + 4 ^ j * (2 * (n / 2)) = n * 4 ^ j := by rw [← Nat.mul_add, this, Nat.mul_comm]
  omega

set_option maxRecDepth 100000 in
set_option maxHeartbeats 2000000 in
theorem cover_step (X0 Y0 X1 Y1 B : Nat) (h1 : X1 < 256) (h2 : Y1 < 256) (h3 : X0 ≤ X1) (h4 : Y0 ≤ Y1) (k : Nat) (hk : k ≤ 8) (a b : Nat) (ha : 2 ^ k * a + 2 ^ k ≤ 256) (hb : 2 ^ k * b + 2 ^ k ≤ 256) (X Y W : Int) (eX : X = (2 ^ k * a : Nat)) (eY : Y = (2 ^ k * b : Nat)) (eW : W = (2 ^ k : Nat))
    (sa : Option Addr) (cap : Nat) (l : List (Nat × Nat)) (w : World) (hB : B ≤ w.heap.size) (h : OwnS B w sa cap l) (hG : Gap (4 ^ k * cod a b) l)
    (ih : ∀ j, k = j + 1 → ∀ (a b : Nat) (ha : 2 ^ j * a + 2 ^ j ≤ 256) (hb : 2 ^ j * b + 2 ^ j ≤ 256) (X Y W : Int) (eX : X = (2 ^ j * a : Nat)) (eY : Y = (2 ^ j * b : Nat)) (eW : W = (2 ^ j : Nat)) (sa : Option Addr) (cap : Nat) (l : List (Nat × Nat)) (w : World) (hB : B ≤ w.heap.size) (h : OwnS B w sa cap l) (hG : Gap (4 ^ j * cod a b) l),
      Calls Try.prog 34 #[.agg #[.int .i64 X0, .int .i64 Y0, .int .i64 X1, .int .i64 Y1], .int .i64 X, .int .i64 Y, .int .i64 W, .slice sa l.length cap] w (CovPost X0 Y0 X1 Y1 (2 ^ j * a) (2 ^ j * b) (2 ^ j) (4 ^ j * cod a b) B w sa l)) :
    Calls Try.prog 34 #[.agg #[.int .i64 X0, .int .i64 Y0, .int .i64 X1, .int .i64 Y1], .int .i64 X, .int .i64 Y, .int .i64 W, .slice sa l.length cap] w (CovPost X0 Y0 X1 Y1 (2 ^ k * a) (2 ^ k * b) (2 ^ k) (4 ^ k * cod a b) B w sa l) := by
  subst eX; subst eY; subst eW
  have hm : 0 < 2 ^ k := Nat.pow_pos (by omega)
  by_cases ho : X1 < 2 ^ k * a ∨ Y1 < 2 ^ k * b ∨ 2 ^ k * a + 2 ^ k ≤ X0 ∨ 2 ^ k * b + 2 ^ k ≤ Y0
  · refine (cover_none X0 Y0 X1 Y1 _ _ _ l.length cap sa w h1 h2 h3 h4 ha hb ho).mono ?_
    rintro e w' ⟨rfl, hg, hw⟩
    refine ⟨sa, cap, l, rfl, ?_, Cov.none hG h3 h4 ho, hg, .inl rfl⟩
    subst hw
    exact World.ownsRow.alloc h _
  by_cases hw : 2 ^ k * a + 2 ^ k ≤ X1 + 1 ∧ 2 ^ k * b + 2 ^ k ≤ Y1 + 1 ∧ X0 ≤ 2 ^ k * a ∧ Y0 ≤ 2 ^ k * b
  · exact cover_whole X0 Y0 X1 Y1 k a b B sa cap l w h1 h2 hk hw.1 hw.2.1 hw.2.2.1 hw.2.2.2 hB h hG
  cases k with
  | zero => simp only [Nat.pow_zero, Nat.one_mul] at ho hw; omega
  | succ j =>
    replace ih := Kp.mk (ih j rfl)
    have hlen := hG.len
    have hq := Kp.mk (fun n hn => quarter j a b n hn ha hb)
    have hc6 : 4 ^ (j + 1) * cod a b < 65536 := by
      have e4 : 4 ^ (j + 1) * cod a b = cod (2 ^ (j + 1) * a) (2 ^ (j + 1) * b) := by
        have := cod_blk (j + 1) a b 0 0 hm hm (by omega) (by omega)
        rw [cod_zero] at this
        simpa using this.symm
      have := cod_small 8 (2 ^ (j + 1) * a) (2 ^ (j + 1) * b) (by omega) (by omega) (by omega)
      rw [← e4] at this
      simpa using this
    have H := Kp.mk h
    have HG := Kp.mk hG
    have hx : 2 ^ (j + 1) * a ≤ 256 := by omega
    have hy : 2 ^ (j + 1) * b ≤ 256 := by omega
    have hmj : 2 ^ (j + 1) = 2 ^ j + 2 ^ j := by rw [Nat.pow_succ]; omega
    have HMJ := Kp.mk hmj
    have hp : 0 < 2 ^ j := Nat.pow_pos (by omega)
    have o1 : 2 ^ (j + 1) * a ≤ X1 := by omega
    have o2 : 2 ^ (j + 1) * b ≤ Y1 := by omega
    have o3 : X0 < 2 ^ (j + 1) * a + 2 ^ (j + 1) := by omega
    have o4 : Y0 < 2 ^ (j + 1) * b + 2 ^ (j + 1) := by omega
    clear h hG ho
    generalize hM : 2 ^ (j + 1) = M at *
    generalize hxx : M * a = x at *
    generalize hyy : M * b = y at *
    generalize hmm : 2 ^ j = m at *
    have e2 : (M : Int) / 2 = m := by have := HMJ.out; omega
    obtain ⟨R, hR⟩ : ∃ R : Array Value, R = #[.int .i64 X0, .int .i64 Y0, .int .i64 X1, .int .i64 Y1] := ⟨_, rfl⟩
    have hbox : Box (w.alloc (.cells #[.int .i64 X0, .int .i64 Y0, .int .i64 X1, .int .i64 Y1] 23)) w.heap.size #[.int .i64 X0, .int .i64 Y0, .int .i64 X1, .int .i64 Y1] 23 := .new _ _ _
    have HBX := Kp.mk hbox
    have hne : some w.heap.size ≠ blk sa := by
      intro e
      have := own_lt H.out _ e.symm
      omega
    have HNE := Kp.mk hne
    have HM := Kp.mk hM
    have HXX := Kp.mk hxx
    have HYY := Kp.mk hyy
    have HMM := Kp.mk hmm
    have HS := Kp.mk (show (w.alloc (.cells #[.int .i64 X0, .int .i64 Y0, .int .i64 X1, .int .i64 Y1] 23)).heap.size = w.heap.size + 1 from alloc_size _ _)
    clear hmj hbox hne hM hxx hyy hmm hR
    go_enter Try.func34, Try.ntmps34
    go_wp2
    all_goals
      have HH1 := Kp.mk hw
      clear hw o1 o2 o3 o4 hm hp
      go_loopw [112, 4] (fun i v wr => ∃ (n : Nat) (sa1 : Option Addr) (cap1 : Nat) (l1 : List (Nat × Nat)), n ≤ 4 ∧ i = .int .i64 n ∧ v = .slice sa1 l1.length cap1 ∧ Kp (OwnS B wr sa1 cap1 l1) ∧ Kp (Parts X0 Y0 X1 Y1 x y m (4 ^ (j + 1) * cod a b) n l l1) ∧ Kp ((w.alloc (.cells #[.int .i64 X0, .int .i64 Y0, .int .i64 X1, .int .i64 Y1] 23)).grownBy wr (blk sa)) ∧ Kp (NewOr (w.alloc (.cells #[.int .i64 X0, .int .i64 Y0, .int .i64 X1, .int .i64 Y1] 23)) sa sa1)) (fun i _ _ => 4 - (intOf i).toNat)
      case atStart => exact ⟨0, sa, cap, l, by omega, rfl, rfl, ⟨World.ownsRow.alloc H.out _⟩, ⟨rfl⟩, ⟨grown_refl _ _⟩, ⟨.inl rfl⟩⟩
      case round =>
        obtain ⟨n, sa1, cap1, l1, hn4, rfl, rfl, HO, HP, HGR, HN⟩ := hrel
        have HBR := Kp.mk (box_grown HBX.out HGR.out HNE.out)
        have c0 : wr.cell? ⟨w.heap.size, 0, none⟩ = some (.int .i64 X0) := HBR.out.cell 0 rfl
        have c1 : wr.cell? ⟨w.heap.size, 1, none⟩ = some (.int .i64 Y0) := HBR.out.cell 1 rfl
        have c2 : wr.cell? ⟨w.heap.size, 2, none⟩ = some (.int .i64 X1) := HBR.out.cell 2 rfl
        have c3 : wr.cell? ⟨w.heap.size, 3, none⟩ = some (.int .i64 Y1) := HBR.out.cell 3 rfl
        have hsz : w.heap.size + 1 ≤ wr.heap.size := by have := HGR.out.size; rw [HS.out] at this; exact this
        by_cases hlt : n < 4
        · have hg1 := Kp.mk (HP.out.gap HG.out)
          obtain ⟨q1, q2, q3, q4, q5⟩ := hq.out n hlt
          have Q1 := Kp.mk q1
          have Q2 := Kp.mk q2
          have Q3 := Kp.mk q3
          clear q1 q2 q3
          have C := Kp.mk (fun X Y hX hY => ih.out (2 * a + n % 2) (2 * b + n / 2) q4 q5 X Y m hX hY rfl sa1 cap1 l1 wr (by omega) HO.out (by rw [← Q3.out]; exact hg1.out))
          clear q4 q5
          have hb1 : 0 ≤ (m : Int) * ((n : Int) % 2) ∧ (m : Int) * ((n : Int) % 2) ≤ 256 ∧ 0 ≤ (m : Int) * ((n : Int) / 2) ∧ (m : Int) * ((n : Int) / 2) ≤ 256 := by
            have l1 : m * (n % 2) ≤ m * 1 := Nat.mul_le_mul_left _ (by omega)
            have l2 : m * (n / 2) ≤ m * 1 := Nat.mul_le_mul_left _ (by omega)
            have := HMJ.out
            have c1 : ((m * (n % 2) : Nat) : Int) = (m : Int) * ((n : Int) % 2) := by push_cast; rfl
            have c2 : ((m * (n / 2) : Nat) : Int) = (m : Int) * ((n : Int) / 2) := by push_cast; rfl
            rw [← c1, ← c2]
            omega
          obtain ⟨hb1, hb2, hb3, hb4⟩ := hb1
          go_wp2_with fail
          refine (C.out _ _ (by rw [← Q1.out]; push_cast; rfl) (by rw [← Q2.out]; push_cast; rfl)).mono ?_
          rintro e w' ⟨sa2, cap2, l2, rfl, hO2, hcov, hg2, hn2⟩
          rw [← Q1.out, ← Q2.out, ← Q3.out] at hcov
          have HO2 := Kp.mk hO2
          have HP2 := Kp.mk (show Parts X0 Y0 X1 Y1 x y m (4 ^ (j + 1) * cod a b) (n + 1) l l2 from ⟨l1, HP.out, hcov⟩)
          have HN2 := Kp.mk (newOr_trans HN.out hn2 HGR.out.size)
          have HG2 := Kp.mk (grown_new HGR.out HN.out hg2)
          clear hO2 hcov hg2 hn2
          go_wp2
          go_roundw
          case rel => exact ⟨n + 1, sa2, cap2, l2, by omega, by go_num, rfl, HO2, HP2, HG2, HN2⟩
          case measure => simp [intOf]; omega
        · obtain rfl : n = 4 := by omega
          go_wp2
          go_ret
          refine ⟨sa1, cap1, l1, rfl, HO.out, ?_, grownBy_of_alloc HGR.out, newOr_alloc HN.out⟩
          rw [HMJ.out]
          exact HP.out.all h3 h4

theorem cover_any (X0 Y0 X1 Y1 B : Nat) (h1 : X1 < 256) (h2 : Y1 < 256) (h3 : X0 ≤ X1) (h4 : Y0 ≤ Y1) (k : Nat) (hk : k ≤ 8) (a b : Nat) (ha : 2 ^ k * a + 2 ^ k ≤ 256) (hb : 2 ^ k * b + 2 ^ k ≤ 256) (X Y W : Int) (eX : X = (2 ^ k * a : Nat)) (eY : Y = (2 ^ k * b : Nat)) (eW : W = (2 ^ k : Nat))
    (sa : Option Addr) (cap : Nat) (l : List (Nat × Nat)) (w : World) (hB : B ≤ w.heap.size) (h : OwnS B w sa cap l) (hG : Gap (4 ^ k * cod a b) l) :
    Calls Try.prog 34 #[.agg #[.int .i64 X0, .int .i64 Y0, .int .i64 X1, .int .i64 Y1], .int .i64 X, .int .i64 Y, .int .i64 W, .slice sa l.length cap] w (CovPost X0 Y0 X1 Y1 (2 ^ k * a) (2 ^ k * b) (2 ^ k) (4 ^ k * cod a b) B w sa l) := by
  induction k generalizing a b X Y W sa cap l w with
  | zero => exact cover_step X0 Y0 X1 Y1 B h1 h2 h3 h4 0 hk a b ha hb X Y W eX eY eW sa cap l w hB h hG (fun j hj => by omega)
  | succ j ih => exact cover_step X0 Y0 X1 Y1 B h1 h2 h3 h4 (j + 1) hk a b ha hb X Y W eX eY eW sa cap l w hB h hG (fun i hi => by
      obtain rfl : i = j := by omega
      exact fun a b ha hb X Y W eX eY eW sa cap l w hB h hG => ih (by omega) a b ha hb X Y W eX eY eW sa cap l w hB h hG)

end Go.Proofs.Ytnieacfleabikaa
