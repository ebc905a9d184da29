import Derived.Test.YtedchegejalolaaGreatDoorMb7
import Derived.Test.YtedchegejalolaaGreatDoorMb4
import Derived.Lib.SlBytesConst
/- Package image: the walk of points. -/
namespace Go.Proofs.YtedchegejalolaaGreatDoor
set_option linter.unusedVariables false
open Go.RowKit

end Go.Proofs.YtedchegejalolaaGreatDoor

/- Package grid: points that may not be; package image: the walk of Load. -/
namespace Go.Proofs.YtedchegejalolaaGreatDoor
set_option linter.unusedVariables false
open Go.RowKit

theorem loadShort_any (a : Option Addr) (n cap : Nat) (w : World) (hn : n < 9) :
    Calls Tryz.prog 46 #[.slice a n cap] w fun e w' => e = .returned (.tuple #[.slice none 0 0, .int .i64 5]) ∧ w = w' := by
  have t : decide ((n : Int) < 9) = true := decide_eq_true (by omega)
  go_enter Tryz.func46, Tryz.ntmps46
  go_wp2
  refine bodyPost_ret (v := .tuple #[.slice none 0 0, .int .i64 5]) (by simp [results, Tryz.results46, go_sem]) rfl ?_
  exact ⟨rfl, rfl⟩

end Go.Proofs.YtedchegejalolaaGreatDoor

/- The cells of points, and of places. -/
namespace Go.Proofs.YtedchegejalolaaGreatDoor
set_option linter.unusedVariables false
open Go.RowKit

theorem pt_cells {w : World} {a : Option Addr} {n cap : Nat} {L : List Pt} (h : SlF ptL 3 w a n cap L) (i : Nat) (hi : i < n) :
    ∃ b off, a = some ⟨b, off, none⟩ ∧ w.cell? ⟨b, off + i * 3, none⟩ = some (.int .i64 (L.getD i pt0).x) ∧ w.cell? ⟨b, off + i * 3 + 1, none⟩ = some (.int .i64 (L.getD i pt0).y) ∧ w.cell? ⟨b, off + i * 3 + 2, none⟩ = some (.int .i64 (L.getD i pt0).w) := by
  have hl := h.len ptL_len (by omega)
  obtain ⟨b, off, ha, hb, hc⟩ := h.at ptL_len (by omega) i (by omega)
  rw [← getD_at L pt0 (by omega)] at hc
  exact ⟨b, off, ha, hc 0 (by omega), hc 1 (by omega), hc 2 (by omega)⟩
theorem nat_cell {w : World} {a : Option Addr} {n cap : Nat} {R : List Nat} (h : SlI w a cap (R.map Int.ofNat)) (hl : R.length = n) (i : Nat) (hi : i < n) :
    ∃ b off, a = some ⟨b, off, none⟩ ∧ w.cell? ⟨b, off + i, none⟩ = some (.int .i64 ((R.getD i 0 : Nat) : Int)) := by
  obtain ⟨b, off, ha, hc⟩ := h.at i (by rw [List.length_map]; omega)
  refine ⟨b, off, ha, ?_⟩
  rw [hc, getD_at _ _ (by omega), List.getElem_map]; rfl

end Go.Proofs.YtedchegejalolaaGreatDoor

/- Package image: the walk of Save. -/
namespace Go.Proofs.YtedchegejalolaaGreatDoor
set_option linter.unusedVariables false
open Go.RowKit

/-- The numbers of points. -/
def numsP (L : List Pt) : List Nat := L.flatMap fun p => [foldN p.x, foldN p.y, foldN p.w]
theorem numsP_length (L : List Pt) : (numsP L).length = 3 * L.length := by
  induction L with
  | nil => rfl
  | cons p L ih => simp [numsP] at *; omega
theorem encN_append (a b : List Nat) : encN (a ++ b) = encN a ++ encN b := by simp [encN]
theorem numsP_snoc (L : List Pt) (p : Pt) : encN (numsP (L ++ [p])) = encN (numsP L) ++ putL (foldN p.x) ++ putL (foldN p.y) ++ putL (foldN p.w) := by
  have e : numsP (L ++ [p]) = numsP L ++ [foldN p.x, foldN p.y, foldN p.w] := by simp [numsP]
  rw [e, encN_append]
  simp [encN]
theorem foldN_lt (x : Int) (h1 : -1048576 ≤ x) (h2 : x ≤ 1048576) : foldN x < 268435456 := by unfold foldN; split <;> omega
theorem encN_lt (l : List Nat) : ∀ x ∈ encN l, x < 256 := by
  intro x hx
  obtain ⟨n, _, h⟩ := List.mem_flatMap.1 hx
  exact putL_lt n x h
theorem encI_lt (l : List Nat) : ∀ x ∈ encI l, x < 256 := by
  intro x hx
  unfold encI at hx
  rcases List.mem_append.1 hx with h | h
  · simp [headL] at h; omega
  · rcases List.mem_append.1 h with h | h
    · exact putL_lt _ x h
    · exact encN_lt l x h
/-- The sum's four bytes. -/
def be4 (n : Nat) : List Nat := [n / 16777216, n / 65536 % 256, n / 256 % 256, n % 256]
theorem be4_lt (n : Nat) (h : n < 4294967296) : ∀ x ∈ be4 n, x < 256 := by unfold be4; intro x hx; simp at hx; omega
/-- The bytes of points. -/
def saveL (L : List Pt) : List Nat := encI (numsP L) ++ be4 (crc (encI (numsP L)))
theorem encI_nums (L : List Pt) : encI (numsP L) = headL ++ (putL L.length ++ encN (numsP L)) := by
  unfold encI
  rw [numsP_length, show 3 * L.length / 3 = L.length by omega]
theorem saveL_lt (L : List Pt) : ∀ x ∈ saveL L, x < 256 := by
  intro x hx
  rcases List.mem_append.1 hx with h | h
  · exact encI_lt _ x h
  · exact be4_lt _ (crc_lt _) x h
attribute [irreducible] be4

set_option maxRecDepth 100000 in
set_option maxHeartbeats 8000000 in
theorem save_any (a : Option Addr) (n cap : Nat) (L : List Pt) (w : World) (h : SlF ptL 3 w a n cap L) (hn : n ≤ 150) (hl : L.length = n) (hN : ∀ p ∈ L, p.Near) :
    Calls Tryz.prog 38 #[.slice a n cap] w fun e w' => ∃ (ra : Option Addr) (r rc : Nat), e = .returned (.tuple #[.slice ra r rc, .int .i64 0]) ∧ r ≤ 3000 ∧ Kp (w'.ownsRow w.heap.size 5 1 (.slice ra r rc) r (byts (saveL L))) ∧ Kp (Below w.heap.size w w') := by
  have CG := Kp.mk (gcheck_any a cap n L w h hn hN)
  have H := Kp.mk h
  have HL := Kp.mk hl
  have HN := Kp.mk (show ∀ i, i < n → (L.getD i pt0).Near from fun i hi => by rw [getD_at _ _ (by omega)]; exact hN _ (List.getElem_mem _))
  clear h hl hN
  go_enter Tryz.func38, Tryz.ntmps38
  go_wp2_with fail
  refine CG.out.mono ?_
  rintro e w1 ⟨rfl, HB1⟩
  obtain ⟨B, hB⟩ : ∃ B, B = w.heap.size := ⟨_, rfl⟩
  have HBE := Kp.mk hB
  clear hB CG
  have kc : (convert 46 46 (.slice (some ⟨w1.heap.size, 0, none⟩) 4 4)).run Tryz.prog (w1.alloc (.cells #[.int .u8 68, .int .u8 65, .int .u8 77, .int .u8 49] 5)) = .ok (.slice (some ⟨w1.heap.size, 0, none⟩) 4 4) (w1.alloc (.cells #[.int .u8 68, .int .u8 65, .int .u8 77, .int .u8 49] 5 (4, 5))) :=
    Lib.run_convert_bytes_const (P := Tryz.prog) w1 46 5 #[.int .u8 68, .int .u8 65, .int .u8 77, .int .u8 49] 4 4 Tryz.underlying46 Tryz.underlying5
  have hbC : Below w1.heap.size w1 (w1.alloc (.cells #[.int .u8 68, .int .u8 65, .int .u8 77, .int .u8 49] 5 (4, 5))) := below_alloc (Nat.le_refl _) _
  have s0 : SlB (w1.alloc (.cells #[.int .u8 68, .int .u8 65, .int .u8 77, .int .u8 49] 5 (4, 5))) (some ⟨w1.heap.size, 0, none⟩) 4 4 headL := by
    refine ⟨rfl, Nat.le_refl _, by decide, (fun h => by cases h), fun i hi => ⟨w1.heap.size, 0, rfl, ?_⟩⟩
    rw [Nat.zero_add, World.cell?_alloc_mark]
    have hi9 : i < 4 := hi
    match i, hi9 with
    | 0, _ => rfl | 1, _ => rfl | 2, _ => rfl | 3, _ => rfl
  have HBC := Kp.mk (below_step HB1.out hbC)
  have hBle : B ≤ (w1.alloc (.cells #[.int .u8 68, .int .u8 65, .int .u8 77, .int .u8 49] 5 (4, 5))).heap.size := by rw [HBE.out]; exact HBC.out.size
  have CP := Kp.mk (put0_any B _ 4 headL n _ s0 (by omega) (by omega) hBle)
  clear s0 hbC hBle
  go_wp2_with fail
  refine CP.out.mono ?_
  rintro e w2 ⟨ra, r, rc, rfl, HRL, hr, HO, HB2⟩
  have HBW := Kp.mk (show Below B w w2 from by rw [HBE.out]; exact HBC.out.trans (by rw [← HBE.out]; exact HB2.out))
  clear CP kc HB1 HBC HB2
  obtain ⟨wo, rfl⟩ : ∃ wo : World, wo = w2 := ⟨_, rfl⟩
  go_wp2
  go_loopw [5, 21] (fun s i wr => ∃ (k : Nat) (ra : Option Addr) (r rc : Nat), k ≤ n ∧ i = .int .i64 k ∧ s = .slice ra r rc ∧ r ≤ 8 + 12 * k ∧ Kp ((headL ++ (putL n ++ encN (numsP (L.take k)))).length = r) ∧ Kp (wr.ownsRow B 5 1 (.slice ra r rc) r (byts (headL ++ (putL n ++ encN (numsP (L.take k)))))) ∧ Kp (Below B w wr)) (fun _ i _ => n - (intOf i).toNat)
  case atStart => exact ⟨0, ra, r, rc, Nat.zero_le _, rfl, rfl, by omega, by simpa [numsP, encN] using HRL, by simpa [numsP, encN] using HO, HBW⟩
  case round =>
    clear HRL HO HBW hr
    obtain ⟨k, ra, r, rc, hk, rfl, rfl, hr, HRL, HO, HBW⟩ := hrel
    have hbw : Below w.heap.size w wr := by rw [← HBE.out]; exact HBW.out
    by_cases hlt : k < n
    · obtain ⟨pb, po, rfl, x0, x1, x2⟩ := pt_cells (SlF.below H.out hbw) k hlt
      have HNP := HN.out k hlt
      have HSN := Kp.mk (show headL ++ (putL n ++ encN (numsP (L.take (k + 1)))) = headL ++ (putL n ++ encN (numsP (L.take k))) ++ putL (foldN (L.getD k pt0).x) ++ putL (foldN (L.getD k pt0).y) ++ putL (foldN (L.getD k pt0).w) from by
        rw [List.take_succ_eq_append_getElem (by rw [HL.out]; exact hlt), numsP_snoc, getD_at _ _ (by rw [HL.out]; exact hlt)]; simp only [List.append_assoc])
      generalize L.getD k pt0 = p at *
      generalize headL ++ (putL n ++ encN (numsP (L.take k))) = l at *
      unfold Pt.Near at HNP
      have F0 := Kp.mk (fun W => fold_any p.x W (by omega) (by omega))
      have F1 := Kp.mk (fun W => fold_any p.y W (by omega) (by omega))
      have F2 := Kp.mk (fun W => fold_any p.w W (by omega) (by omega))
      have g0 := foldN_lt p.x (by omega) (by omega)
      have g1 := foldN_lt p.y (by omega) (by omega)
      have g2 := foldN_lt p.w (by omega) (by omega)
      generalize foldN p.x = v0 at *
      generalize foldN p.y = v1 at *
      generalize foldN p.w = v2 at *
      have hbel : Below wr.heap.size wr (wr.alloc (.cells #[.int .i64 p.x, .int .i64 p.y, .int .i64 p.w] 78)) := below_alloc (Nat.le_refl _) _
      have HBX := Kp.mk (Box.new wr #[.int .i64 p.x, .int .i64 p.y, .int .i64 p.w] 78)
      have hbwa : B ≤ wr.heap.size := HBW.out.size |> fun h => by have := HBE.out; omega
      have HOA := Kp.mk (own_below HO.out hbel)
      have HBA := Kp.mk (HBW.out.trans (hbel.mono hbwa))
      have hkz : (k : Int) < n := by omega
      clear hbel hbw HNP
      have c0 := HBX.out.cell 0 rfl
      have c1 := HBX.out.cell 1 rfl
      have c2 := HBX.out.cell 2 rfl
      have hqlt : wr.heap.size < (wr.alloc (.cells #[.int .i64 p.x, .int .i64 p.y, .int .i64 p.w] 78)).heap.size := by rw [alloc_size]; omega
      generalize hWA : wr.alloc (.cells #[.int .i64 p.x, .int .i64 p.y, .int .i64 p.w] 78) = WA at *
      have d0 : WA.cell? ⟨wr.heap.size, 0, none⟩ = some (.int .i64 p.x) := c0
      have d1 : WA.cell? ⟨wr.heap.size, 1, none⟩ = some (.int .i64 p.y) := c1
      have d2 : WA.cell? ⟨wr.heap.size, 2, none⟩ = some (.int .i64 p.w) := c2
      have hBA : B ≤ WA.heap.size := by omega
      have HSK := Kp.mk (show ∀ W, Box W wr.heap.size #[.int .i64 p.x, .int .i64 p.y, .int .i64 p.w] 78 → W.cell? ⟨wr.heap.size, 0, none⟩ = some (.int .i64 p.x) ∧ W.cell? ⟨wr.heap.size, 1, none⟩ = some (.int .i64 p.y) ∧ W.cell? ⟨wr.heap.size, 2, none⟩ = some (.int .i64 p.w) from fun W hb => ⟨hb.cell 0 rfl, hb.cell 1 rfl, hb.cell 2 rfl⟩)
      have HOD := Kp.mk (show WA.drew.ownsRow B 5 1 (.slice ra r rc) r (byts l) from own_below HOA.out (drewN_below (B := WA.heap.size) (w := WA) 1))
      have hBD : B ≤ WA.drew.heap.size := hBA
      have HX0 := Kp.mk (show Box WA.drew wr.heap.size #[.int .i64 p.x, .int .i64 p.y, .int .i64 p.w] 78 from HBX.out)
      have C1 := Kp.mk (put_any B ra r rc l v0 WA.drew HOD.out (by omega) g0 hBD)
      have hS0 := HSK.out _ HX0.out
      clear c0 c1 c2
      go_wp2
      go_region_held3 (fun w' => w'.cell? ⟨wr.heap.size, 0, none⟩ = some (.int .i64 p.x) ∧ w'.cell? ⟨wr.heap.size, 1, none⟩ = some (.int .i64 p.y) ∧ w'.cell? ⟨wr.heap.size, 2, none⟩ = some (.int .i64 p.w))
        (first | exact hS0 | exact hS1 | exact hS2 | exact hS3 | go_keep)
        ((first
          | (go_at_call 60; (first | (with_reducible refine (F0.out _).mono ?_) | (with_reducible refine (F1.out _).mono ?_) | (with_reducible refine (F2.out _).mono ?_)); rintro e w' ⟨rfl, rfl⟩)
          | (go_at_call 59; (with_reducible refine C1.out.mono ?_); rintro e w3 ⟨ra1, r1, rc1, rfl, HL1, hr1, HO1, HG1, HI1, HB1⟩; have HX1 := box_grow HX0.out HG1.out (row_box HOD.out HX0.out (by decide)); have hS1 := HSK.out _ HX1)
          | (go_at_call 59; (with_reducible refine (put_any B ra1 r1 rc1 (l ++ putL v0) v1 _ HO1.out (by omega) g1 (Nat.le_trans hBD HB1.out.size)).mono ?_); rintro e w5 ⟨ra2, r2, rc2, rfl, HL2, hr2, HO2, HG2, HI2, HB2⟩; have HX2 := box_grow HX1 HG2.out (row_box HO1.out HX1 (by decide)); have hS2 := HSK.out _ HX2)
          | (go_at_call 59; (with_reducible refine (put_any B ra2 r2 rc2 (l ++ putL v0 ++ putL v1) v2 _ HO2.out (by omega) g2 (Nat.le_trans hBD (Nat.le_trans HB1.out.size HB2.out.size))).mono ?_); rintro e w6 ⟨ra3, r3, rc3, rfl, HL3, hr3, HO3, HG3, HI3, HB3⟩; have HX3 := box_grow HX2 HG3.out (row_box HO2.out HX2 (by decide)); have hS3 := HSK.out _ HX3)
          | fail))
      all_goals
        have HB6 := Kp.mk (show Below B w w6 from HBA.out.trans ((show Below B WA WA.drew from drewN_below (B := B) (w := WA) 1).trans (HB1.out.trans (HB2.out.trans HB3.out))))
        have HO6 := Kp.mk (show w6.ownsRow B 5 1 (.slice ra3 r3 rc3) r3 (byts (headL ++ (putL n ++ encN (numsP (L.take (k + 1)))))) from by rw [HSN.out]; exact HO3.out)
        have HL6 := Kp.mk (show (headL ++ (putL n ++ encN (numsP (L.take (k + 1))))).length = r3 from by rw [HSN.out]; exact HL3.out)
        clear HO1 HO2 HO3 HL1 HL2 HL3 HG1 HG2 HG3 HI1 HI2 HI3 HX1 HX2 HX3 hS1 hS2 hS3 C1 F0 F1 F2
        go_wp2
        go_roundw
        case rel => exact ⟨k + 1, ra3, r3, rc3, by omega, by go_num, rfl, by omega, HL6, HO6, HB6⟩
        case measure => simp [intOf]; omega
    · obtain rfl : k = n := by omega
      rw [List.take_of_length_le (by rw [HL.out]; exact Nat.le_refl _)] at HRL HO
      have e : headL ++ (putL k ++ encN (numsP L)) = encI (numsP L) := by rw [encI_nums, HL.out]
      rw [e] at HRL HO
      have HSA := Kp.mk (show saveL L = encI (numsP L) ++ be4 (crc (encI (numsP L))) from rfl)
      have hlt4 := crc_lt (encI (numsP L))
      have CS := Kp.mk (sum_any ra r rc _ wr (own_slb HO.out) HRL.out (by omega) (encI_lt _))
      have hB4 := Kp.mk (show be4 (crc (encI (numsP L))) = [crc (encI (numsP L)) / 16777216, crc (encI (numsP L)) / 65536 % 256, crc (encI (numsP L)) / 256 % 256, crc (encI (numsP L)) % 256] from by unfold be4; rfl)
      generalize crc (encI (numsP L)) = c at *
      clear e
      go_wp2_with fail
      refine CS.out.mono ?_
      rintro e w3 ⟨rfl, rfl⟩
      clear CS
      have hsz : B ≤ wr.heap.size := by have h1 := HBW.out.size; rw [← HBE.out] at h1; exact h1
      have w1' : IntKind.i64.wrap (c : Int) = (c : Int) := IntWalk.i64_in _ (by omega)
      obtain ⟨x1, hx1⟩ : ∃ x1, x1 = c / 16777216 := ⟨_, rfl⟩
      obtain ⟨x2, hx2⟩ : ∃ x2, x2 = c / 65536 := ⟨_, rfl⟩
      obtain ⟨x3, hx3⟩ : ∃ x3, x3 = c / 256 := ⟨_, rfl⟩
      obtain ⟨y2, hy2⟩ : ∃ y2, y2 = x2 % 256 := ⟨_, rfl⟩
      obtain ⟨y3, hy3⟩ : ∃ y3, y3 = x3 % 256 := ⟨_, rfl⟩
      obtain ⟨y4, hy4⟩ : ∃ y4, y4 = c % 256 := ⟨_, rfl⟩
      have s1 : (c : Int) / 16777216 = (x1 : Int) := by omega
      have s2 : (c : Int) / 65536 = (x2 : Int) := by omega
      have s3 : (c : Int) / 256 = (x3 : Int) := by omega
      have b1 : IntKind.u8.wrap (x1 : Int) = (x1 : Int) := u8w _ (by omega)
      have b2 : IntKind.u8.wrap (x2 : Int) = (y2 : Int) := by rw [IntKind.wrap_u8']; omega
      have b3 : IntKind.u8.wrap (x3 : Int) = (y3 : Int) := by rw [IntKind.wrap_u8']; omega
      have b4 : IntKind.u8.wrap (c : Int) = (y4 : Int) := by rw [IntKind.wrap_u8']; omega
      rw [← hx1, ← hx2, ← hx3, ← hy2, ← hy3, ← hy4] at hB4
      clear hx1 hx2 hx3 hy2 hy3 hy4
      go_wp2_with (at_builtin; refine wpList_push tBytes rfl _ _ rfl B ra r rc _ rfl HO.out 4 4 _ rfl rfl ?d1 (by decide) ?d2 (by decide) hsz ?d4)
      case d1 => simp [Value.oneCell']
      case d2 => omega
      case d4 =>
        intro ya yc w4 ho4 hb4
        have HO4 := Kp.mk (show w4.ownsRow w.heap.size 5 1 (.slice ya (r + 4) yc) (r + 4) (byts (saveL L)) from by
          rw [HSA.out, hB4.out, byts_append, ← HBE.out]; exact ho4)
        have HB4 := Kp.mk (show Below w.heap.size w w4 from by rw [← HBE.out]; exact HBW.out.trans hb4)
        clear ho4 hb4
        go_wp2
        refine bodyPost_ret (v := .tuple #[.slice ya (r + 4) yc, .int .i64 0]) (by simp [results, Tryz.results38, go_sem]) rfl ?_
        exact ⟨ya, r + 4, yc, rfl, by omega, HO4, HB4⟩

end Go.Proofs.YtedchegejalolaaGreatDoor

