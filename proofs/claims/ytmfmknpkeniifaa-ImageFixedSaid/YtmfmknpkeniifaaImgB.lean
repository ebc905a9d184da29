/- Package image: the walk of get. -/
import Derived.Test.YtmfmknpkeniifaaImgA
namespace Go.Proofs.Ytmfmknpkeniifaa
set_option linter.unusedVariables false
open Go.RowKit

theorem u8_and127 (x : Nat) (h : x < 256) : bits BinOp.and IntKind.u8 (x : Int) 127 = ((x % 128 : Nat) : Int) := by
  have h1 : (BitVec.ofInt 8 (x : Int)).toNat = x := by
    rw [BitVec.ofInt_natCast, BitVec.toNat_ofNat]; exact Nat.mod_eq_of_lt (by omega)
  have h2 : (BitVec.ofInt 8 (127 : Int)).toNat = 127 := by decide
  show IntKind.u8.wrap ((BitVec.ofInt 8 (x : Int) &&& BitVec.ofInt 8 (127 : Int)).toNat : Int) = _
  rw [BitVec.toNat_and, h1, h2, show 127 = 2 ^ 7 - 1 from rfl, Nat.and_two_pow_sub_one_eq_mod, show 2 ^ 7 = 128 from rfl, IntKind.wrap_u8']
  omega
theorem or_place (acc y i : Nat) (h : acc < 2 ^ i) : acc ||| y * 2 ^ i = acc + y * 2 ^ i := by
  rw [Nat.or_comm, Nat.mul_comm, ← Nat.two_pow_add_eq_or_of_lt h y, Nat.add_comm]
theorem getR_stop {f i acc x : Nat} {r : List Nat} (h : x < 128) (h2 : i = 0 ∨ 0 < x) : getR (f + 1) i acc (x :: r) = some (acc + x * 128 ^ i, r) := by rw [getR, if_pos h, if_pos h2]
theorem getR_bad {f i acc x : Nat} {r : List Nat} (h : x < 128) (h2 : ¬ (i = 0 ∨ 0 < x)) : getR (f + 1) i acc (x :: r) = none := by rw [getR, if_pos h, if_neg h2]
theorem getR_on {f i acc x : Nat} {r : List Nat} (h : ¬ x < 128) : getR (f + 1) i acc (x :: r) = getR f (i + 1) (acc + x % 128 * 128 ^ i) r := by rw [getR, if_neg h]
theorem getR_nil (f i acc : Nat) : getR f i acc [] = none := by cases f <;> rfl
theorem getR_none (i acc : Nat) (b : List Nat) : getR 0 i acc b = none := by rfl
attribute [local irreducible] getR

theorem slb_nil {w : World} {b off : Nat} : SlB w (some ⟨b, off, none⟩) 0 0 [] := ⟨rfl, Nat.le_refl _, Nat.zero_le _, (fun h => by cases h), fun i hi => by simp [byts] at hi⟩

set_option maxRecDepth 100000 in
set_option maxHeartbeats 4000000 in
theorem get_any (a : Option Addr) (n cap : Nat) (l : List Nat) (w : World) (h : SlB w a n cap l) (hb : ∀ x ∈ l, x < 256) :
    Calls Try.prog 82 #[.slice a n cap] w fun e w' => Below w.heap.size w w' ∧ ((∃ (v : Nat) (ra : Option Addr) (rn rc : Nat) (r : List Nat), e = .returned (.tuple #[.int .i64 v, .slice ra rn rc, .bool true]) ∧ Kp (getL l = some (v, r)) ∧ Kp (SlB w' ra rn rc r) ∧ Kp (blk ra = blk a)) ∨ (∃ (v : Int) (ra : Option Addr) (rn rc : Nat), e = .returned (.tuple #[.int .i64 v, .slice ra rn rc, .bool false]) ∧ Kp (getL l = none))) := by
  have H := Kp.mk h
  have HB := Kp.mk hb
  have HL := Kp.mk h.len
  have hcap : n ≤ cap := SlC.le h
  clear h hb
  obtain ⟨wo, rfl⟩ : ∃ wo : World, wo = w := ⟨_, rfl⟩
  go_enter Try.func82, Try.ntmps82
  go_wp2
  go_loopw [5, 6] (fun v i wr => ∃ (k acc : Nat), k ≤ 4 ∧ k ≤ n ∧ i = .int .i64 k ∧ v = .int .i64 acc ∧ acc < 128 ^ k ∧ Kp (getL l = getR (4 - k) k acc (l.drop k)) ∧ Kp (Below wo.heap.size wo wr)) (fun _ i _ => 4 - (intOf i).toNat)
  case atStart => exact ⟨0, 0, by omega, by omega, rfl, rfl, by simp, ⟨rfl⟩, ⟨Below.refl _ _⟩⟩
  case round =>
    obtain ⟨k, acc, hk4, hkn, rfl, rfl, hacc, HG, HBL⟩ := hrel
    by_cases hlt : k < n
    · by_cases hk : k < 4
      · have hkl : k < l.length := by rw [HL.out]; exact hlt
        obtain ⟨b, off, rfl, cx⟩ := byte_cell (SlB.below H.out HBL.out) k hlt
        have hx := HB.out (l.getD k 0) (by rw [getD_at _ _ hkl]; exact List.getElem_mem _)
        have hdrop : l.drop k = l.getD k 0 :: l.drop (k + 1) := by rw [getD_at _ _ hkl]; exact (List.getElem_cons_drop ..).symm
        rw [hdrop, show 4 - k = (3 - k) + 1 by omega] at HG
        have HDR := Kp.mk (SlB.drop H.out (show k + 1 ≤ n by omega))
        clear hdrop
        generalize l.getD k 0 = x at *
        have e1 := u8_and127 x hx
        have hor : Kp (acc ||| x % 128 * 2 ^ (7 * k) = acc + x % 128 * 128 ^ k) := ⟨by
          rw [or_place _ _ _ (by rw [Nat.pow_mul]; exact hacc), Nat.pow_mul]⟩
        have hnl : acc + x % 128 * 128 ^ k < 128 ^ (k + 1) := by
          have h1 : x % 128 * 128 ^ k ≤ 127 * 128 ^ k := Nat.mul_le_mul_right _ (by omega)
          rw [Nat.pow_succ]; omega
        obtain ⟨nv, hnv⟩ : ∃ nv, nv = acc + x % 128 * 128 ^ k := ⟨_, rfl⟩
        rw [← hnv] at hor hnl
        have HNV := Kp.mk hnv
        clear hnv
        have hcc : k + 1 = cap ∨ k + 1 < cap := by omega
        have HON := Kp.mk (fun h : ¬ x < 128 => getR_on (f := 3 - k) (i := k) (acc := acc) (r := l.drop (k + 1)) h)
        have HST := Kp.mk (fun (h : x < 128) (h2 : k = 0 ∨ 0 < x) => getR_stop (f := 3 - k) (i := k) (acc := acc) (r := l.drop (k + 1)) h h2)
        have HBD := Kp.mk (fun (h : x < 128) (h2 : ¬ (k = 0 ∨ 0 < x)) => getR_bad (f := 3 - k) (i := k) (acc := acc) (r := l.drop (k + 1)) h h2)
        rw [← HNV.out, ← HG.out] at HON
        rw [← HG.out] at HST HBD
        rcases (show k = 0 ∨ k = 1 ∨ k = 2 ∨ k = 3 by omega) with rfl | rfl | rfl | rfl
        · have e2 : bits BinOp.or IntKind.i64 (acc : Int) ((x : Int) % 128) = (nv : Int) := by
            have h1 := i64_or_nat acc (x % 128 * 1) (by omega) (by omega)
            have e : 2 ^ (7 * 0) = 1 := by decide
            rw [e] at hor
            rw [hor.out] at h1
            rw [← h1]
            congr 1
            try omega
          simp only [Nat.add_zero] at cx
          clear hor
          by_cases hs : x < 128
          · have ts : decide ((x : Int) < 128) = true := decide_eq_true (by omega)
            have lcx := later_cell cx
            have HOK := Kp.mk (show getL l = some (nv, l.drop (0 + 1)) from by rw [HST.out hs (.inl rfl)]; rw [HNV.out, Nat.mod_eq_of_lt hs])
            rcases hcc with hcc | hcc
            · obtain rfl : cap = 1 := by omega
              obtain rfl : n = 1 := by omega
              have HSL := Kp.mk (show ∀ W, Below wo.heap.size wo W → Kp (SlB W (some ⟨b, off, none⟩) 0 0 (l.drop (0 + 1))) from fun W hb => ⟨by rw [List.drop_of_length_le (by rw [HL.out]; omega)]; exact slb_nil⟩)
              go_wp2
              refine region_later (by kernel_rfl) (by kernel_rfl) ?_
              iterate 17 (go_big_quiet_step (fail))
              refine wpQuiet_nil ?_
              rintro w' ⟨xl, rfl⟩
              have HB6 := Kp.mk (HBL.out.trans (xl.le.mono HBL.out.size))
              clear lcx cx
              go_wp2
              refine bodyPost_ret (v := .tuple #[.int .i64 nv, .slice (some ⟨b, off, none⟩) 0 0, .bool true]) (by simp [results, Try.results82, go_sem]) rfl ?_
              exact ⟨HB6.out, .inl ⟨nv, _, _, _, _, rfl, HOK, HSL.out xl.val HB6.out, ⟨rfl⟩⟩⟩
            · have HSL := Kp.mk (show ∀ W, Below wo.heap.size wo W → Kp (SlB W (some ⟨b, off + 1, none⟩) (n - 1) (cap - 1) (l.drop (0 + 1))) from fun W hb => ⟨SlB.below HDR.out hb⟩)
              have hn1 : 1 ≤ n := by omega
              go_wp2
              refine region_later (by kernel_rfl) (by kernel_rfl) ?_
              iterate 17 (go_big_quiet_step (fail))
              refine wpQuiet_nil ?_
              rintro w' ⟨xl, rfl⟩
              have HB6 := Kp.mk (HBL.out.trans (xl.le.mono HBL.out.size))
              clear lcx cx
              go_wp2
              refine bodyPost_ret (v := .tuple #[.int .i64 nv, .slice (some ⟨b, off + 1, none⟩) (n - 1) (cap - 1), .bool true]) (by simp [results, Try.results82, go_sem]) rfl ?_
              exact ⟨HB6.out, .inl ⟨nv, _, _, _, _, rfl, HOK, HSL.out xl.val HB6.out, ⟨rfl⟩⟩⟩
          · have ts : decide ((x : Int) < 128) = false := decide_eq_false (by omega)
            have HG2 := Kp.mk (HON.out hs)
            go_wp2
            go_roundw
            case rel => exact ⟨1, nv, by omega, by omega, by first | rfl | go_num, rfl, hnl, HG2, HBL⟩
            case measure => simp [intOf]
        · have e2 : bits BinOp.or IntKind.i64 (acc : Int) ((x : Int) % 128 * 128) = (nv : Int) := by
            have h1 := i64_or_nat acc (x % 128 * 128) (by omega) (by omega)
            have e : 2 ^ (7 * 1) = 128 := by decide
            rw [e] at hor
            rw [hor.out] at h1
            rw [← h1]
            congr 1
            try omega
          skip
          clear hor
          by_cases hs : x < 128
          · have ts : decide ((x : Int) < 128) = true := decide_eq_true (by omega)
            have lcx := later_cell cx
            by_cases hx0 : 0 < x
            · have t0 : decide ((0 : Int) < x) = true := decide_eq_true (by omega)
              have HOK := Kp.mk (show getL l = some (nv, l.drop (1 + 1)) from by rw [HST.out hs (.inr hx0)]; rw [HNV.out, Nat.mod_eq_of_lt hs])
              rcases hcc with hcc | hcc
              · obtain rfl : cap = 2 := by omega
                obtain rfl : n = 2 := by omega
                have HSL := Kp.mk (show ∀ W, Below wo.heap.size wo W → Kp (SlB W (some ⟨b, off, none⟩) 0 0 (l.drop (1 + 1))) from fun W hb => ⟨by rw [List.drop_of_length_le (by rw [HL.out]; omega)]; exact slb_nil⟩)
                go_wp2
                refine region_later (by kernel_rfl) (by kernel_rfl) ?_
                iterate 17 (go_big_quiet_step (fail))
                refine wpQuiet_nil ?_
                rintro w' ⟨xl, rfl⟩
                have HB6 := Kp.mk (HBL.out.trans (xl.le.mono HBL.out.size))
                clear lcx cx
                go_wp2
                refine bodyPost_ret (v := .tuple #[.int .i64 nv, .slice (some ⟨b, off, none⟩) 0 0, .bool true]) (by simp [results, Try.results82, go_sem]) rfl ?_
                exact ⟨HB6.out, .inl ⟨nv, _, _, _, _, rfl, HOK, HSL.out xl.val HB6.out, ⟨rfl⟩⟩⟩
              · have HSL := Kp.mk (show ∀ W, Below wo.heap.size wo W → Kp (SlB W (some ⟨b, off + 2, none⟩) (n - 2) (cap - 2) (l.drop (1 + 1))) from fun W hb => ⟨SlB.below HDR.out hb⟩)
                have hn1 : 2 ≤ n := by omega
                go_wp2
                refine region_later (by kernel_rfl) (by kernel_rfl) ?_
                iterate 17 (go_big_quiet_step (fail))
                refine wpQuiet_nil ?_
                rintro w' ⟨xl, rfl⟩
                have HB6 := Kp.mk (HBL.out.trans (xl.le.mono HBL.out.size))
                clear lcx cx
                go_wp2
                refine bodyPost_ret (v := .tuple #[.int .i64 nv, .slice (some ⟨b, off + 2, none⟩) (n - 2) (cap - 2), .bool true]) (by simp [results, Try.results82, go_sem]) rfl ?_
                exact ⟨HB6.out, .inl ⟨nv, _, _, _, _, rfl, HOK, HSL.out xl.val HB6.out, ⟨rfl⟩⟩⟩
            · have t0 : decide ((0 : Int) < x) = false := decide_eq_false (by omega)
              have HOK := Kp.mk (HBD.out hs (by omega))
              rcases hcc with hcc | hcc
              · obtain rfl : cap = 2 := by omega
                obtain rfl : n = 2 := by omega
                go_wp2
                refine region_later (by kernel_rfl) (by kernel_rfl) ?_
                iterate 17 (go_big_quiet_step (fail))
                refine wpQuiet_nil ?_
                rintro w' ⟨xl, rfl⟩
                have HB6 := Kp.mk (HBL.out.trans (xl.le.mono HBL.out.size))
                clear lcx cx
                go_wp2
                refine bodyPost_ret (v := .tuple #[.int .i64 nv, .slice (some ⟨b, off, none⟩) 0 0, .bool false]) (by simp [results, Try.results82, go_sem]) rfl ?_
                exact ⟨HB6.out, .inr ⟨nv, _, _, _, rfl, HOK⟩⟩
              · have hn1 : 2 ≤ n := by omega
                go_wp2
                refine region_later (by kernel_rfl) (by kernel_rfl) ?_
                iterate 17 (go_big_quiet_step (fail))
                refine wpQuiet_nil ?_
                rintro w' ⟨xl, rfl⟩
                have HB6 := Kp.mk (HBL.out.trans (xl.le.mono HBL.out.size))
                clear lcx cx
                go_wp2
                refine bodyPost_ret (v := .tuple #[.int .i64 nv, .slice (some ⟨b, off + 2, none⟩) (n - 2) (cap - 2), .bool false]) (by simp [results, Try.results82, go_sem]) rfl ?_
                exact ⟨HB6.out, .inr ⟨nv, _, _, _, rfl, HOK⟩⟩
          · have ts : decide ((x : Int) < 128) = false := decide_eq_false (by omega)
            have HG2 := Kp.mk (HON.out hs)
            go_wp2
            go_roundw
            case rel => exact ⟨2, nv, by omega, by omega, by first | rfl | go_num, rfl, hnl, HG2, HBL⟩
            case measure => simp [intOf]
        · have e2 : bits BinOp.or IntKind.i64 (acc : Int) ((x : Int) % 128 * 16384) = (nv : Int) := by
            have h1 := i64_or_nat acc (x % 128 * 16384) (by omega) (by omega)
            have e : 2 ^ (7 * 2) = 16384 := by decide
            rw [e] at hor
            rw [hor.out] at h1
            rw [← h1]
            congr 1
            try omega
          skip
          clear hor
          by_cases hs : x < 128
          · have ts : decide ((x : Int) < 128) = true := decide_eq_true (by omega)
            have lcx := later_cell cx
            by_cases hx0 : 0 < x
            · have t0 : decide ((0 : Int) < x) = true := decide_eq_true (by omega)
              have HOK := Kp.mk (show getL l = some (nv, l.drop (2 + 1)) from by rw [HST.out hs (.inr hx0)]; rw [HNV.out, Nat.mod_eq_of_lt hs])
              rcases hcc with hcc | hcc
              · obtain rfl : cap = 3 := by omega
                obtain rfl : n = 3 := by omega
                have HSL := Kp.mk (show ∀ W, Below wo.heap.size wo W → Kp (SlB W (some ⟨b, off, none⟩) 0 0 (l.drop (2 + 1))) from fun W hb => ⟨by rw [List.drop_of_length_le (by rw [HL.out]; omega)]; exact slb_nil⟩)
                go_wp2
                refine region_later (by kernel_rfl) (by kernel_rfl) ?_
                iterate 17 (go_big_quiet_step (fail))
                refine wpQuiet_nil ?_
                rintro w' ⟨xl, rfl⟩
                have HB6 := Kp.mk (HBL.out.trans (xl.le.mono HBL.out.size))
                clear lcx cx
                go_wp2
                refine bodyPost_ret (v := .tuple #[.int .i64 nv, .slice (some ⟨b, off, none⟩) 0 0, .bool true]) (by simp [results, Try.results82, go_sem]) rfl ?_
                exact ⟨HB6.out, .inl ⟨nv, _, _, _, _, rfl, HOK, HSL.out xl.val HB6.out, ⟨rfl⟩⟩⟩
              · have HSL := Kp.mk (show ∀ W, Below wo.heap.size wo W → Kp (SlB W (some ⟨b, off + 3, none⟩) (n - 3) (cap - 3) (l.drop (2 + 1))) from fun W hb => ⟨SlB.below HDR.out hb⟩)
                have hn1 : 3 ≤ n := by omega
                go_wp2
                refine region_later (by kernel_rfl) (by kernel_rfl) ?_
                iterate 17 (go_big_quiet_step (fail))
                refine wpQuiet_nil ?_
                rintro w' ⟨xl, rfl⟩
                have HB6 := Kp.mk (HBL.out.trans (xl.le.mono HBL.out.size))
                clear lcx cx
                go_wp2
                refine bodyPost_ret (v := .tuple #[.int .i64 nv, .slice (some ⟨b, off + 3, none⟩) (n - 3) (cap - 3), .bool true]) (by simp [results, Try.results82, go_sem]) rfl ?_
                exact ⟨HB6.out, .inl ⟨nv, _, _, _, _, rfl, HOK, HSL.out xl.val HB6.out, ⟨rfl⟩⟩⟩
            · have t0 : decide ((0 : Int) < x) = false := decide_eq_false (by omega)
              have HOK := Kp.mk (HBD.out hs (by omega))
              rcases hcc with hcc | hcc
              · obtain rfl : cap = 3 := by omega
                obtain rfl : n = 3 := by omega
                go_wp2
                refine region_later (by kernel_rfl) (by kernel_rfl) ?_
                iterate 17 (go_big_quiet_step (fail))
                refine wpQuiet_nil ?_
                rintro w' ⟨xl, rfl⟩
                have HB6 := Kp.mk (HBL.out.trans (xl.le.mono HBL.out.size))
                clear lcx cx
                go_wp2
                refine bodyPost_ret (v := .tuple #[.int .i64 nv, .slice (some ⟨b, off, none⟩) 0 0, .bool false]) (by simp [results, Try.results82, go_sem]) rfl ?_
                exact ⟨HB6.out, .inr ⟨nv, _, _, _, rfl, HOK⟩⟩
              · have hn1 : 3 ≤ n := by omega
                go_wp2
                refine region_later (by kernel_rfl) (by kernel_rfl) ?_
                iterate 17 (go_big_quiet_step (fail))
                refine wpQuiet_nil ?_
                rintro w' ⟨xl, rfl⟩
                have HB6 := Kp.mk (HBL.out.trans (xl.le.mono HBL.out.size))
                clear lcx cx
                go_wp2
                refine bodyPost_ret (v := .tuple #[.int .i64 nv, .slice (some ⟨b, off + 3, none⟩) (n - 3) (cap - 3), .bool false]) (by simp [results, Try.results82, go_sem]) rfl ?_
                exact ⟨HB6.out, .inr ⟨nv, _, _, _, rfl, HOK⟩⟩
          · have ts : decide ((x : Int) < 128) = false := decide_eq_false (by omega)
            have HG2 := Kp.mk (HON.out hs)
            go_wp2
            go_roundw
            case rel => exact ⟨3, nv, by omega, by omega, by first | rfl | go_num, rfl, hnl, HG2, HBL⟩
            case measure => simp [intOf]
        · have e2 : bits BinOp.or IntKind.i64 (acc : Int) ((x : Int) % 128 * 2097152) = (nv : Int) := by
            have h1 := i64_or_nat acc (x % 128 * 2097152) (by omega) (by omega)
            have e : 2 ^ (7 * 3) = 2097152 := by decide
            rw [e] at hor
            rw [hor.out] at h1
            rw [← h1]
            congr 1
            try omega
          skip
          clear hor
          by_cases hs : x < 128
          · have ts : decide ((x : Int) < 128) = true := decide_eq_true (by omega)
            have lcx := later_cell cx
            by_cases hx0 : 0 < x
            · have t0 : decide ((0 : Int) < x) = true := decide_eq_true (by omega)
              have HOK := Kp.mk (show getL l = some (nv, l.drop (3 + 1)) from by rw [HST.out hs (.inr hx0)]; rw [HNV.out, Nat.mod_eq_of_lt hs])
              rcases hcc with hcc | hcc
              · obtain rfl : cap = 4 := by omega
                obtain rfl : n = 4 := by omega
                have HSL := Kp.mk (show ∀ W, Below wo.heap.size wo W → Kp (SlB W (some ⟨b, off, none⟩) 0 0 (l.drop (3 + 1))) from fun W hb => ⟨by rw [List.drop_of_length_le (by rw [HL.out]; omega)]; exact slb_nil⟩)
                go_wp2
                refine region_later (by kernel_rfl) (by kernel_rfl) ?_
                iterate 17 (go_big_quiet_step (fail))
                refine wpQuiet_nil ?_
                rintro w' ⟨xl, rfl⟩
                have HB6 := Kp.mk (HBL.out.trans (xl.le.mono HBL.out.size))
                clear lcx cx
                go_wp2
                refine bodyPost_ret (v := .tuple #[.int .i64 nv, .slice (some ⟨b, off, none⟩) 0 0, .bool true]) (by simp [results, Try.results82, go_sem]) rfl ?_
                exact ⟨HB6.out, .inl ⟨nv, _, _, _, _, rfl, HOK, HSL.out xl.val HB6.out, ⟨rfl⟩⟩⟩
              · have HSL := Kp.mk (show ∀ W, Below wo.heap.size wo W → Kp (SlB W (some ⟨b, off + 4, none⟩) (n - 4) (cap - 4) (l.drop (3 + 1))) from fun W hb => ⟨SlB.below HDR.out hb⟩)
                have hn1 : 4 ≤ n := by omega
                go_wp2
                refine region_later (by kernel_rfl) (by kernel_rfl) ?_
                iterate 17 (go_big_quiet_step (fail))
                refine wpQuiet_nil ?_
                rintro w' ⟨xl, rfl⟩
                have HB6 := Kp.mk (HBL.out.trans (xl.le.mono HBL.out.size))
                clear lcx cx
                go_wp2
                refine bodyPost_ret (v := .tuple #[.int .i64 nv, .slice (some ⟨b, off + 4, none⟩) (n - 4) (cap - 4), .bool true]) (by simp [results, Try.results82, go_sem]) rfl ?_
                exact ⟨HB6.out, .inl ⟨nv, _, _, _, _, rfl, HOK, HSL.out xl.val HB6.out, ⟨rfl⟩⟩⟩
            · have t0 : decide ((0 : Int) < x) = false := decide_eq_false (by omega)
              have HOK := Kp.mk (HBD.out hs (by omega))
              rcases hcc with hcc | hcc
              · obtain rfl : cap = 4 := by omega
                obtain rfl : n = 4 := by omega
                go_wp2
                refine region_later (by kernel_rfl) (by kernel_rfl) ?_
                iterate 17 (go_big_quiet_step (fail))
                refine wpQuiet_nil ?_
                rintro w' ⟨xl, rfl⟩
                have HB6 := Kp.mk (HBL.out.trans (xl.le.mono HBL.out.size))
                clear lcx cx
                go_wp2
                refine bodyPost_ret (v := .tuple #[.int .i64 nv, .slice (some ⟨b, off, none⟩) 0 0, .bool false]) (by simp [results, Try.results82, go_sem]) rfl ?_
                exact ⟨HB6.out, .inr ⟨nv, _, _, _, rfl, HOK⟩⟩
              · have hn1 : 4 ≤ n := by omega
                go_wp2
                refine region_later (by kernel_rfl) (by kernel_rfl) ?_
                iterate 17 (go_big_quiet_step (fail))
                refine wpQuiet_nil ?_
                rintro w' ⟨xl, rfl⟩
                have HB6 := Kp.mk (HBL.out.trans (xl.le.mono HBL.out.size))
                clear lcx cx
                go_wp2
                refine bodyPost_ret (v := .tuple #[.int .i64 nv, .slice (some ⟨b, off + 4, none⟩) (n - 4) (cap - 4), .bool false]) (by simp [results, Try.results82, go_sem]) rfl ?_
                exact ⟨HB6.out, .inr ⟨nv, _, _, _, rfl, HOK⟩⟩
          · have ts : decide ((x : Int) < 128) = false := decide_eq_false (by omega)
            have HG2 := Kp.mk (HON.out hs)
            go_wp2
            go_roundw
            case rel => exact ⟨4, nv, by omega, by omega, by first | rfl | go_num, rfl, hnl, HG2, HBL⟩
            case measure => simp [intOf]
      · have hk4' : k = 4 := by omega
        subst hk4'
        have HN := Kp.mk (show getL l = none from by rw [HG.out]; exact getR_none _ _ _)
        go_wp2
        refine bodyPost_ret (v := .tuple #[.int .i64 0, .slice none 0 0, .bool false]) (by simp [results, Try.results82, go_sem]) rfl ?_
        exact ⟨HBL.out, .inr ⟨0, none, 0, 0, rfl, HN⟩⟩
    · obtain rfl : k = n := by omega
      have HN := Kp.mk (show getL l = none from by rw [HG.out, List.drop_of_length_le (by rw [HL.out]; exact Nat.le_refl _)]; exact getR_nil _ _ _)
      go_wp2
      refine bodyPost_ret (v := .tuple #[.int .i64 0, .slice none 0 0, .bool false]) (by simp [results, Try.results82, go_sem]) rfl ?_
      exact ⟨HBL.out, .inr ⟨0, none, 0, 0, rfl, HN⟩⟩

end Go.Proofs.Ytmfmknpkeniifaa
