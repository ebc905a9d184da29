/- Package grid: points that may not be; package image: the walk of Load. -/
import Derived.Test.YtmfmknpkeniifaaImgC
namespace Go.Proofs.Ytmfmknpkeniifaa
set_option linter.unusedVariables false
open Go.RowKit

theorem nearG_any (x : Int) (w : World) :
    Calls Try.prog 80 #[.int .i64 x] w fun e w' => e = .returned (.bool (decide (-1048576 ≤ x ∧ x ≤ 1048576))) ∧ w = w' := by
  by_cases h1 : -1048576 ≤ x
  · by_cases h2 : x ≤ 1048576
    · rw [decide_eq_true (And.intro h1 h2)]; exact near_any x w h1 h2
    · rw [decide_eq_false (fun h => h2 h.2)]
      have h1' : decide (-1048576 ≤ x) = true := decide_eq_true h1
      have h2' : decide (x ≤ 1048576) = false := decide_eq_false h2
      go_enter Try.func80, Try.ntmps80
      go_wp2
      go_ret
      exact ⟨rfl, rfl⟩
  · rw [decide_eq_false (fun h => h1 h.1)]
    have h1' : decide (-1048576 ≤ x) = false := decide_eq_false h1
    go_enter Try.func80, Try.ntmps80
    go_wp2
    go_ret
    exact ⟨rfl, rfl⟩

theorem oddBad_any (p : Pt) (w : World) (h : ¬ p.Near) :
    Calls Try.prog 79 #[.agg #[.int .i64 p.x, .int .i64 p.y, .int .i64 p.w]] w fun e w' => e = .returned (.bool true) ∧ w.alloc (.cells #[.int .i64 p.x, .int .i64 p.y, .int .i64 p.w] 26) = w' := by
  obtain ⟨x, y, z⟩ := p
  unfold Pt.Near at h
  dsimp only at h ⊢
  have C1 := Kp.mk (fun W => nearG_any x W)
  have C2 := Kp.mk (fun W => nearG_any y W)
  have C3 := Kp.mk (fun W => nearG_any z W)
  by_cases h1 : -1048576 ≤ x ∧ x ≤ 1048576
  · rw [decide_eq_true h1] at C1
    by_cases h2 : -1048576 ≤ y ∧ y ≤ 1048576
    · rw [decide_eq_true h2] at C2
      rw [decide_eq_false (fun h3 => h ⟨h1, h2, h3⟩)] at C3
      clear h h1 h2
      go_enter Try.func79, Try.ntmps79
      go_wp2_with (go_at_call 80; (first | (with_reducible refine (C1.out _).mono ?_) | (with_reducible refine (C2.out _).mono ?_) | (with_reducible refine (C3.out _).mono ?_)); rintro e w' ⟨rfl, rfl⟩)
      go_ret
      exact ⟨rfl, rfl⟩
    · rw [decide_eq_false h2] at C2
      clear h h1 h2
      go_enter Try.func79, Try.ntmps79
      go_wp2_with (go_at_call 80; (first | (with_reducible refine (C1.out _).mono ?_) | (with_reducible refine (C2.out _).mono ?_) | (with_reducible refine (C3.out _).mono ?_)); rintro e w' ⟨rfl, rfl⟩)
      go_ret
      exact ⟨rfl, rfl⟩
  · rw [decide_eq_false h1] at C1
    clear h h1
    go_enter Try.func79, Try.ntmps79
    go_wp2_with (go_at_call 80; (first | (with_reducible refine (C1.out _).mono ?_) | (with_reducible refine (C2.out _).mono ?_) | (with_reducible refine (C3.out _).mono ?_)); rintro e w' ⟨rfl, rfl⟩)
    go_ret
    exact ⟨rfl, rfl⟩

theorem first_far (L : List Pt) (h : ¬ ∀ p ∈ L, p.Near) : ∃ j, j < L.length ∧ (∀ i, i < j → (L.getD i pt0).Near) ∧ ¬ (L.getD j pt0).Near := by
  induction L with
  | nil => exact absurd (by simp) h
  | cons x L ih =>
    by_cases hx : x.Near
    · obtain ⟨j, h1, h2, h3⟩ := ih (fun h' => h (fun p hp => by
        rcases List.mem_cons.1 hp with rfl | hp
        · exact hx
        · exact h' p hp))
      refine ⟨j + 1, by simp; omega, fun i hi => ?_, by simpa using h3⟩
      cases i with
      | zero => simpa using hx
      | succ i => simpa using h2 i (by omega)
    · exact ⟨0, by simp, fun i hi => by omega, by simpa using hx⟩

set_option maxHeartbeats 2000000 in
theorem someOdd_any (a : Option Addr) (cap n j : Nat) (L : List Pt) (w : World) (h : SlF ptL 3 w a n cap L) (hn : n ≤ 1000000) (hj : j < n) (h1 : ∀ i, i < j → (L.getD i pt0).Near) (h2 : ¬ (L.getD j pt0).Near) :
    Calls Try.prog 108 #[.slice a n cap, .func (.func 79) #[] #[]] w fun e w' => e = .returned (.int .i64 j) ∧ Kp (Below w.heap.size w w') := by
  have HLn := Kp.mk (h.len ptL_len (by omega))
  have H := Kp.mk h
  have HN := Kp.mk h1
  have HJ := Kp.mk h2
  have eg : ∀ args w, (callFunc 79 args).run Try.prog w = .ok (.enter 79 args) w := enters_of Try.func79 (by kernel_rfl) rfl
  clear h h1 h2
  go_enter Try.func108, Try.ntmps108
  go_wp2
  go_loopw [8] (fun i wr => ∃ k : Nat, k ≤ j ∧ i = .int .i64 k ∧ Kp (Below w.heap.size w wr)) (fun i _ => n - (intOf i).toNat)
  case atStart => exact ⟨0, Nat.zero_le _, rfl, ⟨Below.refl _ _⟩⟩
  case round =>
    obtain ⟨k, hk, rfl, HB⟩ := hrel
    have hlt : k < n := by omega
    obtain ⟨b, off, rfl, hbw, co⟩ := (H.out.below HB.out).at ptL_len (by omega) k (by rw [HLn.out]; exact hlt)
    rw [← getD_at L pt0 (by rw [HLn.out]; exact hlt)] at co
    by_cases hkj : k < j
    · have hm := HN.out k hkj
      generalize L.getD k pt0 = p at *
      have C := Kp.mk (odd_any p wr hm)
      have o0 : wr.cell? ⟨b, off + k * 3, none⟩ = some (.int .i64 p.x) := co 0 (by omega)
      have o1 : wr.cell? ⟨b, off + k * 3 + 1, none⟩ = some (.int .i64 p.y) := co 1 (by omega)
      have o2 : wr.cell? ⟨b, off + k * 3 + 2, none⟩ = some (.int .i64 p.w) := co 2 (by omega)
      clear co hm
      go_wp2_with (go_at_fn 79; refine C.out.mono ?_; rintro e w' ⟨rfl, rfl⟩)
      have HB2 := Kp.mk (HB.out.alloc (by exact HB.out.size) (.cells #[.int .i64 p.x, .int .i64 p.y, .int .i64 p.w] 26))
      go_roundw
      case rel => exact ⟨k + 1, by omega, by go_num, HB2⟩
      case measure => simp [intOf]; omega
    · obtain rfl : k = j := by omega
      have hm := HJ.out
      generalize L.getD k pt0 = p at *
      have C := Kp.mk (oddBad_any p wr hm)
      have o0 : wr.cell? ⟨b, off + k * 3, none⟩ = some (.int .i64 p.x) := co 0 (by omega)
      have o1 : wr.cell? ⟨b, off + k * 3 + 1, none⟩ = some (.int .i64 p.y) := co 1 (by omega)
      have o2 : wr.cell? ⟨b, off + k * 3 + 2, none⟩ = some (.int .i64 p.w) := co 2 (by omega)
      clear co hm
      go_wp2_with (go_at_fn 79; refine C.out.mono ?_; rintro e w' ⟨rfl, rfl⟩)
      have HB2 := Kp.mk (HB.out.alloc (by exact HB.out.size) (.cells #[.int .i64 p.x, .int .i64 p.y, .int .i64 p.w] 26))
      go_ret
      exact ⟨rfl, HB2⟩

theorem gcheckBad_any (a : Option Addr) (cap n : Nat) (L : List Pt) (w : World) (h : SlF ptL 3 w a n cap L) (hn : n ≤ 150) (hl : L.length = n) (hN : ¬ ∀ p ∈ L, p.Near) :
    Calls Try.prog 44 #[.slice a n cap] w fun e w' => e = .returned (.int .i64 2) ∧ Kp (Below w.heap.size w w') := by
  obtain ⟨j, hj, h1, h2⟩ := first_far L hN
  have CI := Kp.mk (someOdd_any a cap n j L w h (by omega) (by omega) h1 h2)
  have CC := Kp.mk (show Calls Try.prog 78 #[.slice a n cap, .func (.func 79) #[] #[]] w (fun e w' => e = .returned (.bool true) ∧ Kp (Below w.heap.size w w')) from by
    have hj0 : (0 : Int) ≤ j := by omega
    clear h hN h1 h2 hl
    go_enter Try.func78, Try.ntmps78
    go_wp2_with fail
    refine CI.out.mono ?_
    rintro e w1 ⟨rfl, HB⟩
    go_wp2
    go_ret
    exact ⟨rfl, HB⟩)
  have hn' : ¬ (150 < (n : Int)) := by omega
  clear h hN h1 h2 hl CI
  go_enter Try.func44, Try.ntmps44
  go_wp2_with fail
  refine CC.out.mono ?_
  rintro e w1 ⟨rfl, HB⟩
  go_wp2
  go_ret
  exact ⟨rfl, HB⟩

/-- Points out of numbers. -/
def ptsX : List Nat → List Pt
  | x :: y :: z :: r => ⟨unfN x, unfN y, unfN z⟩ :: ptsX r
  | _ => []
theorem ptsX_cells : ∀ (c : Nat) (xs : List Nat), xs.length = 3 * c → ints (xs.map unfN) = flat ptL (ptsX xs) ∧ (ptsX xs).length = c := by
  intro c
  induction c with
  | zero => intro xs h; obtain rfl : xs = [] := List.length_eq_zero_iff.1 (by omega); exact ⟨rfl, rfl⟩
  | succ c ih =>
    intro xs h
    match xs, h with
    | x :: y :: z :: r, h =>
      obtain ⟨h1, h2⟩ := ih r (by simp at h; omega)
      refine ⟨?_, by simp [ptsX, h2]⟩
      have e : flat ptL (ptsX (x :: y :: z :: r)) = ptL ⟨unfN x, unfN y, unfN z⟩ ++ flat ptL (ptsX r) := by simp [ptsX, flat]
      rw [e, ← h1]
      simp [ints, ptL]
    | [x, y], h => simp at h; omega
    | [x], h => simp at h; omega
    | [], h => simp at h
/-- The number that the last bytes tell. -/
def sumB (t : List Nat) : Nat := t.foldl (fun s x => s * 256 + x) 0
theorem sumB_snoc (t : List Nat) (x : Nat) : sumB (t ++ [x]) = sumB t * 256 + x := by unfold sumB; rw [List.foldl_append]; rfl
/-- What Load comes to. -/
def LoadSays (B : Nat) (w' : World) (l : List Nat) (m : Nat) (ra : Option Addr) (c rc : Nat) (code : Int) : Prop :=
  (c = 0 ∧ code = 6 ∧ crc (l.take m) ≠ sumB (l.drop m)) ∨ (c = 0 ∧ code = 4 ∧ crc (l.take m) = sumB (l.drop m) ∧ ∀ xs, parseL (l.take m) = some (xs, []) → ¬ ∀ p ∈ ptsX xs, p.Near) ∨
  (code = 0 ∧ c ≤ 150 ∧ crc (l.take m) = sumB (l.drop m) ∧ ∃ xs, parseL (l.take m) = some (xs, []) ∧ xs.length = 3 * c ∧ (∀ p ∈ ptsX xs, p.Near) ∧ w'.ownsRow B 26 3 (.slice ra c rc) c (flat ptL (ptsX xs)))

theorem loadShort_any (a : Option Addr) (n cap : Nat) (w : World) (hn : n < 9) :
    Calls Try.prog 17 #[.slice a n cap] w fun e w' => e = .returned (.tuple #[.slice none 0 0, .int .i64 5]) ∧ w = w' := by
  have t : decide ((n : Int) < 9) = true := decide_eq_true (by omega)
  go_enter Try.func17, Try.ntmps17
  go_wp2
  refine bodyPost_ret (v := .tuple #[.slice none 0 0, .int .i64 5]) (by simp [results, Try.results17, go_sem]) rfl ?_
  exact ⟨rfl, rfl⟩

set_option maxRecDepth 100000 in
set_option maxHeartbeats 8000000 in
theorem load_any (a : Option Addr) (m cap : Nat) (l : List Nat) (w : World) (h : SlB w a (m + 4) cap l) (hb : ∀ x ∈ l, x < 256) (h5 : 5 ≤ m) (hm : m ≤ 9223372036854775000) :
    Calls Try.prog 17 #[.slice a (m + 4) cap] w fun e w' => ∃ (ra : Option Addr) (c rc : Nat) (code : Int), e = .returned (.tuple #[.slice ra c rc, .int .i64 code]) ∧ Kp (LoadSays w.heap.size w' l m ra c rc code) ∧ Kp (Below w.heap.size w w') := by
  obtain ⟨b, off, rfl, _⟩ := byte_cell h 0 (by omega)
  have hcap : m + 4 ≤ cap := SlC.le h
  have H := Kp.mk h
  have HB := Kp.mk hb
  have HBODY := Kp.mk (show SlB w (some ⟨b, off, none⟩) m cap (l.take m) from by
    have := SlC.front h (show m ≤ m + 4 by omega)
    rw [Nat.mul_one, byts_take] at this; exact this)
  have HTAIL := Kp.mk (show SlB w (some ⟨b, off + m, none⟩) 4 (cap - m) (l.drop m) from by
    have := SlB.drop h (show m ≤ m + 4 by omega)
    rwa [show m + 4 - m = 4 by omega] at this)
  have HB1 := Kp.mk (show ∀ x ∈ l.take m, x < 256 from fun x hx => hb x (List.mem_of_mem_take hx))
  have HB2 := Kp.mk (show ∀ x ∈ l.drop m, x < 256 from fun x hx => hb x (List.mem_of_mem_drop hx))
  have CS := Kp.mk (fun W (hw : Below w.heap.size w W) => sum_any _ m cap (l.take m) W (SlB.below HBODY.out hw) HBODY.out.len (by omega) HB1.out)
  have CP := Kp.mk (fun W (hw : Below w.heap.size w W) => imgPoints_any _ m cap (l.take m) W (SlB.below HBODY.out hw) HB1.out h5)
  have hcrc := crc_lt (l.take m)
  unfold LoadSays
  generalize l.take m = l1 at *
  generalize l.drop m = l2 at *
  have t9 : decide ((m : Int) + 4 < 9) = false := decide_eq_false (by omega)
  have e0 : IntKind.i64.wrap ((m : Int) + 4 - 4) = m := by rw [show (m : Int) + 4 - 4 = m by omega]; exact IntWalk.i64_in _ (by omega)
  have e1 : IntKind.i64.wrap (m : Int) = m := IntWalk.i64_in _ (by omega)
  clear h hb
  obtain ⟨wo, rfl⟩ : ∃ wo : World, wo = w := ⟨_, rfl⟩
  go_enter Try.func17, Try.ntmps17
  go_wp2
  go_loopw [5, 23] (fun s i wr => ∃ (k v : Nat), k ≤ 4 ∧ i = .int .i64 k ∧ s = .int .i64 v ∧ Kp (v = sumB (l2.take k)) ∧ v < 256 ^ k ∧ Kp (Below wo.heap.size wo wr)) (fun _ i _ => 4 - (intOf i).toNat)
  case atStart => exact ⟨0, 0, by omega, rfl, rfl, ⟨rfl⟩, by simp, ⟨Below.refl _ _⟩⟩
  case round =>
    obtain ⟨k, v, hk, rfl, rfl, HV, hv, HBW⟩ := hrel
    have hl2 := HTAIL.out.len
    by_cases hlt : k < 4
    · obtain ⟨_, _, ee, cx⟩ := byte_cell (SlB.below HTAIL.out HBW.out) k hlt
      simp only [Option.some.injEq, Addr.mk.injEq, and_true] at ee
      obtain ⟨rfl, rfl⟩ := ee
      have hx := HB2.out (l2.getD k 0) (by rw [getD_at _ _ (by omega)]; exact List.getElem_mem _)
      have HV2 := Kp.mk (show v * 256 + l2.getD k 0 = sumB (l2.take (k + 1)) from by
        rw [List.take_succ_eq_append_getElem (by omega), sumB_snoc, ← HV.out, getD_at _ _ (by omega)])
      generalize l2.getD k 0 = x at *
      have hvb : v < 16777216 := by
        rcases (show k = 0 ∨ k = 1 ∨ k = 2 ∨ k = 3 by omega) with rfl | rfl | rfl | rfl <;> omega
      have hv2 : v * 256 + x < 256 ^ (k + 1) := by rw [Nat.pow_succ]; omega
      have e2 : IntKind.i64.wrap ((v : Int) * 256) = ((v * 256 : Nat) : Int) := by
        rw [show (v : Int) * 256 = ((v * 256 : Nat) : Int) by omega]; exact IntWalk.i64_in _ (by omega)
      have e3 : bits BinOp.or IntKind.i64 ((v : Int) * 256) (x : Int) = ((v * 256 + x : Nat) : Int) := by
        have h1 := i64_or_nat (v * 256) x (by omega) (by omega)
        rw [show v * 256 = 2 ^ 8 * v by omega, ← Nat.two_pow_add_eq_or_of_lt hx v] at h1
        rw [show (v : Int) * 256 = ((2 ^ 8 * v : Nat) : Int) by omega, h1]; omega
      generalize v * 256 + x = u at *
      go_wp2
      go_roundw
      case rel => exact ⟨k + 1, u, by omega, by go_num, rfl, HV2, hv2, HBW⟩
      case measure => simp [intOf]; omega
    · obtain rfl : k = 4 := by omega
      rw [List.take_of_length_le (by omega)] at HV
      have CS2 := Kp.mk (CS.out wr HBW.out)
      have CP2 := Kp.mk (CP.out wr HBW.out)
      clear CS CP HTAIL
      obtain ⟨cr, hcr⟩ : ∃ cr, cr = crc l1 := ⟨_, rfl⟩
      rw [← hcr] at CS2 hcrc
      have HCR := Kp.mk hcr
      clear hcr
      by_cases hne : cr = v
      · have tq : ((cr : Int) != (v : Int)) = false := by simp [hne]
        have HEQ := Kp.mk (show crc l1 = sumB l2 from by rw [← HCR.out, hne]; exact HV.out)
        clear hne
        go_wp2_with fail
        refine CS2.out.mono ?_
        rintro e w1 ⟨rfl, rfl⟩
        clear CS2
        go_wp2_with fail
        refine CP2.out.mono ?_
        rintro e w2 ⟨hb2, ⟨ra, c, rc, xs, rfl, hc, HP, HXL, HO⟩ | ⟨ra, rn, rc, rfl, HP⟩⟩
        · have HBW2 := Kp.mk (HBW.out.trans (hb2.mono HBW.out.size))
          obtain ⟨hfl, hpl⟩ := ptsX_cells c xs HXL.out
          rw [hfl] at HO
          have HSP := Kp.mk (show SlF ptL 3 w2 ra c rc (ptsX xs) from own_slc HO.out)
          by_cases hN : ∀ p ∈ ptsX xs, p.Near
          · have CG := Kp.mk (gcheck_any ra rc c _ w2 HSP.out hc hN)
            have HNN := Kp.mk hN
            clear CP2 hb2 hfl hpl hN
            go_wp2_with fail
            refine CG.out.mono ?_
            rintro e w3 ⟨rfl, HB3⟩
            have HBF := Kp.mk (HBW2.out.trans (HB3.out.mono HBW2.out.size))
            have HOF := Kp.mk (own_base (own_below HO.out HB3.out) HBW.out.size)
            clear CG
            go_wp2
            refine bodyPost_ret (v := .tuple #[.slice ra c rc, .int .i64 0]) (by simp [results, Try.results17, go_sem]) rfl ?_
            exact ⟨ra, c, rc, 0, rfl, ⟨.inr (.inr ⟨rfl, hc, HEQ.out, xs, HP.out, HXL.out, HNN.out, HOF.out⟩)⟩, HBF⟩
          · have CG := Kp.mk (gcheckBad_any ra rc c _ w2 HSP.out hc hpl hN)
            have HNN := Kp.mk hN
            clear CP2 hb2 hfl hpl hN
            go_wp2_with fail
            refine CG.out.mono ?_
            rintro e w3 ⟨rfl, HB3⟩
            have HBF := Kp.mk (HBW2.out.trans (HB3.out.mono HBW2.out.size))
            clear CG
            go_wp2
            refine bodyPost_ret (v := .tuple #[.slice none 0 0, .int .i64 4]) (by simp [results, Try.results17, go_sem]) rfl ?_
            refine ⟨none, 0, 0, 4, rfl, ⟨.inr (.inl ⟨rfl, rfl, HEQ.out, fun ys hy => ?_⟩)⟩, HBF⟩
            rw [HP.out] at hy
            simp only [Option.some.injEq, Prod.mk.injEq, and_true] at hy
            rw [← hy]; exact HNN.out
        · have HBW2 := Kp.mk (HBW.out.trans (hb2.mono HBW.out.size))
          clear CP2 hb2
          go_wp2
          refine bodyPost_ret (v := .tuple #[.slice none 0 0, .int .i64 4]) (by simp [results, Try.results17, go_sem]) rfl ?_
          exact ⟨none, 0, 0, 4, rfl, ⟨.inr (.inl ⟨rfl, rfl, HEQ.out, fun ys hy => absurd hy (HP.out ys)⟩)⟩, HBW2⟩
      · have tq : ((cr : Int) != (v : Int)) = true := by simp; omega
        have HNE := Kp.mk (show crc l1 ≠ sumB l2 from by rw [← HCR.out, ← HV.out]; exact hne)
        clear hne CP2
        go_wp2_with fail
        refine CS2.out.mono ?_
        rintro e w1 ⟨rfl, rfl⟩
        go_wp2
        refine bodyPost_ret (v := .tuple #[.slice none 0 0, .int .i64 6]) (by simp [results, Try.results17, go_sem]) rfl ?_
        exact ⟨none, 0, 0, 6, rfl, ⟨.inl ⟨rfl, rfl, HNE.out⟩⟩, HBW⟩

end Go.Proofs.Ytmfmknpkeniifaa
