/- Package hull: the walk of side. -/
import Derived.Test.YtlmdlholmlbcbaaHulT
import Derived.Test.YtlmdlholmlbcbaaHulC
import Derived.Test.YtlmdlholmlbcbaaPtC
namespace Go.Proofs.Ytlmdlholmlbcbaa
set_option linter.unusedVariables false
open Go.RowKit

theorem pop_len (g : Nat → Pt) (c : Nat) : ∀ S, (popL g c S).length ≤ S.length := by
  intro S
  induction S with
  | nil => exact Nat.le_refl _
  | cons b S ih =>
    cases S with
    | nil => exact Nat.le_refl _
    | cons a S =>
      rw [popL]
      split
      · have := ih; simp at *; omega
      · exact Nat.le_refl _
theorem side_len (g : Nat → Pt) : ∀ (l S : List Nat), (sideS g S l).length ≤ S.length + l.length := by
  intro l
  induction l with
  | nil => intro S; exact Nat.le_refl _
  | cons c l ih =>
    intro S
    have h1 := ih (c :: popL g c S)
    have h2 := pop_len g c S
    simp only [List.length_cons] at *
    show (sideS g (c :: popL g c S) l).length ≤ _
    omega
theorem pop_mem (g : Nat → Pt) (c : Nat) : ∀ S x, x ∈ popL g c S → x ∈ S := by
  intro S
  induction S with
  | nil => intro x h; exact h
  | cons b S ih =>
    cases S with
    | nil => intro x h; exact h
    | cons a S =>
      intro x h
      rw [popL] at h
      split at h
      · exact List.mem_cons_of_mem _ (ih x h)
      · exact h
theorem side_mem (g : Nat → Pt) : ∀ (l S : List Nat) x, x ∈ sideS g S l → x ∈ S ∨ x ∈ l := by
  intro l
  induction l with
  | nil => intro S x h; exact .inl h
  | cons c l ih =>
    intro S x h
    rcases ih (c :: popL g c S) x h with h | h
    · rcases List.mem_cons.1 h with rfl | h
      · exact .inr (by simp)
      · exact .inl (pop_mem g c S x h)
    · exact .inr (List.mem_cons_of_mem _ h)
/-- The stack behind the first k of a row. -/
def sideN (g : Nat → Pt) (O : List Nat) (k : Nat) : List Nat := sideS g [] (O.take k)
theorem sideN_zero (g : Nat → Pt) (O : List Nat) : sideN g O 0 = [] := rfl
theorem sideN_succ (g : Nat → Pt) (O : List Nat) (k : Nat) (h : k < O.length) : sideN g O (k + 1) = O.getD k 0 :: popL g (O.getD k 0) (sideN g O k) := by
  unfold sideN sideS
  rw [List.take_succ_eq_append_getElem h, List.foldl_append, getD_at _ _ h]; rfl
theorem sideN_all (g : Nat → Pt) (O : List Nat) : sideN g O O.length = sideS g [] O := by unfold sideN; rw [List.take_length]
theorem sideN_len (g : Nat → Pt) (O : List Nat) (k : Nat) : (sideN g O k).length ≤ k := by
  have := side_len g (O.take k) []
  simp only [List.length_nil, List.length_take] at this
  unfold sideN; omega
theorem sideN_mem (g : Nat → Pt) (O : List Nat) (k : Nat) : ∀ x ∈ sideN g O k, x ∈ O := fun x h => by
  rcases side_mem g _ _ x h with h | h
  · simp at h
  · exact List.mem_of_mem_take h
theorem pop_stop (g : Nat → Pt) (c : Nat) (S : List Nat) (h : S.length ≤ 1) : popL g c S = S := by
  match S, h with
  | [], _ => rfl
  | [b], _ => rfl
theorem pop_keep {g : Nat → Pt} {c b a : Nat} {r : List Nat} (h : ¬ turnP (g a) (g b) (g c) ≤ 0) : popL g c (b :: a :: r) = b :: a :: r := by rw [popL, if_neg h]
theorem pop_drop {g : Nat → Pt} {c b a : Nat} {r : List Nat} (h : turnP (g a) (g b) (g c) ≤ 0) : popL g c (b :: a :: r) = popL g c (a :: r) := by rw [popL, if_pos h]
attribute [local irreducible] popL
attribute [irreducible] sideN

/-- The points, by place. -/
def ptAt (L : List Pt) (i : Nat) : Pt := L.getD i pt0
theorem own_back {w : World} {B g n c : Nat} {T : List Nat} {t : Nat} (h : w.ownsRow B 3 1 (.slice (some ⟨g, 0, none⟩) n c) n (ints (((t :: T).reverse).map Int.ofNat))) (hl : T.length + 1 = n) : w.ownsRow B 3 1 (.slice (some ⟨g, 0, none⟩) T.length c) T.length (ints (T.reverse.map Int.ofNat)) := by
  have := own_front h (m := T.length) (by omega)
  have e : (ints (((t :: T).reverse).map Int.ofNat)).take T.length = ints (T.reverse.map Int.ofNat) := by
    simp only [List.reverse_cons, List.map_append, ints_append]
    rw [List.take_append_of_le_length (by rw [ints_length]; simp)]
    exact List.take_of_length_le (by rw [ints_length]; simp)
  rwa [e] at this

set_option maxRecDepth 100000 in
set_option maxHeartbeats 8000000 in
theorem side_any (a : Option Addr) (cap n : Nat) (L : List Pt) (oa : Option Addr) (oc m : Nat) (O : List Nat) (w : World) (h : SlF ptL 3 w a n cap L) (hn : n ≤ 1000) (hN : ∀ p ∈ L, p.Near)
    (ho : SlI w oa oc (O.map Int.ofNat)) (hm : O.length = m) (hm1 : m ≤ 1000) (hO : ∀ x ∈ O, x < n) :
    Calls Try.prog 92 #[.slice a n cap, .slice oa m oc] w fun e w' => ∃ ra r rc, e = .returned (.slice ra r rc) ∧ Kp ((sideS (ptAt L) [] O).length = r) ∧ Kp (w'.ownsRow w.heap.size 3 1 (.slice ra r rc) r (ints ((sideS (ptAt L) [] O).reverse.map Int.ofNat))) ∧ Kp (Below w.heap.size w w') := by
  have HLN := Kp.mk (show 0 < n → L.length = n from fun h0 => h.len ptL_len (by omega))
  have H := Kp.mk h
  have HN := Kp.mk hN
  have HO := Kp.mk ho
  have HM := Kp.mk hm
  have HOL := Kp.mk hO
  obtain ⟨B, hB⟩ : ∃ B, B = w.heap.size := ⟨_, rfl⟩
  have HB := Kp.mk hB
  have HNr := Kp.mk (show ∀ i, i < n → (L.getD i pt0).Near from fun i hi => by
    have hl := HLN.out (by omega)
    rw [getD_at _ _ (by omega)]; exact HN.out _ (List.getElem_mem _))
  clear h hN ho hm hO hB HLN HN
  obtain ⟨wo, rfl⟩ : ∃ wo : World, wo = w := ⟨_, rfl⟩
  go_enter Try.func92, Try.ntmps92
  go_wp2
  go_loopw [5, 11] (fun v i wr => ∃ (k r : Nat) (ra : Option Addr) (rc : Nat), k ≤ m ∧ i = .int .i64 k ∧ v = .slice ra r rc ∧ Kp ((sideN (ptAt L) O k).length = r) ∧ Kp (wr.ownsRow B 3 1 (.slice ra r rc) r (ints ((sideN (ptAt L) O k).reverse.map Int.ofNat))) ∧ Kp (Below B wo wr)) (fun _ i _ => m - (intOf i).toNat)
  case atStart => exact ⟨0, 0, none, 0, Nat.zero_le _, rfl, rfl, ⟨by rw [sideN_zero]; rfl⟩, ⟨by rw [sideN_zero]; exact World.ownsRow_nil _ _ _ _⟩, ⟨Below.refl _ _⟩⟩
  case round =>
    obtain ⟨k, r, ra, rc, hk, rfl, rfl, HR, HOW, HBL⟩ := hrel
    by_cases hlt : k < m
    · have hrk : r ≤ k := by rw [← HR.out]; exact sideN_len _ _ _
      obtain ⟨ob, oo, rfl, ck⟩ := nat_cell HO.out HM.out k hlt
      have ck' : wr.cell? ⟨ob, oo + k, none⟩ = some (.int .i64 ((O.getD k 0 : Nat) : Int)) := by
        rw [← ck]
        exact HBL.out.cell (p := ⟨ob, oo + k, none⟩) (by rw [HB.out]; exact World.block_lt_of_cell? wo _ ck)
      have HMEM := Kp.mk (sideN_mem (ptAt L) O k)
      have HSU := Kp.mk (sideN_succ (ptAt L) O k (by rw [HM.out]; exact hlt))
      have hcn := HOL.out (O.getD k 0) (by rw [getD_at _ _ (by rw [HM.out]; exact hlt)]; exact List.getElem_mem _)
      clear ck
      generalize O.getD k 0 = c at *
      generalize sideN (ptAt L) O k = S0 at *
      have HRS := Kp.mk (show S0.length = r ∧ ∀ x ∈ S0, x < n from ⟨HR.out, fun x hx => HOL.out x (HMEM.out x hx)⟩)
      clear HR HMEM
      go_wp2
      obtain ⟨w2, rfl⟩ : ∃ w2 : World, w2 = wr := ⟨_, rfl⟩
      go_loopw [5, 8] (fun v i wr => ∃ (r' : Nat) (ra' : Option Addr) (rc' : Nat) (S : List Nat), i = .int .i64 r' ∧ v = .slice ra' r' rc' ∧ r' ≤ k ∧ Kp (S.length = r' ∧ (∀ x ∈ S, x < n) ∧ popL (ptAt L) c S = popL (ptAt L) c S0) ∧ Kp (wr.ownsRow B 3 1 (.slice ra' r' rc') r' (ints (S.reverse.map Int.ofNat))) ∧ Kp (Below B wo wr)) (fun _ i _ => (intOf i).toNat)
      case atStart => exact ⟨r, ra, rc, S0, rfl, rfl, hrk, ⟨HRS.out.1, HRS.out.2, rfl⟩, HOW, HBL⟩
      case round =>
        obtain ⟨r', ra', rc', S, rfl, rfl, hrk', HS, HOW', HBL'⟩ := hrel
        by_cases hr2 : 1 < r'
        · obtain ⟨b, a2, R, rfl⟩ : ∃ b a2 R, S = b :: a2 :: R := by
            match S, HS.out.1 with
            | b :: a2 :: R, _ => exact ⟨b, a2, R, rfl⟩
            | [b], e => simp at e; omega
            | [], e => simp at e; omega
          obtain ⟨g, rfl, hg1, hg2⟩ := own_some HOW'.out (by omega)
          have hRl : R.length + 2 = r' := by have := HS.out.1; simpa using this
          have hrl : (b :: a2 :: R).reverse.length = r' := by rw [List.length_reverse]; exact HS.out.1
          have cb := nat_at HOW'.out hrl (r' - 1) (by omega)
          have ca := nat_at HOW'.out hrl (r' - 2) (by omega)
          have eb : (b :: a2 :: R).reverse.getD (r' - 1) 0 = b := by
            rw [getD_at _ _ (by rw [hrl]; omega), List.getElem_reverse]
            simp only [List.length_cons, show R.length + 1 + 1 - 1 - (r' - 1) = 0 by omega, List.getElem_cons_zero]
          have ea : (b :: a2 :: R).reverse.getD (r' - 2) 0 = a2 := by
            rw [getD_at _ _ (by rw [hrl]; omega), List.getElem_reverse]
            simp only [List.length_cons, show R.length + 1 + 1 - 1 - (r' - 2) = 1 by omega, List.getElem_cons_succ, List.getElem_cons_zero]
          rw [eb] at cb
          rw [ea] at ca
          have hbn : b < n := HS.out.2.1 b (by simp)
          have han : a2 < n := HS.out.2.1 a2 (by simp)
          have HP := Kp.mk (SlF.below H.out (by rw [← HB.out]; exact HBL'.out))
          obtain ⟨pb, po, rfl, x0, x1, x2⟩ := pt_cells HP.out b hbn
          obtain ⟨_, _, e1, y0, y1, y2⟩ := pt_cells HP.out a2 han
          simp only [Option.some.injEq, Addr.mk.injEq, and_true] at e1
          obtain ⟨rfl, rfl⟩ := e1
          obtain ⟨_, _, e1, z0, z1, z2⟩ := pt_cells HP.out c hcn
          simp only [Option.some.injEq, Addr.mk.injEq, and_true] at e1
          obtain ⟨rfl, rfl⟩ := e1
          have CT := Kp.mk (fun W => hturn_any (L.getD a2 pt0) (L.getD b pt0) (L.getD c pt0) W (HNr.out _ han) (HNr.out _ hbn) (HNr.out _ hcn))
          have HPD := Kp.mk (pop_drop (g := ptAt L) (c := c) (b := b) (a := a2) (r := R))
          have HPK := Kp.mk (pop_keep (g := ptAt L) (c := c) (b := b) (a := a2) (r := R))
          unfold ptAt at HPD HPK
          generalize L.getD a2 pt0 = pa at *
          generalize L.getD b pt0 = pb' at *
          generalize L.getD c pt0 = pc at *
          have u0 := later_cell x0
          have u1 := later_cell x1
          have u2 := later_cell x2
          have v0 := later_cell y0
          have v1 := later_cell y1
          have v2 := later_cell y2
          have t0 := later_cell z0
          have t1 := later_cell z1
          have t2 := later_cell z2
          have lb := later_cell cb
          have la := later_cell ca
          have hgt : decide ((1 : Int) < r') = true := decide_eq_true (by omega)
          clear eb ea hrl x0 x1 x2 y0 y1 y2 z0 z1 z2 cb ca
          obtain ⟨T, hT⟩ : ∃ T, T = turnP pa pb' pc := ⟨_, rfl⟩
          rw [← hT] at CT HPD HPK
          clear hT
          have hrc : r' ≤ rc' := by have := (own_slc HOW'.out).le; exact this
          by_cases hle : T ≤ 0
          · have tl : decide (T ≤ 0) = true := decide_eq_true hle
            have HS' := Kp.mk (show (a2 :: R).length = r' - 1 ∧ (∀ x ∈ a2 :: R, x < n) ∧ popL (fun i => L.getD i pt0) c (a2 :: R) = popL (fun i => L.getD i pt0) c S0 from ⟨by simp; omega, fun x hx => HS.out.2.1 x (List.mem_cons_of_mem _ hx), by rw [← HPD.out hle]; exact HS.out.2.2⟩)
            clear HPD HPK hle
            go_wp2
            refine region_later (by kernel_rfl) (by kernel_rfl) ?_
            iterate 26 (go_big_quiet_step ((go_at_call 55; exact q_later (CT.out _))))
            refine wpQuiet_nil ?_
            rintro w' ⟨xl, rfl⟩
            have HOX := Kp.mk (own_below HOW'.out xl.le)
            have HBX := Kp.mk (HBL'.out.trans (xl.le.mono (by rw [HB.out]; exact HBL'.out.size)))
            have HOY := Kp.mk (own_back HOX.out (show (a2 :: R).length + 1 = r' by simp; omega))
            clear u0 u1 u2 v0 v1 v2 t0 t1 t2 lb la CT HOX
            go_wp2
            go_roundw
            case rel => exact ⟨r' - 1, some ⟨g, 0, none⟩, rc', a2 :: R, by go_num, by go_num, by omega, HS', by rw [show r' - 1 = (a2 :: R).length by simp; omega]; exact HOY, HBX⟩
            case measure => simp [intOf]; omega
          · have tl : decide (T ≤ 0) = false := decide_eq_false hle
            have HSK := Kp.mk (show c :: popL (fun i => L.getD i pt0) c S0 = c :: b :: a2 :: R from by
              have e : popL (fun i => L.getD i pt0) c (b :: a2 :: R) = popL (fun i => L.getD i pt0) c S0 := HS.out.2.2
              rw [← e, HPK.out hle])
            clear HPD HPK hle
            go_wp2
            refine region_later (by kernel_rfl) (by kernel_rfl) ?_
            iterate 26 (go_big_quiet_step ((go_at_call 55; exact q_later (CT.out _))))
            refine wpQuiet_nil ?_
            rintro w' ⟨xl, rfl⟩
            have HOX := Kp.mk (own_below HOW'.out xl.le)
            have hBx : B ≤ xl.val.heap.size := by
              have h1 := xl.le.size
              have h2 : B ≤ wr.heap.size := by rw [HB.out]; exact HBL'.out.size
              omega
            have HBX := Kp.mk (HBL'.out.trans (xl.le.mono (by rw [HB.out]; exact HBL'.out.size)))
            clear u0 u1 u2 v0 v1 v2 t0 t1 t2 lb la CT
            generalize xl.val = w5 at *
            go_wp2_with (at_builtin; refine wpList_push tInts rfl _ _ rfl B (some ⟨g, 0, none⟩) r' rc' _ rfl HOX.out 1 1 _ rfl rfl ?d1 (by decide) ?d2 (by decide) hBx ?d4)
            case d1 => simp [Value.oneCell']
            case d2 => omega
            case d4 =>
              intro ya yc w4 ho4 hb4
              have HO4 := Kp.mk (show w4.ownsRow B 3 1 (.slice ya (r' + 1) yc) (r' + 1) (ints ((sideN (ptAt L) O (k + 1)).reverse.map Int.ofNat)) from by
                rw [HSU.out]
                have e : c :: popL (ptAt L) c S0 = c :: b :: a2 :: R := HSK.out
                rw [e, List.reverse_cons, List.map_append, ints_append]; simpa [ints] using ho4)
              have HB4 := Kp.mk (HBX.out.trans hb4)
              have HL4 := Kp.mk (show (sideN (ptAt L) O (k + 1)).length = r' + 1 from by
                rw [HSU.out]
                have e : c :: popL (ptAt L) c S0 = c :: b :: a2 :: R := HSK.out
                rw [e]; simp; omega)
              clear ho4 hb4
              go_wp2
              go_roundw
              case rel => exact ⟨k + 1, r' + 1, ya, yc, by omega, by go_num, by go_num, HL4, HO4, HB4⟩
              case measure => simp [intOf]; omega
        · have hgt : decide ((1 : Int) < r') = false := decide_eq_false (by omega)
          have HSK := Kp.mk (show c :: popL (fun i => L.getD i pt0) c S0 = c :: S from by
            have e := HS.out.2.2
            rw [pop_stop _ _ S (by rw [HS.out.1]; omega)] at e
            rw [e]; rfl)
          go_wp2
          refine region_later (by kernel_rfl) (by kernel_rfl) ?_
          iterate 26 (go_big_quiet_step (fail))
          refine wpQuiet_nil ?_
          rintro w' ⟨xl, rfl⟩
          have HOX := Kp.mk (own_below HOW'.out xl.le)
          have hBx : B ≤ xl.val.heap.size := by
            have h1 := xl.le.size
            have h2 : B ≤ wr.heap.size := by rw [HB.out]; exact HBL'.out.size
            omega
          have HBX := Kp.mk (HBL'.out.trans (xl.le.mono (by rw [HB.out]; exact HBL'.out.size)))
          generalize xl.val = w5 at *
          go_wp2_with (at_builtin; refine wpList_push tInts rfl _ _ rfl B ra' r' rc' _ rfl HOX.out 1 1 _ rfl rfl ?d1 (by decide) ?d2 (by decide) hBx ?d4)
          case d1 => simp [Value.oneCell']
          case d2 => omega
          case d4 =>
            intro ya yc w4 ho4 hb4
            have HO4 := Kp.mk (show w4.ownsRow B 3 1 (.slice ya (r' + 1) yc) (r' + 1) (ints ((sideN (ptAt L) O (k + 1)).reverse.map Int.ofNat)) from by
              rw [HSU.out]
              have e : c :: popL (ptAt L) c S0 = c :: S := HSK.out
              rw [e, List.reverse_cons, List.map_append, ints_append]; simpa [ints] using ho4)
            have HB4 := Kp.mk (HBX.out.trans hb4)
            have HL4 := Kp.mk (show (sideN (ptAt L) O (k + 1)).length = r' + 1 from by
              rw [HSU.out]
              have e : c :: popL (ptAt L) c S0 = c :: S := HSK.out
              rw [e, List.length_cons, HS.out.1])
            clear ho4 hb4
            go_wp2
            go_roundw
            case rel => exact ⟨k + 1, r' + 1, ya, yc, by omega, by go_num, by go_num, HL4, HO4, HB4⟩
            case measure => simp [intOf]; omega
    · obtain rfl : k = m := by omega
      have e : sideN (ptAt L) O k = sideS (ptAt L) [] O := by rw [← HM.out]; exact sideN_all _ _
      have HR2 := Kp.mk (show (sideS (ptAt L) [] O).length = r from by rw [← e]; exact HR.out)
      have HO2 := Kp.mk (show wr.ownsRow wo.heap.size 3 1 (.slice ra r rc) r (ints ((sideS (ptAt L) [] O).reverse.map Int.ofNat)) from by rw [← e, ← HB.out]; exact HOW.out)
      have HB2 := Kp.mk (show Below wo.heap.size wo wr from by rw [← HB.out]; exact HBL.out)
      clear e
      go_wp2
      go_ret
      exact ⟨ra, r, rc, rfl, HR2, HO2, HB2⟩

end Go.Proofs.Ytlmdlholmlbcbaa
