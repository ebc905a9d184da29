import Derived.Test.YtedchegejalolaaGreatDoorMb0
import Derived.Test.YtedchegejalolaaGreatDoorMb25
import Derived.StillTailTactics
/- slices.Reverse on a slice of int of the caller's own. -/
namespace Go.Proofs.YtedchegejalolaaGreatDoor
set_option linter.unusedVariables false
open Go.RowKit

/-- The first k and the last k exchanged. -/
def revK (l : List Int) (k : Nat) : List Int := (List.range l.length).map fun i => if i < k ∨ l.length - k ≤ i then l.getD (l.length - 1 - i) 0 else l.getD i 0
theorem revK_length (l : List Int) (k : Nat) : (revK l k).length = l.length := by simp [revK]
theorem revK_zero (l : List Int) : revK l 0 = l := by
  apply List.ext_getElem
  · simp [revK]
  · intro i h1 h2
    simp only [revK, List.getElem_map, List.getElem_range]
    rw [if_neg (by omega), getD_at _ _ h2]
theorem revK_half (l : List Int) (k : Nat) (h : l.length ≤ 2 * k + 1) : revK l k = l.reverse := by
  apply List.ext_getElem
  · simp [revK]
  · intro i h1 h2
    have hi : i < l.length := by simpa [revK] using h1
    simp only [revK, List.getElem_map, List.getElem_range, List.getElem_reverse]
    by_cases hc : i < k ∨ l.length - k ≤ i
    · rw [if_pos hc, getD_at _ _ (by omega)]
    · rw [if_neg hc, getD_at _ _ hi]
      congr 1; omega
theorem revK_at (l : List Int) (k i : Nat) (h : k ≤ i) (h2 : i + k < l.length) : (revK l k).getD i 0 = l.getD i 0 := by
  rw [getD_at _ _ (by rw [revK_length]; omega)]
  simp only [revK, List.getElem_map, List.getElem_range]
  rw [if_neg (by omega)]
theorem revK_swap (l : List Int) (k : Nat) (h : 2 * k + 1 < l.length) :
    (((revK l k).set k ((revK l k).getD (l.length - 1 - k) 0)).set (l.length - 1 - k) ((revK l k).getD k 0)) = revK l (k + 1) := by
  rw [revK_at l k k (Nat.le_refl _) (by omega), revK_at l k (l.length - 1 - k) (by omega) (by omega)]
  apply List.ext_getElem
  · simp [revK]
  · intro i h1 h2
    have hi : i < l.length := by rw [revK_length] at h2; exact h2
    rw [List.getElem_set, List.getElem_set]
    by_cases e1 : l.length - 1 - k = i
    · rw [if_pos e1]
      simp only [revK, List.getElem_map, List.getElem_range]
      rw [if_pos (by omega)]
      congr 1; omega
    · rw [if_neg e1]
      by_cases e2 : k = i
      · rw [if_pos e2]
        simp only [revK, List.getElem_map, List.getElem_range]
        rw [if_pos (by omega), e2]
      · rw [if_neg e2]
        simp only [revK, List.getElem_map, List.getElem_range]
        by_cases hc : i < k ∨ l.length - k ≤ i
        · rw [if_pos hc, if_pos (by omega)]
        · rw [if_neg hc, if_neg (by omega)]

theorem rev_cell {w : World} {B e g n cap k : Nat} {o : List Int} (h : w.ownsRow B e 1 (.slice (some ⟨g, 0, none⟩) n cap) n (ints o)) (hl : o.length = n) (hk : k < n) :
    w.cell? ⟨g, k, none⟩ = some (.int .i64 (o.getD k 0)) := by
  rw [h.cellAt k (by omega), List.getElem?_eq_getElem (by rw [ints_length]; omega), ints_get, getD_at _ _ (by omega)]
theorem rev_own {w : World} {B g n cap k q : Nat} {o : List Int} {x y : Int} (h : w.ownsRow B 3 1 (.slice (some ⟨g, 0, none⟩) n cap) n (ints o)) :
    ((w.setCell ⟨g, k, none⟩ (.int .i64 x)).setCell ⟨g, q, none⟩ (.int .i64 y)).drew.ownsRow B 3 1 (.slice (some ⟨g, 0, none⟩) n cap) n (ints ((o.set k x).set q y)) := by
  have h1 := (h.stored k (.int .i64 x)).1
  rw [ints_set] at h1
  have h2 := (h1.stored q (.int .i64 y)).1
  rw [ints_set] at h2
  exact h2
theorem rev_grown (w : World) (g k q : Nat) (x y : Value) : w.grownBy ((w.setCell ⟨g, k, none⟩ x).setCell ⟨g, q, none⟩ y).drew (some g) :=
  grown_drew (grown_trans (grown_set w g k x) (grown_set _ g q y))

set_option maxRecDepth 100000 in
set_option maxHeartbeats 1000000 in
theorem reverse_any (B : Nat) (a : Option Addr) (n cap : Nat) (l : List Int) (w : World) (h : w.ownsRow B 3 1 (.slice a n cap) n (ints l)) (hn : n ≤ 1000000) :
    Calls Tryz.prog 54 #[.slice a n cap] w (fun e w' => e = .returned (.tuple #[]) ∧ w'.ownsRow B 3 1 (.slice a n cap) n (ints l.reverse) ∧ w.grownBy w' (blk a)) := by
  have hl : l.length = n := by have := h.1; rw [ints_length, Nat.mul_one] at this; exact this
  have H := Kp.mk h
  have HL := Kp.mk hl
  clear h hl
  go_enter Tryz.func54, Tryz.ntmps54
  go_wp2
  go_loopw [2, 3] (fun i j wr => ∃ k : Nat, 2 * k ≤ n ∧ i = .int .i64 k ∧ j = .int .i64 ((n : Int) - 1 - k) ∧ wr.ownsRow B 3 1 (.slice a n cap) n (ints (revK l k)) ∧ w.grownBy wr (blk a)) (fun i _ _ => n - (intOf i).toNat)
  case atStart => exact ⟨0, Nat.zero_le _, rfl, by simp, by rw [revK_zero]; exact H.out, grown_refl _ _⟩
  case round =>
    obtain ⟨k, hk, rfl, rfl, hown, hgr⟩ := hrel
    by_cases hlt : 2 * k + 1 < n
    · have HS := Kp.mk (revK_swap l k (by rw [HL.out]; exact hlt))
      have hrl := revK_length l k
      rw [HL.out] at hrl
      obtain ⟨g, rfl, hg, hg2⟩ := own_some hown (by omega)
      obtain ⟨q, hq⟩ : ∃ q : Nat, n - 1 - k = q := ⟨_, rfl⟩
      have hqz : (n : Int) - 1 - k = q := by omega
      rw [hqz]
      have c1 := rev_cell (k := k) hown hrl (by omega)
      have c2 := rev_cell (k := q) hown hrl (by omega)
      have f1 := hown.frozenAt k
      have f2 := hown.frozenAt q
      have hO := Kp.mk hown
      have HQ := Kp.mk hqz
      rw [HL.out, hq] at HS
      have hqn : q < n := by omega
      have hkq : k < q := by omega
      clear hown hq hqz hrl
      generalize revK l k = o at *
      generalize o.getD k 0 = x at *
      generalize o.getD q 0 = y at *
      obtain ⟨v2, hv2⟩ := cell?_setCell_some (w := wr) (p := ⟨g, k, none⟩) (x := .int .i64 y) (q := ⟨g, q, none⟩) (v := .int .i64 y) c2
      go_wp2
      go_region
      go_wp2
      go_roundw
      case rel => exact ⟨k + 1, by omega, by go_num, by rw [show ((n : Int) - 1 - ((k + 1 : Nat) : Int)) = q - 1 by have := HQ.out; omega], by rw [← HS.out]; exact rev_own hO.out, grown_trans hgr (rev_grown wr g k q _ _)⟩
      case measure => simp [intOf]; omega
    · have hfin := Kp.mk (revK_half l k (by rw [HL.out]; omega))
      have hge : ¬ ((k : Int) < (n : Int) - 1 - k) := by omega
      go_wp2
      go_end0
      exact ⟨rfl, by rw [← hfin.out]; exact hown, hgr⟩

end Go.Proofs.YtedchegejalolaaGreatDoor

/- Laws of the walk's list as steps of a region that draws. -/
namespace Go.Proofs.YtedchegejalolaaGreatDoor
set_option linter.unusedVariables false
open Go.RowKit

end Go.Proofs.YtedchegejalolaaGreatDoor

/- Package hull: the walk of corners. -/
namespace Go.Proofs.YtedchegejalolaaGreatDoor
set_option linter.unusedVariables false
open Go.RowKit Go.Sort

set_option maxRecDepth 100000 in
set_option maxHeartbeats 2000000 in
theorem hullSame_any (bs : Nat) (a : Option Addr) (cap n x y : Nat) (L : List Pt) (w : World) (h : SlF ptL 3 w a n cap L) (hn : n ≤ 1000) (hb : w.cell? ⟨bs, 0, none⟩ = some (.slice a n cap)) (hx : x < n) (hy : y < n) :
    Calls Tryz.prog 89 #[.int .i64 x, .int .i64 y, .pointer (some ⟨bs, 0, none⟩)] w fun e w' => e = .returned (.bool (sameP (ptAt L x) (ptAt L y))) ∧ ∃ q, w' = w.drewN q := by
  have hl := h.len ptL_len (by omega)
  obtain ⟨b, off, rfl, x0, x1, x2⟩ := pt_cells h x hx
  obtain ⟨_, _, e1, y0, y1, y2⟩ := pt_cells h y hy
  simp only [Option.some.injEq, Addr.mk.injEq, and_true] at e1
  obtain ⟨rfl, rfl⟩ := e1
  obtain ⟨r, hr⟩ : ∃ r, r = sameP (ptAt L x) (ptAt L y) := ⟨_, rfl⟩
  have HR := Kp.mk (show r = true ↔ (L.getD x pt0).x = (L.getD y pt0).x ∧ (L.getD x pt0).y = (L.getD y pt0).y from by rw [hr]; exact sameP_iff _ _)
  rw [← hr]
  generalize L.getD x pt0 = p at *
  generalize L.getD y pt0 = q at *
  clear hr h hl
  by_cases h1 : p.x = q.x
  · have t1 : (p.x == q.x) = true := by simpa using h1
    by_cases h2 : p.y = q.y
    · have t2 : (p.y == q.y) = true := by simpa using h2
      obtain rfl : r = true := HR.out.2 ⟨h1, h2⟩
      clear h1 h2 HR
      go_enter Tryz.func89, Tryz.ntmps89
      go_wp2
      go_quiet (fail)
      go_wp2
      go_ret
      exact ⟨rfl, _, rfl⟩
    · have t2 : (p.y == q.y) = false := by simpa using h2
      obtain rfl : r = false := by cases r with | false => rfl | true => exact absurd (HR.out.1 rfl).2 h2
      clear h1 h2 HR
      go_enter Tryz.func89, Tryz.ntmps89
      go_wp2
      go_quiet (fail)
      go_wp2
      go_ret
      exact ⟨rfl, _, rfl⟩
  · have t1 : (p.x == q.x) = false := by simpa using h1
    obtain rfl : r = false := by cases r with | false => rfl | true => exact absurd (HR.out.1 rfl).1 h1
    clear h1 HR
    go_enter Tryz.func89, Tryz.ntmps89
    go_wp2
    go_quiet (fail)
    go_wp2
    go_ret
    exact ⟨rfl, _, rfl⟩

/-- What the corners of the points L are: K, the places by x and y, each once; C, the corners. -/
structure IsCorners (L : List Pt) (K C : List Nat) : Prop where
  up : K.Pairwise (fun a b => lx (ptAt L a) (ptAt L b))
  lt : ∀ x ∈ K, x < L.length
  all : ∀ i, i < L.length → ∃ x ∈ K, (ptAt L x).x = (ptAt L i).x ∧ (ptAt L x).y = (ptAt L i).y
  one : K.length = 1 → C = K
  two : 2 ≤ K.length → C = (sideS (ptAt L) [] K).reverse.dropLast ++ (sideS (ptAt L) [] K.reverse).reverse.dropLast
  pos : 0 < K.length
theorem corners_kept {L : List Pt} {O : List Nat} (h : IsOrder L O) (hL : 0 < L.length) :
    (kept (ptAt L) O O.length).Pairwise (fun a b => lx (ptAt L a) (ptAt L b)) ∧ (∀ x ∈ kept (ptAt L) O O.length, x < L.length) ∧ (∀ i, i < L.length → ∃ x ∈ kept (ptAt L) O O.length, (ptAt L x).x = (ptAt L i).x ∧ (ptAt L x).y = (ptAt L i).y) ∧ 0 < (kept (ptAt L) O O.length).length := by
  have hl := h.len
  refine ⟨kept_up (fun i j hij hj => ?_) _ (Nat.le_refl _), fun x hx => ?_, fun i hi => ?_, kept_pos _ _ _ (by omega)⟩
  · have := h.up i j hij hj
    unfold lexLe at this
    unfold lx0 ptAt
    omega
  · obtain ⟨i, hi, rfl⟩ := kept_mem _ _ _ (Nat.le_refl _) x hx
    exact h.lt i hi
  · have hm : i ∈ O := h.perm.mem_iff.2 (List.mem_range.2 hi)
    obtain ⟨k, hk, rfl⟩ := List.getElem_of_mem hm
    rw [← getD_at O 0 hk]
    exact kept_all _ _ _ k hk
theorem dropLast_take {α : Type _} (l : List α) : l.dropLast = l.take (l.length - 1) := List.dropLast_eq_take
theorem sl_front {w : World} {g c n : Nat} {B : Nat} {X : List Nat} (h : w.ownsRow B 3 1 (.slice (some ⟨g, 0, none⟩) n c) n (ints (X.map Int.ofNat))) (hl : X.length = n) : w.ownsRow B 3 1 (.slice (some ⟨g, 0, none⟩) (n - 1) c) (n - 1) (ints (X.dropLast.map Int.ofNat)) := by
  have := own_front h (m := n - 1) (by omega)
  rw [dropLast_take, hl]
  simpa [ints] using this

theorem ends_ne {g : Nat → Pt} (K : List Nat) (h2 : 2 ≤ K.length) (hl : K.Pairwise (fun a b => lx (g a) (g b))) : K.getD 0 0 ≠ K.getD (K.length - 1) 0 := fun e => by
  have h := List.pairwise_iff_getElem.1 hl 0 (K.length - 1) (by omega) (by omega) (by omega)
  rw [← getD_at K 0 (by omega), ← getD_at K 0 (by omega), e] at h
  unfold lx at h; omega

set_option maxRecDepth 100000 in
set_option maxHeartbeats 4000000 in
theorem corners_own (a : Option Addr) (cap m : Nat) (L : List Pt) (w : World) (h : SlF ptL 3 w a (m + 1) cap L) (hm : m + 1 ≤ 1000) (hN : ∀ p ∈ L, p.Near) :
    Calls Tryz.prog 58 #[.slice a (m + 1) cap] w fun e w' => ∃ ra r rc K C, e = .returned (.slice ra r rc) ∧ Kp (IsCorners L K C) ∧ Kp (C.length = r) ∧ r ≤ 2000 ∧ Kp (w'.ownsRow w.heap.size 3 1 (.slice ra r rc) r (ints (C.map Int.ofNat))) ∧ Kp (Below w.heap.size w w') := by
  have HL := Kp.mk (h.len ptL_len (by omega))
  have HNR := Kp.mk hN
  have HA := Kp.mk (below_alloc (Nat.le_refl w.heap.size) (.cells #[.slice a (m + 1) cap] 42))
  have HBX := Kp.mk (Box.new w #[.slice a (m + 1) cap] 42)
  have H := Kp.mk (SlF.below h HA.out)
  have HLT := Kp.mk (show ∀ k, blk a = some k → k < w.heap.size from fun k hk => by
    obtain ⟨k', h1, h2⟩ := SlC.lt h (by rw [flat_length ptL_len, HL.out]; omega)
    rw [h1] at hk; cases hk; exact h2)
  have hsz := alloc_size w (.cells #[.slice a (m + 1) cap] 42)
  have eg : ∀ args w, (callFunc 87 args).run Tryz.prog w = .ok (.enter 87 args) w := enters_of Tryz.func87 (by kernel_rfl) rfl
  have eg2 : ∀ args w, (callFunc 89 args).run Tryz.prog w = .ok (.enter 89 args) w := enters_of Tryz.func89 (by kernel_rfl) rfl
  clear h hN
  go_enter Tryz.func58, Tryz.ntmps58
  go_wp2
  obtain ⟨bs, hbs⟩ : ∃ bs, bs = w.heap.size := ⟨_, rfl⟩
  obtain ⟨w1, hw1⟩ : ∃ w1, w1 = w.alloc (.cells #[.slice a (m + 1) cap] 42) := ⟨_, rfl⟩
  rw [← hw1] at HA HBX H hsz ⊢
  rw [← hbs] at HA HBX HLT hsz ⊢
  have HBS := Kp.mk hbs
  have HSZ := Kp.mk hsz
  clear hw1 hbs hsz
  go_loopw [3, 9] (fun x i wr => ∃ (k : Nat) (ra : Option Addr) (rc : Nat), k ≤ m + 1 ∧ i = .int .i64 k ∧ x = .slice ra k rc ∧ Kp (wr.ownsRow (bs + 1) 3 1 (.slice ra k rc) k (ints ((List.range k).map Int.ofNat))) ∧ Kp (Below (bs + 1) w1 wr)) (fun _ i _ => m + 1 - (intOf i).toNat)
  case atStart => exact ⟨0, none, 0, Nat.zero_le _, rfl, rfl, ⟨World.ownsRow_nil _ _ _ _⟩, ⟨Below.refl _ _⟩⟩
  case round =>
    obtain ⟨k, ra, rc, hk, rfl, rfl, HO, HB⟩ := hrel
    by_cases hlt : k < m + 1
    · have hsr : bs + 1 ≤ wr.heap.size := by rw [← HSZ.out]; exact HB.out.size
      go_wp2_with (at_builtin; refine wpList_push tInts rfl _ _ rfl (bs + 1) ra k rc _ rfl HO.out 1 1 _ rfl rfl ?d1 (by decide) ?d2 (by decide) hsr ?d4)
      case d1 => simp [Value.oneCell']
      case d2 => omega
      case d4 =>
        intro ya yc w4 ho4 hb4
        have HO4 := Kp.mk (show w4.ownsRow (bs + 1) 3 1 (.slice ya (k + 1) yc) (k + 1) (ints ((List.range (k + 1)).map Int.ofNat)) from by
          rw [ints_range_succ]; exact ho4)
        have HB4 := Kp.mk (HB.out.trans hb4)
        clear ho4 hb4
        go_wp2
        go_roundw
        case rel => exact ⟨k + 1, ya, yc, by omega, by go_num, rfl, HO4, HB4⟩
        case measure => simp [intOf]; omega
    · obtain rfl : k = m + 1 := by omega
      have hsr : bs + 1 ≤ wr.heap.size := by rw [← HSZ.out]; exact HB.out.size
      have hbr : Below w1.heap.size w1 wr := by rw [HSZ.out]; exact HB.out
      obtain ⟨g, rfl, hgb1, hgb2⟩ := own_some HO.out (by omega)
      have HSIDE := Kp.mk (show ∀ w' : World, wr.grownBy w' (some g) → SlF ptL 3 w' a (m + 1) cap L ∧ w'.cell? ⟨bs, 0, none⟩ = some (.slice a (m + 1) cap) from fun w' hg => by
        refine ⟨SlC.keep (SlC.below H.out hbr) hg (fun k hk => by
          cases hk
          intro e
          have h3 : g < bs := HLT.out g e
          omega), ?_⟩
        have hbx := Box.below HBX.out hbr
        have hbx' : Box w' bs #[.slice a (m + 1) cap] 42 := (hg.block bs hbx.lt (fun e => by cases e; omega)).trans hbx
        exact hbx'.cell 0 rfl)
      have CS := Kp.mk (sortPl_own 87 #[.pointer (some ⟨bs, 0, none⟩)] L m (bs + 1) (some ⟨g, 0, none⟩) rc wr HL.out (by omega) eg HO.out hsr (fun w' gb ha hg x y hx hy => by
        obtain ⟨h1, h2⟩ := HSIDE.out w' (by cases ha; exact hg)
        exact hullOrd_any bs a cap (m + 1) x y L w' h1 (by omega) h2 hx hy))
      go_wp2_with fail
      refine CS.out.mono ?_
      rintro e w2 ⟨rfl, O, HOR, HO2, HG⟩
      have HOL := Kp.mk (show O.length = m + 1 from by rw [HOR.out.len, HL.out])
      have hs2 : bs + 1 ≤ w2.heap.size := Nat.le_trans hsr HG.out.size
      have CC := Kp.mk (compact_any 89 #[.pointer (some ⟨bs, 0, none⟩)] eg2 (ptAt L) (m + 1) (bs + 1) g rc (m + 1) O w2 HO2.out HOL.out (by omega) (by omega) (fun i hi => by
        have := HOR.out.lt i (by rw [HOL.out]; exact hi)
        rw [HL.out] at this; exact this) (fun w' hg => by
        unfold SameT
        intro q x y hx hy
        obtain ⟨h1, h2⟩ := HSIDE.out (w'.drewN q) (grown_trans (grown_trans HG.out hg) (grown_of_below (drewN_below q)))
        refine (hullSame_any bs a cap (m + 1) x y L _ h1 (by omega) h2 hx hy).mono ?_
        rintro e w'' ⟨he, q', hq⟩
        exact ⟨he, q + q', by rw [hq]; exact World.drewN_drewN ..⟩) hs2)
      clear CS
      go_wp2_with fail
      refine CC.out.mono ?_
      rintro e w3 ⟨r, rfl, HKL, HO3, HG3⟩
      clear CC
      have HKK := Kp.mk (corners_kept HOR.out (by rw [HL.out]; omega))
      rw [HOL.out] at HKK
      have hrm : r ≤ m + 1 := by rw [← HKL.out]; exact kept_len _ _ _
      generalize kept (ptAt L) O (m + 1) = K at *
      have HGG := Kp.mk (grown_trans HG.out HG3.out)
      have hs3 : bs + 1 ≤ w3.heap.size := Nat.le_trans hs2 HG3.out.size
      have HB3 := Kp.mk (show Below bs w w3 from by
        have h1 : Below (bs + 1) wr w3 := below_of_grown HGG.out hsr (fun k hk => (own_lt HO.out k (by rw [← hk])).1)
        exact HA.out.trans ((HB.out.trans h1).mono (by omega)))
      obtain ⟨h31, h32⟩ := HSIDE.out w3 HGG.out
      have HP3 := Kp.mk h31
      clear HO HO2 HG HG3 HGG h31 HSIDE HOR HOL
      have hrpos : 0 < r := by rw [← HKL.out]; exact HKK.out.2.2.2
      by_cases h1 : r = 1
      · subst h1
        go_wp2
        go_ret
        exact ⟨some ⟨g, 0, none⟩, 1, rc, K, K, rfl, ⟨⟨HKK.out.1, HKK.out.2.1, HKK.out.2.2.1, fun _ => rfl, fun h => by rw [HKL.out] at h; omega, HKK.out.2.2.2⟩⟩, HKL, by omega, ⟨own_base HO3.out (by rw [← HBS.out]; omega)⟩, by rw [← HBS.out]; exact HB3⟩
      · have t1 : ((r : Int) == 1) = false := by rw [beq_eq_false_iff_ne]; omega
        have C1 := Kp.mk (side_any a cap (m + 1) L (some ⟨g, 0, none⟩) rc r K w3 HP3.out (by omega) HNR.out (own_sl_len HO3.out (by rw [List.length_map]; exact HKL.out)) HKL.out (by omega) (fun x hx => by have := HKK.out.2.1 x hx; rw [HL.out] at this; exact this))
        go_wp2_with fail
        refine C1.out.mono ?_
        rintro e w4 ⟨sa, s, sc, rfl, HSL, HS4, HB4⟩
        clear C1
        have HO4 := Kp.mk (own_below HO3.out HB4.out)
        have HP4 := Kp.mk (SlF.below HP3.out HB4.out)
        have h42 : w4.cell? ⟨bs, 0, none⟩ = some (.slice a (m + 1) cap) := (HB4.out.cell (p := ⟨bs, 0, none⟩) (World.block_lt_of_cell? w3 _ h32)).trans h32
        have hs4 := HB4.out.size
        have CR := Kp.mk (reverse_any (bs + 1) (some ⟨g, 0, none⟩) r rc (K.map Int.ofNat) w4 HO4.out (by omega))
        go_wp2_with fail
        refine CR.out.mono ?_
        rintro e w5 ⟨rfl, ho5, hg5⟩
        clear CR
        have HO5 := Kp.mk (show w5.ownsRow (bs + 1) 3 1 (.slice (some ⟨g, 0, none⟩) r rc) r (ints (K.reverse.map Int.ofNat)) from by rw [List.map_reverse]; exact ho5)
        have hg4 : ∀ k, blk a = some k → k ≠ g := fun k hk e => by have := HLT.out k hk; omega
        have HP5 := Kp.mk (show SlF ptL 3 w5 a (m + 1) cap L from SlC.keep HP4.out hg5 (fun k hk e => by cases hk; exact hg4 _ e rfl))
        have h52 : w5.cell? ⟨bs, 0, none⟩ = some (.slice a (m + 1) cap) := hg5.cell h42 (fun e => by simp [blk] at e; omega)
        have HB5 := Kp.mk (show Below bs w w5 from by
          have h1 : Below w3.heap.size w3 w4 := HB4.out
          have h2 : Below (bs + 1) w4 w5 := below_of_grown hg5 (by omega) (fun k hk => by simp [blk] at hk; omega)
          exact HB3.out.trans ((h1.mono (by omega)).trans (h2.mono (by omega))))
        have hsne : blk sa ≠ some g := fun e => by have := (own_lt HS4.out g e).1; have := (own_lt HO3.out g rfl).2; omega
        have HS5 := Kp.mk (own_keep HS4.out hg5 (fun k hk e => by cases hk; exact hsne e))
        have hs5 := hg5.size
        have C2 := Kp.mk (side_any a cap (m + 1) L (some ⟨g, 0, none⟩) rc r K.reverse w5 HP5.out (by omega) HNR.out (own_sl_len HO5.out (by rw [List.length_map, List.length_reverse]; exact HKL.out)) (by rw [List.length_reverse]; exact HKL.out) (by omega) (fun x hx => by have := HKK.out.2.1 x (List.mem_reverse.1 hx); rw [HL.out] at this; exact this))
        clear ho5 hg5 h42 hg4 HP4 HO4 HS4
        go_wp2_with fail
        refine C2.out.mono ?_
        rintro e w6 ⟨ta, t, tc, rfl, HTL, HT6, HB6⟩
        clear C2
        have HS6 := Kp.mk (own_below HS5.out HB6.out)
        have HB6' := Kp.mk (show Below bs w w6 from HB5.out.trans (HB6.out.mono (by omega)))
        have HC := Kp.mk (fence_is (g := ptAt L) K (by rw [HKL.out]; omega) HKK.out.1)
        have hs6 := HB6.out.size
        -- both sides have two corners or more
        have hst : 2 ≤ s ∧ 2 ≤ t := by
          have hS := side_is (g := ptAt L) K (by intro e; rw [← List.length_eq_zero_iff, HKL.out] at e; omega) HKK.out.1
          have hT := side_is_back (g := ptAt L) K (by intro e; rw [← List.length_eq_zero_iff, HKL.out] at e; omega) HKK.out.1
          have hne := ends_ne (g := ptAt L) K (by rw [HKL.out]; omega) HKK.out.1
          have h1 := hS.len
          have h2 := hT.len
          rw [List.length_reverse] at h1 h2
          rw [HSL.out] at h1
          rw [HTL.out] at h2
          constructor
          · by_cases h : s = 1
            · exfalso
              have e1 := hS.first
              have e2 := hS.last
              rw [List.length_reverse, HSL.out, h, show 1 - 1 = 0 from rfl, e1] at e2
              exact hne e2
            · omega
          · by_cases h : t = 1
            · exfalso
              have e1 := hT.first
              have e2 := hT.last
              rw [List.length_reverse, HTL.out, h, show 1 - 1 = 0 from rfl, e1, List.length_reverse, getD_rev _ _ (by rw [HKL.out]; omega), getD_rev _ _ (by rw [HKL.out]; omega), show K.length - 1 - (K.length - 1) = 0 by omega] at e2
              exact hne e2.symm
            · omega
        obtain ⟨hst1, hst2⟩ := hst
        obtain ⟨sg, rfl, hsg1, hsg2⟩ := own_some HS6.out (by omega)
        obtain ⟨tg, rfl, htg1, htg2⟩ := own_some HT6.out (by omega)
        have hscap : s ≤ sc := by have := (own_slc HS6.out).le; exact this
        have htcap : t ≤ tc := by have := (own_slc HT6.out).le; exact this
        have hsl1 : s ≤ 1000 := by
          have := side_len (ptAt L) K []
          rw [HSL.out, HKL.out] at this; simp at this; omega
        have htl1 : t ≤ 1000 := by
          have := side_len (ptAt L) K.reverse []
          rw [HTL.out, List.length_reverse, HKL.out] at this; simp at this; omega
        have HSF := Kp.mk (sl_front HS6.out (by rw [List.length_reverse]; exact HSL.out))
        have HTF := Kp.mk (sl_front HT6.out (by rw [List.length_reverse]; exact HTL.out))
        have HLS := Kp.mk (show (sideS (ptAt L) [] K).reverse.dropLast.length = s - 1 from by rw [List.length_dropLast, List.length_reverse, HSL.out])
        have HLT2 := Kp.mk (show (sideS (ptAt L) [] K.reverse).reverse.dropLast.length = t - 1 from by rw [List.length_dropLast, List.length_reverse, HTL.out])
        have hwn : w3.heap.size ≤ w6.heap.size := by omega
        have hbn : bs ≤ w3.heap.size := by omega
        have HTI := Kp.mk (own_slc HTF.out)
        obtain ⟨X1, hX1⟩ : ∃ X1, X1 = (sideS (ptAt L) [] K).reverse.dropLast := ⟨_, rfl⟩
        obtain ⟨X2, hX2⟩ : ∃ X2, X2 = (sideS (ptAt L) [] K.reverse).reverse.dropLast := ⟨_, rfl⟩
        rw [← hX1] at HSF HLS
        rw [← hX2] at HTF HLT2 HTI
        have HX := Kp.mk (And.intro hX1 hX2)
        clear hX1 hX2
        obtain ⟨s1, rfl⟩ : ∃ s1, s = s1 + 1 := ⟨s - 1, by omega⟩
        obtain ⟨t1', rfl⟩ : ∃ t1', t = t1' + 1 := ⟨t - 1, by omega⟩
        rw [Nat.add_sub_cancel] at HSF HTF HTI HLS HLT2
        have es : IntKind.i64.wrap (((s1 + 1 : Nat) : Int) - 1) = (s1 : Int) := by rw [show ((s1 + 1 : Nat) : Int) - 1 = s1 by omega]; exact IntWalk.i64_in _ (by omega)
        have et : IntKind.i64.wrap (((t1' + 1 : Nat) : Int) - 1) = (t1' : Int) := by rw [show ((t1' + 1 : Nat) : Int) - 1 = t1' by omega]; exact IntWalk.i64_in _ (by omega)
        have es1 : IntKind.i64.wrap (s1 : Int) = (s1 : Int) := IntWalk.i64_in _ (by omega)
        have et1 : IntKind.i64.wrap (t1' : Int) = (t1' : Int) := IntWalk.i64_in _ (by omega)
        have hsc1 : s1 ≤ sc := by omega
        have htc1 : t1' ≤ tc := by omega
        go_wp2
        go_still_tail 10, (by kernel_rfl)
        have HSD := Kp.mk (own_below HSF.out (drewN_below (B := w6.heap.size) (w := w6) 1))
        have HTD := Kp.mk (SlC.below HTI.out (drewN_below (B := w6.heap.size) (w := w6) 1))
        have hbd : w3.heap.size ≤ (w6.drewN 1).heap.size := hwn
        go_wp2_with (at_builtin; refine wpList_cat tInts rfl _ _ rfl w3.heap.size (some ⟨sg, 0, none⟩) s1 sc _ rfl HSD.out (some ⟨tg, 0, none⟩) t1' tc _ rfl HTD.out ?c1 ?c2 (by decide) hbd ?c3)
        case c1 => exact ints_one _
        case c2 => omega
        case c3 =>
          intro ya yc w7 ho7 hb7
          have hC2 : IsCorners L K (X1 ++ X2) :=
            ⟨HKK.out.1, HKK.out.2.1, HKK.out.2.2.1, fun h => by rw [HKL.out] at h; omega, fun _ => by rw [HX.out.1, HX.out.2], HKK.out.2.2.2⟩
          have HCC := Kp.mk hC2
          have HCL := Kp.mk (show (X1 ++ X2).length = s1 + t1' from by rw [List.length_append, HLS.out, HLT2.out])
          have HB7 := Kp.mk (show Below bs w w7 from HB6'.out.trans ((drewN_below (B := bs) (w := w6) 1).trans (hb7.mono hbn)))
          have HS7 := Kp.mk (show w7.ownsRow w.heap.size 3 1 (.slice ya (s1 + t1') yc) (s1 + t1') (ints ((X1 ++ X2).map Int.ofNat)) from by
            refine own_base (B' := w3.heap.size) ?_ (by rw [← HBS.out]; exact hbn)
            rw [List.map_append, ints_append]; exact ho7)
          clear hC2 ho7 hb7
          go_wp2
          go_ret
          exact ⟨ya, s1 + t1', yc, K, _, rfl, HCC, HCL, by omega, HS7, by rw [← HBS.out]; exact HB7⟩

theorem corners_any (a : Option Addr) (cap m : Nat) (L : List Pt) (w : World) (h : SlF ptL 3 w a (m + 1) cap L) (hm : m + 1 ≤ 1000) (hN : ∀ p ∈ L, p.Near) :
    Calls Tryz.prog 58 #[.slice a (m + 1) cap] w fun e w' => ∃ ra r rc K C, e = .returned (.slice ra r rc) ∧ Kp (IsCorners L K C) ∧ Kp (C.length = r) ∧ r ≤ 2000 ∧ Kp (SlI w' ra rc (C.map Int.ofNat)) ∧ Kp (Below w.heap.size w w') :=
  (corners_own a cap m L w h hm hN).mono fun e w' ⟨ra, r, rc, K, C, h1, h2, h3, h4, h5, h6⟩ => ⟨ra, r, rc, K, C, h1, h2, h3, h4, ⟨own_sl_len h5.out (by rw [List.length_map]; exact h3.out)⟩, h6⟩

end Go.Proofs.YtedchegejalolaaGreatDoor

/- Hulls: what the laws see of one; the walks of Hull and of the laws' own 'fenced'. -/
namespace Go.Proofs.YtedchegejalolaaGreatDoor
set_option linter.unusedVariables false
open Go.RowKit

theorem getD_pts (L : List Pt) (C : List Nat) (i : Nat) (h : i < C.length) : (C.map (ptAt L)).getD i pt0 = ptAt L (C.getD i 0) := by
  rw [getD_at _ _ (by rw [List.length_map]; exact h), List.getElem_map, getD_at _ _ h]
theorem ptAt_mem {L : List Pt} {i : Nat} (h : i < L.length) : ptAt L i ∈ L := by
  unfold ptAt; rw [getD_at _ _ h]; exact List.getElem_mem _
theorem corners_lt {L : List Pt} {K C : List Nat} (h : IsCorners L K C) : ∀ i, i < C.length → C.getD i 0 < L.length := fun i hi => by
  by_cases h1 : K.length = 1
  · obtain rfl := h.one h1
    rw [getD_at _ _ hi]; exact h.lt _ (List.getElem_mem _)
  · have hF := fence_is (g := ptAt L) K (by have := h.pos; omega) h.up
    rw [← h.two (by have := h.pos; omega)] at hF
    exact h.lt _ (hF.sub i hi)

theorem hfault_any (a : Option Addr) (cap m : Nat) (L : List Pt) (w : World) (h : SlF ptL 3 w a (m + 1) cap L) (hn : m + 1 ≤ 150) (hN : ∀ p ∈ L, p.Near) :
    Calls Tryz.prog 56 #[.slice a (m + 1) cap] w fun e w' => e = .returned (.int .i64 0) ∧ Kp (Below w.heap.size w w') := by
  have C := Kp.mk (gcheck_any a cap (m + 1) L w h hn hN)
  clear h hN
  go_enter Tryz.func56, Tryz.ntmps56
  go_wp2_with fail
  refine C.out.mono ?_
  rintro e w' ⟨rfl, HB⟩
  go_wp2
  go_ret
  exact ⟨rfl, HB⟩

end Go.Proofs.YtedchegejalolaaGreatDoor

