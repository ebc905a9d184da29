import Derived.Test.YtdegnnbffehmnaaIntC
/- Orders: the law's own Shuffle, and package perm. -/
namespace Go.Proofs.Ytdegnnbffehmnaa
set_option linter.unusedVariables false
open Go.RowKit

def iota (n : Nat) : List Int := (List.range n).map Int.ofNat
theorem iota_length (n : Nat) : (iota n).length = n := by simp [iota]
theorem iota_succ (n : Nat) : iota (n + 1) = iota n ++ [(n : Int)] := by simp [iota, List.range_succ]

/-- Two places of a list exchanged. -/
def swapL (o : List Int) (i k : Nat) : List Int := (o.set i (o.getD k 0)).set k (o.getD i 0)
theorem swapL_length (o : List Int) (i k : Nat) : (swapL o i k).length = o.length := by simp [swapL]

/-- The place with which place i is exchanged. -/
def shufK (l : List Int) (n i : Nat) : Nat := i + (pick (if i < l.length then l.getD i 0 else (i : Int) * 7) ((n : Int) - i)).toNat
def shuf (l : List Int) (n : Nat) : Nat → List Int
  | 0 => iota n
  | i + 1 => swapL (shuf l n i) i (shufK l n i)
theorem shuf_length (l : List Int) (n i : Nat) : (shuf l n i).length = n := by
  induction i with
  | zero => exact iota_length n
  | succ i ih => rw [shuf, swapL_length, ih]
theorem shufK_bd (l : List Int) (n i : Nat) (h : i < n) : i ≤ shufK l n i ∧ shufK l n i < n := by
  have := pick_bd (if i < l.length then l.getD i 0 else (i : Int) * 7) ((n : Int) - i) (by omega)
  unfold shufK; omega

theorem swap_own {w : World} {B g n cap k q : Nat} {o : List Int} (h : w.ownsRow B 3 1 (.slice (some ⟨g, 0, none⟩) n cap) n (ints o)) :
    ((w.setCell ⟨g, k, none⟩ (.int .i64 (o.getD q 0))).setCell ⟨g, q, none⟩ (.int .i64 (o.getD k 0))).drew.ownsRow B 3 1 (.slice (some ⟨g, 0, none⟩) n cap) n (ints (swapL o k q)) := by
  have h1 := (h.stored k (.int .i64 (o.getD q 0))).1
  rw [ints_set] at h1
  have h2 := (h1.stored q (.int .i64 (o.getD k 0))).1
  rw [ints_set] at h2
  exact h2

set_option maxHeartbeats 400000 in
theorem shuffle_any (a : Option Addr) (cap n : Nat) (l : List Int) (w : World) (h : SlI w a cap l) (hl : l.length ≤ 9223372036854775807) (hn : n ≤ 1000) (hw : ∀ x ∈ l, (Lit.int .i64 x).wf = true) :
    Calls Try.prog 19 #[.slice a l.length cap, .int .i64 n] w (fun e w' => ∃ sa cap, e = .returned (.slice sa n cap) ∧ w'.ownsRow w.heap.size 3 1 (.slice sa n cap) n (ints (shuf l n n)) ∧ Below w.heap.size w w') := by
  have H := Lib.hid h
  have HW := Lib.hid hw
  clear h hw
  obtain ⟨B, hB⟩ : ∃ B, B = w.heap.size := ⟨_, rfl⟩
  rw [← hB]
  have HB := Lib.hid hB
  clear hB
  go_enter Try.func19, Try.ntmps19
  go_wp2
  go_loopw [5, 6] (fun v i wr => ∃ (k : Nat) (sa : Option Addr) (cap : Nat), k ≤ n ∧ i = .int .i64 k ∧ v = .slice sa k cap ∧ wr.ownsRow B 3 1 (.slice sa k cap) k (ints (iota k)) ∧ Below B w wr) (fun _ i _ => n - (intOf i).toNat)
  case atStart => exact ⟨0, none, 0, Nat.zero_le _, rfl, rfl, World.ownsRow_nil _ _ _ _, Below.refl _ _⟩
  case round =>
    obtain ⟨k, sa, cap1, hk, rfl, rfl, hown, hbel⟩ := hrel
    have hsz := Lib.hid hbel.size
    by_cases hlt : k < n
    · go_wp2_with (at_builtin; refine wpList_push tInts rfl _ _ rfl B _ _ _ _ rfl hown 1 1 _ rfl rfl ?c1 (by decide) ?c2 (by decide) ?c3 ?c4)
      case c1 => simp [Value.oneCell']
      case c2 => omega
      case c3 => rw [HB.out]; exact hsz.out
      case c4 =>
        intro sa' cap' w' hown' hbel'
        go_wp2
        go_roundw
        case rel => exact ⟨k + 1, sa', cap', by omega, by go_num, rfl, by rw [iota_succ, ints_append]; exact hown', hbel.trans hbel'⟩
        case measure => simp [intOf]; omega
    · obtain rfl : n = k := by omega
      go_wp2
      go_loopw [7] (fun i wr => ∃ (k : Nat), k ≤ n ∧ i = .int .i64 k ∧ wr.ownsRow B 3 1 (.slice sa n cap1) n (ints (shuf l n k)) ∧ Below B w wr) (fun i _ => n - (intOf i).toNat)
      case atStart => exact ⟨0, Nat.zero_le _, rfl, hown, hbel⟩
      case round =>
        clear hown hbel hsz
        obtain ⟨k, hk, rfl, hown, hbel⟩ := hrel
        have hO := Lib.hid hown
        by_cases hlt2 : k < n
        · obtain ⟨g, rfl, hg, hg2⟩ := own_some hown (by omega)
          clear hown
          have hlen := shuf_length l n k
          obtain ⟨x, hx⟩ : ∃ x, x = if k < l.length then l.getD k 0 else (k : Int) * 7 := ⟨_, rfl⟩
          have hbd := shufK_bd l n k hlt2
          have hpb := pick_bd x ((n : Int) - k) (by omega)
          obtain ⟨q, hq⟩ : ∃ q : Nat, pick x ((n : Int) - k) = q := ⟨_, (Int.toNat_of_nonneg hpb.1).symm⟩
          have hK : shufK l n k = k + q := by unfold shufK; rw [← hx, hq]; simp
          have hs : shuf l n (k + 1) = swapL (shuf l n k) k (k + q) := by rw [shuf, hK]
          have hq2 : k + q < n := by omega
          have HQ := Lib.hid hq
          have HX := Lib.hid hx
          have HS := Lib.hid hs
          clear hpb hbd hK hq hx hs
          generalize shuf l n k = o at *
          have c1 : wr.cell? ⟨g, k, none⟩ = some (.int .i64 (o.getD k 0)) := ints_cell hO.out hlen (by omega)
          have c2 : wr.cell? ⟨g, k + q, none⟩ = some (.int .i64 (o.getD (k + q) 0)) := ints_cell hO.out hlen (by omega)
          have f1 : wr.frozen? ⟨g, k, none⟩ = false := hO.out.frozenAt k
          have f2 : wr.frozen? ⟨g, k + q, none⟩ = false := hO.out.frozenAt (k + q)
          have HL := Lib.hid hlen
          clear hlen
          by_cases hll : k < l.length
          · obtain ⟨b, off, rfl, cl⟩ := (H.out.below (HB.out ▸ hbel)).at k hll
            obtain ⟨hwf1, hwf2⟩ := wf_bd (HW.out l[k] (List.getElem_mem hll))
            have hxl : x = l[k] := by rw [HX.out, if_pos hll]; simp [hll]
            go_wp2_with fail
            refine (picked_any _ _ _ (by omega) (by omega) hwf1 hwf2).mono ?_
            rintro e w' ⟨rfl, rfl⟩
            rw [← hxl, HQ.out]
            obtain ⟨v2, hv2⟩ := cell?_setCell_some (w := wr) (p := ⟨g, k, none⟩) (x := .int .i64 (o[k + q]?.getD 0)) (q := ⟨g, k + q, none⟩) (v := .int .i64 (o.getD (k + q) 0)) c2
            go_wp2
            go_region
            go_wp2
            go_roundw
            case rel => exact ⟨k + 1, by omega, by go_num, by rw [HS.out]; exact swap_own hO.out, ((hbel.setCell (p := ⟨g, k, none⟩) hg _).setCell (p := ⟨g, k + q, none⟩) hg _).drew⟩
            case measure => simp [intOf]; omega
          · have hwf1 : -9223372036854775808 ≤ (k : Int) * 7 := by omega
            have hwf2 : (k : Int) * 7 ≤ 9223372036854775807 := by omega
            have hxl : x = (k : Int) * 7 := by rw [HX.out, if_neg hll]
            go_wp2_with fail
            refine (picked_any _ _ _ (by omega) (by omega) hwf1 hwf2).mono ?_
            rintro e w' ⟨rfl, rfl⟩
            rw [← hxl, HQ.out]
            obtain ⟨v2, hv2⟩ := cell?_setCell_some (w := wr) (p := ⟨g, k, none⟩) (x := .int .i64 (o[k + q]?.getD 0)) (q := ⟨g, k + q, none⟩) (v := .int .i64 (o.getD (k + q) 0)) c2
            go_wp2
            go_region
            go_wp2
            go_roundw
            case rel => exact ⟨k + 1, by omega, by go_num, by rw [HS.out]; exact swap_own hO.out, ((hbel.setCell (p := ⟨g, k, none⟩) hg _).setCell (p := ⟨g, k + q, none⟩) hg _).drew⟩
            case measure => simp [intOf]; omega
        · obtain rfl : n = k := by omega
          go_wp2
          go_ret
          exact ⟨sa, cap1, rfl, hO.out, hbel⟩

end Go.Proofs.Ytdegnnbffehmnaa

/- Package perm at orders that may be: Check, Inverse, Then. -/
namespace Go.Proofs.Ytdegnnbffehmnaa
set_option linter.unusedVariables false
open Go.RowKit

/-- An order of so many things. -/
def Order (l : List Int) : Prop := l.Nodup ∧ ∀ x ∈ l, 0 ≤ x ∧ x < l.length

theorem info_mark : (Try.prog.info? 140).map (fun i => (i.zero, i.size, i.bytes)) = some (some (.agg #[.bool false]), 1, 1) := by kernel_rfl
theorem tMarks : ElemTy Try.prog 139 140 1 1 (.agg #[.bool false]) :=
  ⟨Try.underlying139, by obtain ⟨i0, hi, h0, h1, h2⟩ := info_parts info_mark; exact ⟨i0, hi, h0, h1, h2⟩, rfl, by decide⟩

/-- Which numbers are marked: those of a list. -/
def marks (n : Nat) (l : List Int) : List Value := (List.range n).map fun (j : Nat) => .bool (decide ((j : Int) ∈ l))
theorem marks_length (n : Nat) (l : List Int) : (marks n l).length = n := by simp [marks]
theorem marks_nil (n : Nat) : List.replicate n (.bool false) = marks n [] := by
  apply List.ext_getElem?
  intro i
  by_cases h : i < n <;> simp [marks, h]
theorem marks_set (n : Nat) (l : List Int) (j : Nat) : (marks n l).set j (.bool true) = marks n (l ++ [(j : Int)]) := by
  apply List.ext_getElem?
  intro i
  rw [List.getElem?_set]
  by_cases h : j = i
  · subst h
    by_cases hn : j < n <;> simp [marks, hn]
  · rw [if_neg h]
    by_cases hn : i < n
    · simp [marks, hn]
      intro h'; omega
    · simp [marks, hn]
theorem marks_cell {w : World} {B e g n cap k : Nat} {o : List Int} (h : w.ownsRow B e 1 (.slice (some ⟨g, 0, none⟩) n cap) n (marks n o)) (hk : k < n) :
    w.cell? ⟨g, k, none⟩ = some (.bool (decide ((k : Int) ∈ o))) := by
  rw [h.cellAt k (by omega)]
  simp [marks, hk]

set_option maxHeartbeats 400000 in
theorem check_any (a : Option Addr) (cap : Nat) (l : List Int) (w : World) (h : SlI w a cap l) (hl : l.length ≤ 300) (hp : Order l) :
    Calls Try.prog 48 #[.slice a l.length cap] w (fun e w' => e = .returned (.int .i64 0) ∧ Below w.heap.size w w') := by
  have H := Lib.hid h
  have HP := Lib.hid hp
  clear h hp
  obtain ⟨B, hB⟩ : ∃ B, B = w.heap.size := ⟨_, rfl⟩
  rw [← hB]
  have HB := Lib.hid hB
  clear hB
  go_enter Try.func48, Try.ntmps48
  go_wp2_with (at_make; refine wpList_mk1 tMarks rfl rfl _ _ rfl B l.length rfl rfl ?c1 (by decide) ?c2 ?c3)
  case c1 => omega
  case c2 => rw [HB.out]; exact Nat.le_refl _
  case c3 =>
    intro sa cap1 w1 hown hbel
    rw [marks_nil] at hown
    go_wp2
    go_loopw [14] (fun i wr => ∃ (k : Nat), k ≤ l.length ∧ i = .int .i64 k ∧ wr.ownsRow B 140 1 (.slice sa l.length cap1) l.length (marks l.length (l.take k)) ∧ Below B w wr) (fun i _ => l.length - (intOf i).toNat)
    case atStart => exact ⟨0, Nat.zero_le _, rfl, hown, hbel⟩
    case round =>
      clear hown hbel
      obtain ⟨k, hk, rfl, hown, hbel⟩ := hrel
      have hO := Lib.hid hown
      by_cases hlt : k < l.length
      · obtain ⟨g, rfl, hg, hg2⟩ := own_some hown (by omega)
        clear hown
        obtain ⟨b, off, rfl, cl⟩ := (H.out.below (HB.out ▸ hbel)).at k hlt
        have hx := HP.out.2 l[k] (List.getElem_mem hlt)
        obtain ⟨j, hj⟩ : ∃ j : Nat, l[k] = (j : Int) := ⟨_, (Int.toNat_of_nonneg hx.1).symm⟩
        have hjl : j < l.length := by omega
        have hnew : ¬ (j : Int) ∈ l.take k := by
          intro hm
          obtain ⟨i, hi, he⟩ := List.mem_take_iff_getElem.1 hm
          exact List.pairwise_iff_getElem.1 HP.out.1 i k (by omega) hlt (by omega) (by rw [he, hj])
        have c1 : wr.cell? ⟨g, j, none⟩ = some (.bool false) := by
          rw [marks_cell hO.out hjl, decide_eq_false hnew]
        have f1 : wr.frozen? ⟨g, j, none⟩ = false := hO.out.frozenAt j
        have hst : Hid ((wr.setCell ⟨g, j, none⟩ (.bool true)).ownsRow B 140 1 (.slice (some ⟨g, 0, none⟩) l.length cap1) l.length (marks l.length (l.take (k + 1)))) := by
          have := (hO.out.stored j (.bool true)).1
          rw [marks_set, ← hj, ← List.take_succ_eq_append_getElem hlt] at this
          exact this
        rw [hj] at cl
        have HJ := Lib.hid hj
        clear hj hx hnew
        go_wp2
        go_roundw
        case rel => exact ⟨k + 1, by omega, by go_num, hst.out, hbel.setCell (p := ⟨g, j, none⟩) hg _⟩
        case measure => simp [intOf]; omega
      · go_wp2
        go_ret
        exact ⟨rfl, hbel⟩

end Go.Proofs.Ytdegnnbffehmnaa

/- Package perm at orders that may be: Inverse, Then, and the law's own 'then'. -/
namespace Go.Proofs.Ytdegnnbffehmnaa
set_option linter.unusedVariables false
open Go.RowKit

def invK (p : List Int) : Nat → List Int
  | 0 => List.replicate p.length 0
  | k + 1 => (invK p k).set (p.getD k 0).toNat (k : Int)
theorem invK_length (p : List Int) (k : Nat) : (invK p k).length = p.length := by
  induction k with
  | zero => simp [invK]
  | succ k ih => simp [invK, ih]
def thenL (p q : List Int) : List Int := p.map fun x => q.getD x.toNat 0
theorem thenL_length (p q : List Int) : (thenL p q).length = p.length := by simp [thenL]

end Go.Proofs.Ytdegnnbffehmnaa

/- Plain laws on orders: they are a group. -/
namespace Go.Proofs.Ytdegnnbffehmnaa
set_option linter.unusedVariables false

theorem Order.get {l : List Int} (h : Order l) (i : Nat) (hi : i < l.length) : ∃ j : Nat, l[i] = (j : Int) ∧ j < l.length := by
  have := h.2 l[i] (List.getElem_mem hi)
  exact ⟨l[i].toNat, by omega, by omega⟩
theorem Order.inj {l : List Int} (h : Order l) {i j : Nat} (hi : i < l.length) (hj : j < l.length) (he : l[i] = l[j]) : i = j := by
  rcases Nat.lt_trichotomy i j with hl | hl | hl
  · exact absurd he (List.pairwise_iff_getElem.1 h.1 i j hi hj hl)
  · exact hl
  · exact absurd he.symm (List.pairwise_iff_getElem.1 h.1 j i hj hi hl)
theorem order_of {l : List Int} (h : ∀ i (hi : i < l.length), 0 ≤ l[i] ∧ l[i] < l.length) (hinj : ∀ i j (hi : i < l.length) (hj : j < l.length), l[i] = l[j] → i = j) : Order l := by
  refine ⟨List.pairwise_iff_getElem.2 fun i j hi hj hl he => ?_, fun x hx => ?_⟩
  · have := hinj i j hi hj he; omega
  · obtain ⟨i, hi, rfl⟩ := List.mem_iff_getElem.1 hx
    exact h i hi

theorem iota_get (n i : Nat) (h : i < (iota n).length) : (iota n)[i] = (i : Int) := by simp [iota]
theorem iota_order (n : Nat) : Order (iota n) := by
  refine order_of (fun i hi => ?_) (fun i j hi hj he => ?_)
  · rw [iota_get, iota_length]; rw [iota_length] at hi; omega
  · rw [iota_get, iota_get] at he; omega

/-- Every number is there. -/
theorem Order.onto {l : List Int} (h : Order l) (j : Nat) (hj : j < l.length) : ∃ i, ∃ hi : i < l.length, l[i] = (j : Int) := by
  apply Classical.byContradiction
  intro hno
  have hsub : (j : Int) :: l ⊆ iota l.length := by
    intro x hx
    rw [List.mem_cons] at hx
    rcases hx with rfl | hx
    · exact List.mem_iff_getElem.2 ⟨j, by rw [iota_length]; exact hj, iota_get _ _ _⟩
    · obtain ⟨i, hi, rfl⟩ := List.mem_iff_getElem.1 hx
      obtain ⟨k, hk, hkl⟩ := h.get i hi
      exact List.mem_iff_getElem.2 ⟨k, by rw [iota_length]; exact hkl, by rw [iota_get, hk]⟩
  have hnd : ((j : Int) :: l).Nodup := by
    refine List.nodup_cons.2 ⟨fun hm => ?_, h.1⟩
    obtain ⟨i, hi, he⟩ := List.mem_iff_getElem.1 hm
    exact hno ⟨i, hi, he⟩
  have := hnd.length_le_of_subset hsub
  rw [iota_length, List.length_cons] at this
  omega

theorem swapL_get? (o : List Int) (i k j : Nat) (hi : i < o.length) (hk : k < o.length) :
    (swapL o i k)[j]? = if j = k then some o[i] else if j = i then some o[k] else o[j]? := by
  have e1 : o.getD k 0 = o[k] := by simp [hk]
  have e2 : o.getD i 0 = o[i] := by simp [hi]
  rw [swapL, e1, e2, List.getElem?_set, List.length_set, List.getElem?_set]
  by_cases h1 : j = k
  · rw [if_pos h1, if_pos h1.symm, if_pos (by omega)]
  · rw [if_neg h1, if_neg (fun h => h1 h.symm)]
    by_cases h2 : j = i
    · rw [if_pos h2, if_pos h2.symm, if_pos (by omega)]
    · rw [if_neg h2, if_neg (fun h => h2 h.symm)]
theorem swapL_get (o : List Int) (i k j : Nat) (hi : i < o.length) (hk : k < o.length) (hj : j < (swapL o i k).length) (hj' : j < o.length) :
    (swapL o i k)[j] = if j = k then o[i] else if j = i then o[k] else o[j] := by
  have h := swapL_get? o i k j hi hk
  rw [List.getElem?_eq_getElem hj] at h
  by_cases h1 : j = k
  · rw [if_pos h1] at h ⊢; simpa using h
  · rw [if_neg h1] at h ⊢
    by_cases h2 : j = i
    · rw [if_pos h2] at h ⊢; simpa using h
    · rw [if_neg h2, List.getElem?_eq_getElem hj'] at h; rw [if_neg h2]; simpa using h

theorem swapL_order {o : List Int} (h : Order o) (i k : Nat) (hi : i < o.length) (hk : k < o.length) : Order (swapL o i k) := by
  have hl := swapL_length o i k
  refine order_of (fun j hj => ?_) (fun a b ha hb he => ?_)
  · rw [swapL_get o i k j hi hk hj (by omega), show ((swapL o i k).length : Int) = o.length by rw [hl]]
    have := fun a ha => h.2 o[a] (List.getElem_mem ha)
    split
    · exact this i hi
    · split
      · exact this k hk
      · exact this j (by omega)
  · rw [swapL_get o i k a hi hk ha (by omega), swapL_get o i k b hi hk hb (by omega)] at he
    have inj := fun {a b} (ha : a < o.length) (hb : b < o.length) (he : o[a] = o[b]) => h.inj ha hb he
    rw [hl] at ha hb
    by_cases a1 : a = k
    · rw [if_pos a1] at he
      by_cases b1 : b = k
      · omega
      · rw [if_neg b1] at he
        by_cases b2 : b = i
        · rw [if_pos b2] at he; have := inj hi hk he; omega
        · rw [if_neg b2] at he; have := inj hi hb he; omega
    · rw [if_neg a1] at he
      by_cases a2 : a = i
      · rw [if_pos a2] at he
        by_cases b1 : b = k
        · rw [if_pos b1] at he; have := inj hk hi he; omega
        · rw [if_neg b1] at he
          by_cases b2 : b = i
          · omega
          · rw [if_neg b2] at he; have := inj hk hb he; omega
      · rw [if_neg a2] at he
        by_cases b1 : b = k
        · rw [if_pos b1] at he; have := inj ha hi he; omega
        · rw [if_neg b1] at he
          by_cases b2 : b = i
          · rw [if_pos b2] at he; have := inj ha hk he; omega
          · rw [if_neg b2] at he; exact inj ha hb he

theorem shuf_order (l : List Int) (n i : Nat) (h : i ≤ n) : Order (shuf l n i) := by
  induction i with
  | zero => exact iota_order n
  | succ i ih =>
    have hK := shufK_bd l n i (by omega)
    exact swapL_order (ih (by omega)) _ _ (by rw [shuf_length]; omega) (by rw [shuf_length]; omega)

theorem swapL_self (o : List Int) (i : Nat) : swapL o i i = o := by
  by_cases h : i < o.length
  · simp [swapL, h]
  · rw [swapL, List.set_eq_of_length_le (by simp; omega), List.set_eq_of_length_le (by omega)]
theorem shuf_zero (m n i : Nat) (h : i ≤ n) (hm : n ≤ m) : shuf (List.replicate m 0) n i = iota n := by
  induction i with
  | zero => rfl
  | succ i ih =>
    have hk : shufK (List.replicate m 0) n i = i := by
      have h0 : (if i < (List.replicate m (0 : Int)).length then (List.replicate m (0 : Int)).getD i 0 else (i : Int) * 7) = 0 := by
        rw [if_pos (by simp; omega)]
        rw [List.getD_eq_getElem?_getD, List.getElem?_replicate]
        split <;> rfl
      unfold shufK
      rw [h0]
      simp [pick]
    rw [shuf, hk, ih (by omega), swapL_self]

theorem thenL_get (p q : List Int) (hp : Order p) (hq : q.length = p.length) (i : Nat) (hi : i < (thenL p q).length) : ∃ j, ∃ hj : j < q.length, p[i]'(by rwa [thenL_length] at hi) = (j : Int) ∧ (thenL p q)[i] = q[j] := by
  rw [thenL_length] at hi
  obtain ⟨j, hj, hjl⟩ := hp.get i hi
  refine ⟨j, by omega, hj, ?_⟩
  simp [thenL, hj, show j < q.length by omega]

theorem thenL_order {p q : List Int} (hp : Order p) (hq : Order q) (h : q.length = p.length) : Order (thenL p q) := by
  refine order_of (fun i hi => ?_) (fun a b ha hb he => ?_)
  · obtain ⟨j, hj, _, he⟩ := thenL_get p q hp h i hi
    rw [he, thenL_length, ← h]
    exact hq.2 _ (List.getElem_mem hj)
  · obtain ⟨j, hj, h1, h2⟩ := thenL_get p q hp h a ha
    obtain ⟨k, hk, h3, h4⟩ := thenL_get p q hp h b hb
    rw [h2, h4] at he
    have hjk := hq.inj hj hk he
    rw [thenL_length] at ha hb
    exact hp.inj ha hb (by rw [h1, h3, hjk])

theorem thenL_assoc (p q r : List Int) (hp : Order p) (hq : Order q) (h1 : q.length = p.length) (h2 : r.length = p.length) : thenL (thenL p q) r = thenL p (thenL q r) := by
  refine List.ext_getElem (by simp [thenL]) fun i hi hi2 => ?_
  obtain ⟨j, hj, e1, e2⟩ := thenL_get (thenL p q) r (thenL_order hp hq h1) (by rw [thenL_length]; exact h2) i hi
  obtain ⟨k, hk, e3, e4⟩ := thenL_get p (thenL q r) hp (by rw [thenL_length]; exact h1) i hi2
  rw [thenL_length] at hk
  obtain ⟨k', hk', e5, e6⟩ := thenL_get p q hp h1 i (by rwa [thenL_length] at hi)
  rw [e2, e4]
  have : k = k' := by rw [e3] at e5; omega
  subst this
  obtain ⟨m, hm, e7, e8⟩ := thenL_get q r hq (by omega) k (by rw [thenL_length]; omega)
  rw [e8]
  have : (j : Int) = m := by rw [← e1, e6, e7]
  have : j = m := by omega
  subst this
  rfl

theorem invK_get {p : List Int} (hp : Order p) (k : Nat) (hk : k ≤ p.length) : ∀ i (hi : i < k) (j : Nat) (_ : p[i]'(by omega) = (j : Int)), (invK p k)[j]? = some (i : Int) := by
  induction k with
  | zero => intro i hi; omega
  | succ k ih =>
    intro i hi j hj
    obtain ⟨m, hm, hml⟩ := hp.get k (by omega)
    have hpk : (p.getD k 0).toNat = m := by
      rw [List.getD_eq_getElem?_getD, List.getElem?_eq_getElem (by omega), Option.getD_some, hm]; simp
    rw [invK, hpk, List.getElem?_set]
    by_cases h : i = k
    · subst h
      have : j = m := by rw [hj] at hm; omega
      subst this
      rw [if_pos rfl, if_pos (by rw [invK_length]; exact hml)]
    · have hne : m ≠ j := by
        intro h'
        subst h'
        exact h (hp.inj (by omega) (by omega) (by rw [hj, hm]))
      rw [if_neg hne]
      exact ih (by omega) i (by omega) j hj

theorem invK_order {p : List Int} (hp : Order p) : Order (invK p p.length) := by
  have hl := invK_length p p.length
  refine order_of (fun j hj => ?_) (fun a b ha hb he => ?_)
  · obtain ⟨i, hi, he⟩ := hp.onto j (by omega)
    have := invK_get hp p.length (Nat.le_refl _) i hi j he
    rw [List.getElem?_eq_getElem hj] at this
    simp only [Option.some.injEq] at this
    rw [this, hl]; omega
  · obtain ⟨i, hi, hi2⟩ := hp.onto a (by omega)
    obtain ⟨k, hk, hk2⟩ := hp.onto b (by omega)
    have h1 := invK_get hp p.length (Nat.le_refl _) i hi a hi2
    have h2 := invK_get hp p.length (Nat.le_refl _) k hk b hk2
    rw [List.getElem?_eq_getElem ha] at h1
    rw [List.getElem?_eq_getElem hb] at h2
    simp only [Option.some.injEq] at h1 h2
    have : i = k := by rw [h1, h2] at he; omega
    subst this
    rw [hi2] at hk2; omega

theorem then_inv {p : List Int} (hp : Order p) : thenL p (invK p p.length) = iota p.length := by
  refine List.ext_getElem (by rw [thenL_length, iota_length]) fun i hi hi2 => ?_
  obtain ⟨j, hj, e1, e2⟩ := thenL_get p _ hp (invK_length _ _) i hi
  have := invK_get hp p.length (Nat.le_refl _) i (by rwa [thenL_length] at hi) j e1
  rw [List.getElem?_eq_getElem hj] at this
  simp only [Option.some.injEq] at this
  rw [e2, this, iota_get]

theorem inv_then {p : List Int} (hp : Order p) : thenL (invK p p.length) p = iota p.length := by
  refine List.ext_getElem (by rw [thenL_length, iota_length, invK_length]) fun i hi hi2 => ?_
  obtain ⟨j, hj, e1, e2⟩ := thenL_get _ p (invK_order hp) (invK_length _ _).symm i hi
  rw [iota_length] at hi2
  obtain ⟨k, hk, hk2⟩ := hp.onto i hi2
  have := invK_get hp p.length (Nat.le_refl _) k hk i hk2
  rw [List.getElem?_eq_getElem (by rw [invK_length]; exact hi2)] at this
  simp only [Option.some.injEq] at this
  rw [this] at e1
  have : k = j := by omega
  subst this
  rw [e2, hk2, iota_get]

theorem iota_then (q : List Int) : thenL (iota q.length) q = q := by
  refine List.ext_getElem (by rw [thenL_length, iota_length]) fun i hi hi2 => ?_
  simp [thenL, iota, hi2]

open Go.RowKit in
theorem shuffle_n (a : Option Addr) (cap n : Nat) (l : List Int) (w : World) (h : SlI w a cap l) (hl : l.length ≤ 9223372036854775807) (hn : n ≤ 1000) (hw : ∀ x ∈ l, (Lit.int .i64 x).wf = true) :
    Calls Try.prog 19 #[.slice a l.length cap, .int .i64 n] w (RetS w n (shuf l n n)) :=
  (shuffle_any a cap n l w h hl hn hw).mono fun e w' ⟨sa, c, h1, h2, h3⟩ => ⟨sa, c, h1, by
    have := own_slc h2
    unfold SlI
    rw [shuf_length]
    exact this, h3⟩

end Go.Proofs.Ytdegnnbffehmnaa

/- Plain facts on cycles of an order. -/
namespace Go.Proofs.Ytdegnnbffehmnaa
set_option linter.unusedVariables false

/-- Some cycles of an order, apart from each other. -/
structure Cyc (p : List Int) (D : List (List Int)) : Prop where
  nd : D.flatten.Nodup
  rng : ∀ x ∈ D.flatten, 0 ≤ x ∧ x < p.length
  cyc : ∀ c ∈ D, c ≠ [] ∧ ∀ j (h : j < c.length), p.getD c[j].toNat 0 = c.getD ((j + 1) % c.length) 0

/-- A way from i on, up to k, apart from the cycles. -/
structure Path (p : List Int) (D : List (List Int)) (i : Int) (c : List Int) (k : Int) : Prop where
  nd : (D.flatten ++ c).Nodup
  rng : ∀ x ∈ c, 0 ≤ x ∧ x < p.length
  kr : 0 ≤ k ∧ k < p.length
  step : ∀ j (h : j + 1 < c.length), p.getD c[j].toNat 0 = c[j + 1]
  nil : c = [] → k = i
  head : ∀ h : 0 < c.length, c[0] = i ∧ p.getD (c[c.length - 1]'(by omega)).toNat 0 = k

theorem cyc_nil (p : List Int) : Cyc p [] := ⟨by simp, by simp, by simp⟩
theorem path_nil {p : List Int} {D : List (List Int)} (h : Cyc p D) (i : Int) (hi : 0 ≤ i ∧ i < p.length) : Path p D i [] i :=
  ⟨by simpa using h.nd, by simp, hi, fun j h => by simp at h, fun _ => rfl, fun h => by simp at h⟩

theorem order_getD {p : List Int} (hp : Order p) (x : Int) (hx : 0 ≤ x ∧ x < p.length) : ∃ h : x.toNat < p.length, p.getD x.toNat 0 = p[x.toNat] ∧ 0 ≤ p[x.toNat] ∧ p[x.toNat] < p.length := by
  refine ⟨by omega, ?_, hp.2 _ (List.getElem_mem _)⟩
  simp [show x.toNat < p.length by omega]
theorem order_inj {p : List Int} (hp : Order p) {x y : Int} (hx : 0 ≤ x ∧ x < p.length) (hy : 0 ≤ y ∧ y < p.length) (h : p.getD x.toNat 0 = p.getD y.toNat 0) : x = y := by
  obtain ⟨h1, e1, _⟩ := order_getD hp x hx
  obtain ⟨h2, e2, _⟩ := order_getD hp y hy
  rw [e1, e2] at h
  have := hp.inj h1 h2 h
  omega

theorem path_step {p : List Int} (hp : Order p) {D : List (List Int)} {i : Int} {c : List Int} {k : Int} (h : Path p D i c k) (hk : ¬ k ∈ D.flatten ++ c) : Path p D i (c ++ [k]) (p.getD k.toNat 0) := by
  obtain ⟨h1, e1, hr⟩ := order_getD hp k h.kr
  refine ⟨?_, ?_, by rw [e1]; exact hr, ?_, fun e => by simp at e, ?_⟩
  · rw [← List.append_assoc]
    refine List.nodup_append.2 ⟨h.nd, by simp, ?_⟩
    intro a ha b hb
    rw [List.mem_singleton] at hb
    subst hb
    intro e; subst e; exact hk ha
  · intro x hx
    rcases List.mem_append.1 hx with hx | hx
    · exact h.rng x hx
    · rw [List.mem_singleton] at hx; subst hx; exact h.kr
  · intro j hj
    rw [List.length_append, List.length_singleton] at hj
    by_cases hl : j + 1 < c.length
    · rw [List.getElem_append_left (by omega), List.getElem_append_left hl]
      exact h.step j hl
    · have hj2 : j + 1 = c.length := by omega
      rw [List.getElem_append_left (by omega), List.getElem_append_right (by omega)]
      have := (h.head (by omega)).2
      simp only [hj2, Nat.sub_self, List.getElem_singleton]
      refine Eq.trans ?_ this
      have : c[j] = c[c.length - 1] := by congr 1; omega
      rw [this]
  · intro hl
    refine ⟨?_, ?_⟩
    · by_cases hc : 0 < c.length
      · rw [List.getElem_append_left hc]; exact (h.head hc).1
      · have hc0 : c = [] := List.length_eq_zero_iff.1 (by omega)
        subst hc0
        simpa using h.nil rfl
    · rw [List.getElem_append_right (by simp)]
      simp

theorem path_len {p : List Int} {D : List (List Int)} {i : Int} {c : List Int} {k : Int} (h : Path p D i c k) : c.length ≤ p.length := by
  have hnd : c.Nodup := (List.nodup_append.1 h.nd).2.1
  have hs : c ⊆ iota p.length := by
    intro x hx
    have := h.rng x hx
    exact List.mem_iff_getElem.2 ⟨x.toNat, by rw [iota_length]; omega, by rw [iota_get]; omega⟩
  have := hnd.length_le_of_subset hs
  rwa [iota_length] at this

/-- Where the way comes to what was met, the cycle is closed. -/
theorem path_end {p : List Int} (hp : Order p) {D : List (List Int)} (hD : Cyc p D) {i : Int} {c : List Int} {k : Int} (h : Path p D i c k) (hk : k ∈ D.flatten ++ c) (hc : 0 < c.length) : Cyc p (D ++ [c]) ∧ i ∈ c := by
  obtain ⟨h0, hl⟩ := h.head hc
  have hlr := h.rng (c[c.length - 1]'(by omega)) (List.getElem_mem _)
  have hki : k = i := by
    rcases List.mem_append.1 hk with hm | hm
    · obtain ⟨d, hd, hkd⟩ := List.mem_flatten.1 hm
      obtain ⟨j, hj, rfl⟩ := List.mem_iff_getElem.1 hkd
      have hcd := (hD.cyc d hd).2
      have hdr : ∀ m (hm : m < d.length), 0 ≤ d[m] ∧ d[m] < p.length := fun m hm => hD.rng _ (List.mem_flatten.2 ⟨d, hd, List.getElem_mem hm⟩)
      -- the one ahead of it in its cycle
      have hpre : ∃ m, ∃ hm : m < d.length, p.getD d[m].toNat 0 = d[j] := by
        by_cases hj0 : j = 0
        · refine ⟨d.length - 1, by omega, ?_⟩
          rw [hcd (d.length - 1) (by omega)]
          have : (d.length - 1 + 1) % d.length = 0 := by rw [Nat.sub_add_cancel (by omega), Nat.mod_self]
          rw [this]
          subst hj0
          simp [hj]
        · refine ⟨j - 1, by omega, ?_⟩
          rw [hcd (j - 1) (by omega)]
          have : (j - 1 + 1) % d.length = j := by rw [Nat.sub_add_cancel (by omega), Nat.mod_eq_of_lt hj]
          rw [this]
          simp [hj]
      obtain ⟨m, hm', e⟩ := hpre
      have := order_inj hp (hdr m hm') hlr (by rw [e, hl])
      exfalso
      refine (List.nodup_append.1 h.nd).2.2 d[m] (List.mem_flatten.2 ⟨d, hd, List.getElem_mem hm'⟩) _ (List.getElem_mem (show c.length - 1 < c.length by omega)) this
    · obtain ⟨j, hj, rfl⟩ := List.mem_iff_getElem.1 hm
      by_cases hj0 : j = 0
      · subst hj0; exact h0
      · exfalso
        have e := h.step (j - 1) (by omega)
        have : c[j - 1 + 1]'(by omega) = c[j] := by congr 1; omega
        rw [this, ← hl] at e
        have := order_inj hp (h.rng _ (List.getElem_mem _)) hlr e
        have hnd : c.Nodup := (List.nodup_append.1 h.nd).2.1
        exact List.pairwise_iff_getElem.1 hnd (j - 1) (c.length - 1) (by omega) (by omega) (by omega) this
  have him : i ∈ c := by rw [← h0]; exact List.getElem_mem _
  refine ⟨⟨by simpa using h.nd, ?_, ?_⟩, him⟩
  · intro x hx
    rw [List.flatten_append, List.mem_append] at hx
    rcases hx with hx | hx
    · exact hD.rng x hx
    · simp at hx; exact h.rng x hx
  · intro d hd
    rcases List.mem_append.1 hd with hd | hd
    · exact hD.cyc d hd
    · rw [List.mem_singleton] at hd
      subst hd
      refine ⟨fun e => by simp [e] at hc, fun j hj => ?_⟩
      by_cases hl2 : j + 1 < d.length
      · rw [h.step j hl2, Nat.mod_eq_of_lt hl2]
        simp [hl2]
      · have hj2 : j = d.length - 1 := by omega
        subst hj2
        rw [hl, Nat.sub_add_cancel (by omega), Nat.mod_self, hki, ← h0]
        simp [hc]

/-- Cycles that hold every number hold so many. -/
theorem cyc_all {p : List Int} {D : List (List Int)} (hD : Cyc p D) (h : ∀ x : Int, 0 ≤ x → x < p.length → x ∈ D.flatten) : D.flatten.length = p.length := by
  have h1 : D.flatten.length ≤ (iota p.length).length := hD.nd.length_le_of_subset (fun x hx => by
    have := hD.rng x hx
    exact List.mem_iff_getElem.2 ⟨x.toNat, by rw [iota_length]; omega, by rw [iota_get]; omega⟩)
  have h2 : (iota p.length).length ≤ D.flatten.length := (iota_order p.length).1.length_le_of_subset (fun x hx => by
    have := (iota_order p.length).2 x hx
    rw [iota_length] at this
    exact h x this.1 this.2)
  rw [iota_length] at h1 h2
  omega

end Go.Proofs.Ytdegnnbffehmnaa

/- Plain facts on the pairs of a list that stand the wrong way round, and on the sign of an order. -/
namespace Go.Proofs.Ytdegnnbffehmnaa
set_option linter.unusedVariables false

/-- How many of a list are below x. -/
def low (x : Int) (l : List Int) : Nat := l.countP fun y => decide (y < x)
def inv : List Int → Nat
  | [] => 0
  | x :: r => low x r + inv r
/-- Of each of a, how many of b are below it. -/
def cross : List Int → List Int → Nat
  | [], _ => 0
  | x :: r, b => low x b + cross r b
theorem low_append (x : Int) (a b : List Int) : low x (a ++ b) = low x a + low x b := List.countP_append ..
theorem low_perm {x : Int} {a b : List Int} (h : a.Perm b) : low x a = low x b := h.countP_eq _
theorem inv_append (a b : List Int) : inv (a ++ b) = inv a + inv b + cross a b := by
  induction a with
  | nil => simp [inv, cross]
  | cons x r ih => simp only [List.cons_append, inv, cross, low_append, ih]; omega
theorem cross_right {a b c : List Int} (h : b.Perm c) : cross a b = cross a c := by
  induction a with
  | nil => rfl
  | cons x r ih => simp only [cross, ih, low_perm h]
theorem cross_left {a b c : List Int} (h : a.Perm b) : cross a c = cross b c := by
  induction h with
  | nil => rfl
  | cons x _ ih => simp only [cross, ih]
  | swap x y l => simp only [cross]; omega
  | trans _ _ h1 h2 => rw [h1, h2]
theorem cross_nil (a : List Int) : cross a [] = 0 := by
  induction a with
  | nil => rfl
  | cons x r ih => simp [cross, low, ih]
/-- Of each of a: how many are above the first of the other list. -/
theorem cross_cons (a : List Int) (y : Int) (b : List Int) : cross a (y :: b) = (a.countP fun x => decide (y < x)) + cross a b := by
  induction a with
  | nil => rfl
  | cons x r ih =>
    simp only [cross, ih, low, List.countP_cons]
    omega
theorem inv_le (l : List Int) : inv l ≤ l.length * l.length := by
  induction l with
  | nil => exact Nat.zero_le _
  | cons x r ih =>
    have : low x r ≤ r.length := List.countP_le_length
    simp only [inv, List.length_cons, Nat.add_mul, Nat.mul_add]
    omega
theorem cross_le (a b : List Int) : cross a b ≤ a.length * b.length := by
  induction a with
  | nil => simp [cross]
  | cons x r ih =>
    have : low x b ≤ b.length := List.countP_le_length
    simp only [cross, List.length_cons, Nat.add_mul]
    omega

/-- Of two numbers: the parity of how they stand in two lists. -/
def odd2 (u v : Int × Int) : Nat := if (decide (v.1 < u.1)) = (decide (v.2 < u.2)) then 0 else 1
def oddL (u : Int × Int) (l : List (Int × Int)) : Nat := (l.map (odd2 u)).sum
def oddS : List (Int × Int) → Nat
  | [] => 0
  | u :: r => oddL u r + oddS r
theorem oddL_perm {u : Int × Int} {a b : List (Int × Int)} (h : a.Perm b) : oddL u a = oddL u b := (h.map _).sum_nat
theorem odd2_comm {u v : Int × Int} (h1 : u.1 ≠ v.1) (h2 : u.2 ≠ v.2) : odd2 u v = odd2 v u := by
  unfold odd2
  by_cases h3 : v.1 < u.1 <;> by_cases h4 : v.2 < u.2 <;> simp [h3, h4] <;> omega
/-- No two are alike in either. -/
def Apart (l : List (Int × Int)) : Prop := l.Pairwise fun u v => u.1 ≠ v.1 ∧ u.2 ≠ v.2
theorem Apart.perm {a b : List (Int × Int)} (h : Apart a) (hp : a.Perm b) : Apart b :=
  hp.pairwise h (fun h => ⟨h.1.symm, h.2.symm⟩)
theorem oddS_perm {a b : List (Int × Int)} (h : a.Perm b) (ha : Apart a) : oddS a = oddS b := by
  induction h with
  | nil => rfl
  | cons x hp ih => simp only [oddS, oddL_perm hp, ih (List.pairwise_cons.1 ha).2]
  | swap x y l =>
    have h1 := (List.pairwise_cons.1 ha).1 x (by simp)
    simp only [oddS, oddL, List.map_cons, List.sum_cons, odd2_comm h1.1 h1.2]
    omega
  | trans h1 _ i1 i2 => rw [i1 ha, i2 (ha.perm h1)]
theorem oddL_low (u : Int × Int) (l : List (Int × Int)) : (oddL u l + low u.1 (l.map (·.1)) + low u.2 (l.map (·.2))) % 2 = 0 := by
  induction l with
  | nil => rfl
  | cons v r ih =>
    simp only [oddL, low, List.map_cons, List.sum_cons, List.countP_cons] at ih ⊢
    generalize (List.map (odd2 u) r).sum = S at *
    generalize List.countP (fun y => decide (y < u.1)) (List.map (·.1) r) = X at *
    generalize List.countP (fun y => decide (y < u.2)) (List.map (·.2) r) = Y at *
    unfold odd2
    by_cases h3 : v.1 < u.1 <;> by_cases h4 : v.2 < u.2 <;> simp only [h3, h4, decide_true, decide_false, if_true, if_false, Bool.false_eq_true, Bool.true_eq_false] <;> omega
theorem oddS_inv (l : List (Int × Int)) : (oddS l + inv (l.map (·.1)) + inv (l.map (·.2))) % 2 = 0 := by
  induction l with
  | nil => rfl
  | cons v r ih =>
    have := oddL_low v r
    simp only [oddS, inv, List.map_cons]
    omega

theorem order_perm {p : List Int} (h : Order p) : p.Perm (iota p.length) := by
  refine (List.perm_ext_iff_of_nodup h.1 (iota_order p.length).1).2 fun x => ⟨fun hx => ?_, fun hx => ?_⟩
  · have := h.2 x hx
    exact List.mem_iff_getElem.2 ⟨x.toNat, by rw [iota_length]; omega, by rw [iota_get]; omega⟩
  · have := (iota_order p.length).2 x hx
    rw [iota_length] at this
    obtain ⟨i, hi, e⟩ := h.onto x.toNat (by omega)
    rw [Int.toNat_of_nonneg this.1] at e
    rw [← e]; exact List.getElem_mem _
theorem inv_sorted {l : List Int} (h : l.Pairwise (· ≤ ·)) : inv l = 0 := by
  induction l with
  | nil => rfl
  | cons x r ih =>
    rw [List.pairwise_cons] at h
    have : low x r = 0 := by
      refine List.countP_eq_zero.2 fun y hy => ?_
      have := h.1 y hy
      simp; omega
    simp only [inv, this, ih h.2]
theorem iota_pair (n : Nat) : (iota n).Pairwise (· < ·) := by
  refine List.pairwise_iff_getElem.2 fun i j hi hj h => ?_
  rw [iota_get, iota_get]; omega
theorem inv_iota (n : Nat) : inv (iota n) = 0 := inv_sorted ((iota_pair n).imp (by intro a b h; omega))

/-- The order's number at x, beside x. -/
def both (p : List Int) (x : Int) : Int × Int := (x, p.getD x.toNat 0)
theorem both_fst (p l : List Int) : (l.map (both p)).map (·.1) = l := by
  rw [List.map_map]; conv => rhs; rw [← List.map_id l]
  rfl
theorem both_snd (p l : List Int) : (l.map (both p)).map (·.2) = thenL l p := by
  rw [List.map_map]; rfl
theorem iota_snd {p : List Int} : thenL (iota p.length) p = p := by
  apply List.ext_getElem
  · rw [thenL_length, iota_length]
  · intro i h1 h2
    simp [thenL, iota, h2]
theorem both_apart {p l : List Int} (hp : Order p) (hl : l.Nodup) (hr : ∀ x ∈ l, 0 ≤ x ∧ x < p.length) : Apart (l.map (both p)) := by
  refine List.pairwise_map.2 (List.Pairwise.imp_of_mem ?_ hl)
  intro a b ha hb hne
  exact ⟨hne, fun e => hne (order_inj hp (hr a ha) (hr b hb) e)⟩
/-- The sign of an order, read off any list of all places. -/
theorem sign_any {p l : List Int} (hp : Order p) (h : l.Perm (iota p.length)) : (inv p + inv l + inv (thenL l p)) % 2 = 0 := by
  have hap := both_apart hp (iota_order p.length).1 (fun x hx => by have := (iota_order p.length).2 x hx; rwa [iota_length] at this)
  have h1 := oddS_inv (l.map (both p))
  have h2 := oddS_inv ((iota p.length).map (both p))
  have h3 := oddS_perm (h.symm.map (both p)) hap
  rw [both_fst, both_snd] at h1 h2
  rw [iota_snd, inv_iota] at h2
  omega
theorem sign_then {p q : List Int} (hp : Order p) (hq : Order q) (hl : p.length = q.length) : (inv p + inv q + inv (thenL p q)) % 2 = 0 := by
  have := sign_any hq (hl ▸ order_perm hp)
  omega

/-- A cycle turned by one. -/
def turn1 : List Int → List Int
  | [] => []
  | x :: r => r ++ [x]
theorem turn1_perm (c : List Int) : (turn1 c).Perm c := by
  cases c with
  | nil => exact .refl _
  | cons x r => exact List.perm_append_comm
theorem turn1_inv (c : List Int) (h : c.Nodup) : (inv c + inv (turn1 c) + (c.length - 1)) % 2 = 0 := by
  cases c with
  | nil => rfl
  | cons x r =>
    have h1 := List.nodup_cons.1 h
    have e : low x r + cross r [x] = r.length := by
      have hc := cross_cons r x []
      rw [cross_nil] at hc
      rw [hc]
      have h2 := h1.1
      clear h h1 hc
      induction r with
      | nil => rfl
      | cons y s ih =>
        rw [List.mem_cons, not_or] at h2
        have := ih h2.2
        simp only [low, List.countP_cons, List.length_cons] at this ⊢
        by_cases h3 : y < x
        · simp [h3, show ¬ x < y by omega]; omega
        · simp [h3, show x < y by omega]; omega
    simp only [turn1, inv, inv_append, List.length_cons]
    have : low x [] = 0 := rfl
    omega
theorem turn1_get (c : List Int) (j : Nat) (h : j < c.length) : (turn1 c)[j]? = some (c.getD ((j + 1) % c.length) 0) := by
  cases c with
  | nil => simp at h
  | cons x r =>
    rw [List.length_cons] at h
    simp only [turn1, List.length_cons]
    by_cases h2 : j < r.length
    · rw [List.getElem?_append_left h2, Nat.mod_eq_of_lt (by omega)]
      simp [h2]
    · have hj : j = r.length := by omega
      subst hj
      rw [Nat.mod_self, List.getElem?_append_right (Nat.le_refl _)]
      simp
theorem turns_inv (D : List (List Int)) (h : D.flatten.Nodup) (hne : ∀ c ∈ D, c ≠ []) : (inv D.flatten + inv (D.map turn1).flatten + D.flatten.length + D.length) % 2 = 0 ∧ (D.map turn1).flatten.Perm D.flatten ∧ D.length ≤ D.flatten.length := by
  induction D with
  | nil => exact ⟨rfl, .refl _, Nat.le_refl _⟩
  | cons c D ih =>
    rw [List.flatten_cons, List.nodup_append] at h
    obtain ⟨i1, i2, i3⟩ := ih h.2.1 (fun d hd => hne d (List.mem_cons_of_mem _ hd))
    have hc := turn1_inv c h.1
    have hpos : 0 < c.length := List.length_pos_iff.2 (hne c (by simp))
    have e1 : cross (turn1 c) (D.map turn1).flatten = cross c D.flatten := by rw [cross_left (turn1_perm c), cross_right i2]
    refine ⟨?_, ?_, ?_⟩
    · simp only [List.map_cons, List.flatten_cons, inv_append, e1, List.length_append, List.length_cons]
      omega
    · simp only [List.map_cons, List.flatten_cons]
      exact (turn1_perm c).append i2
    · simp only [List.flatten_cons, List.length_append, List.length_cons]; omega
theorem cyc_then {p : List Int} {D : List (List Int)} (hD : Cyc p D) : thenL D.flatten p = (D.map turn1).flatten := by
  unfold thenL
  rw [List.map_flatten]
  congr 1
  apply List.map_congr_left
  intro c hc
  apply List.ext_getElem?
  intro j
  by_cases hj : j < c.length
  · rw [turn1_get c j hj, List.getElem?_map, List.getElem?_eq_getElem hj, Option.map_some, (hD.cyc c hc).2 j hj]
  · have h1 : (turn1 c).length = c.length := (turn1_perm c).length_eq
    rw [List.getElem?_eq_none (by simp; omega), List.getElem?_eq_none (by omega)]
theorem sign_cyc {p : List Int} {D : List (List Int)} (hp : Order p) (hD : Cyc p D) (hl : D.flatten.length = p.length) : (inv p + p.length + D.length) % 2 = 0 ∧ D.length ≤ p.length := by
  have hperm : D.flatten.Perm (iota p.length) := by
    have := order_perm (p := D.flatten) ⟨hD.nd, fun x hx => by rw [hl]; exact hD.rng x hx⟩
    rwa [hl] at this
  have h1 := sign_any hp hperm
  rw [cyc_then hD] at h1
  obtain ⟨h2, _, h4⟩ := turns_inv D hD.nd (fun c hc => (hD.cyc c hc).1)
  omega

/-- Two sorted lists, one put into the other: what is done, and what is still to do. -/
structure Mrg (A B a b o : List Int) (m : Nat) : Prop where
  perm : (o ++ (a ++ b)).Perm (A ++ B)
  so : o.Pairwise (· ≤ ·)
  sa : a.Pairwise (· ≤ ·)
  sb : b.Pairwise (· ≤ ·)
  lo : ∀ x ∈ o, ∀ y ∈ a ++ b, x ≤ y
  cnt : m + cross a b = cross A B
theorem Mrg.start {A B : List Int} (ha : A.Pairwise (· ≤ ·)) (hb : B.Pairwise (· ≤ ·)) : Mrg A B A B [] 0 := ⟨.refl _, .nil, ha, hb, by simp, Nat.zero_add _⟩
theorem so_snoc {o : List Int} {x : Int} (h : o.Pairwise (· ≤ ·)) (hx : ∀ y ∈ o, y ≤ x) : (o ++ [x]).Pairwise (· ≤ ·) :=
  List.pairwise_append.2 ⟨h, by simp, fun a ha b hb => by rw [List.mem_singleton.1 hb]; exact hx a ha⟩
theorem Mrg.left {A B a b o : List Int} {m : Nat} {x y : Int} (h : Mrg A B (x :: a) (y :: b) o m) (hxy : x ≤ y) : Mrg A B a (y :: b) (o ++ [x]) m := by
  have h1 := List.pairwise_cons.1 h.sa
  have h2 := List.pairwise_cons.1 h.sb
  refine ⟨by simpa using h.perm, so_snoc h.so (fun z hz => h.lo z hz x (by simp)), h1.2, h.sb, fun z hz t ht => ?_, ?_⟩
  · rcases List.mem_append.1 hz with hz | hz
    · exact h.lo z hz t (by simp only [List.cons_append, List.mem_cons]; exact .inr ht)
    · rw [List.mem_singleton.1 hz]
      rcases List.mem_append.1 ht with ht | ht
      · exact h1.1 t ht
      · rcases List.mem_cons.1 ht with rfl | ht
        · exact hxy
        · have := h2.1 t ht; omega
  · have h3 := h.cnt
    have : low x (y :: b) = 0 := by
      refine List.countP_eq_zero.2 fun t ht => ?_
      rcases List.mem_cons.1 ht with rfl | ht
      · simp; omega
      · have := h2.1 t ht
        simp; omega
    simp only [cross] at h3
    omega
theorem Mrg.right {A B a b o : List Int} {m : Nat} {x y : Int} (h : Mrg A B (x :: a) (y :: b) o m) (hxy : y < x) : Mrg A B (x :: a) b (o ++ [y]) (m + (a.length + 1)) := by
  have h1 := List.pairwise_cons.1 h.sa
  have h2 := List.pairwise_cons.1 h.sb
  refine ⟨?_, so_snoc h.so (fun z hz => h.lo z hz y (by simp)), h.sa, h2.2, fun z hz t ht => ?_, ?_⟩
  · refine List.Perm.trans ?_ h.perm
    rw [List.append_assoc]
    refine List.Perm.append_left _ ?_
    have := @List.perm_middle Int y (x :: a) b
    exact this.symm
  · rcases List.mem_append.1 hz with hz | hz
    · exact h.lo z hz t (by
        rcases List.mem_append.1 ht with ht | ht
        · exact List.mem_append.2 (.inl ht)
        · exact List.mem_append.2 (.inr (List.mem_cons_of_mem _ ht)))
    · rw [List.mem_singleton.1 hz]
      rcases List.mem_append.1 ht with ht | ht
      · rcases List.mem_cons.1 ht with rfl | ht
        · omega
        · have := h1.1 t ht; omega
      · exact h2.1 t ht
  · have h3 := h.cnt
    rw [cross_cons] at h3
    have : (x :: a).countP (fun z => decide (y < z)) = (x :: a).length := by
      refine List.countP_eq_length.2 fun t ht => ?_
      rcases List.mem_cons.1 ht with rfl | ht
      · simp; omega
      · have := h1.1 t ht
        simp; omega
    rw [this, List.length_cons] at h3
    omega
theorem Mrg.done {A B a b o : List Int} {m : Nat} (h : Mrg A B a b o m) (he : a = [] ∨ b = []) : m = cross A B ∧ (o ++ a ++ b).Pairwise (· ≤ ·) ∧ (o ++ a ++ b).Perm (A ++ B) := by
  refine ⟨?_, ?_, by rw [List.append_assoc]; exact h.perm⟩
  · have := h.cnt
    rcases he with rfl | rfl
    · simpa [cross] using this
    · rw [cross_nil] at this; omega
  · rw [List.append_assoc]
    refine List.pairwise_append.2 ⟨h.so, ?_, h.lo⟩
    rcases he with rfl | rfl
    · exact h.sb
    · rw [List.append_nil]; exact h.sa
theorem Mrg.len {A B a b o : List Int} {m : Nat} (h : Mrg A B a b o m) : o.length + a.length + b.length = A.length + B.length := by
  have := h.perm.length_eq
  simp only [List.length_append] at this
  omega
/-- A list, the pairs of its halves, and those between them. -/
theorem inv_halves {l a b A B : List Int} (h : l = a ++ b) (hA : A.Perm a) (hB : B.Perm b) : inv l = inv a + inv b + cross A B := by
  rw [h, inv_append, cross_left hA, cross_right hB]
theorem inv_two : inv [1, 0] = 1 := by decide
theorem order_two : Order [1, 0] := by
  refine ⟨by decide, ?_⟩
  intro x hx
  simp only [List.mem_cons, List.not_mem_nil, or_false] at hx
  rcases hx with rfl | rfl <;> decide
attribute [irreducible] inv cross low

end Go.Proofs.Ytdegnnbffehmnaa

