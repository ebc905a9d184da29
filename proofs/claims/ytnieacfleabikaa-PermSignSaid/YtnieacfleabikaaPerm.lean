/- Orders: the law's own Shuffle, and package perm. -/
import Derived.Test.YtnieacfleabikaaKeep
namespace Go.Proofs.Ytnieacfleabikaa
set_option linter.unusedVariables false
open Go.RowKit

theorem ints_cell {w : World} {B e g n cap k : Nat} {o : List Int} (h : w.ownsRow B e 1 (.slice (some ⟨g, 0, none⟩) n cap) n (ints o)) (hl : o.length = n) (hk : k < n) :
    w.cell? ⟨g, k, none⟩ = some (.int .i64 (o.getD k 0)) := by
  rw [h.cellAt k (by omega), List.getElem?_eq_getElem (by rw [ints_length]; omega), ints_get]
  simp [List.getElem?_eq_getElem (show k < o.length by omega)]

def iota (n : Nat) : List Int := (List.range n).map Int.ofNat
theorem iota_length (n : Nat) : (iota n).length = n := by simp [iota]
theorem iota_succ (n : Nat) : iota (n + 1) = iota n ++ [(n : Int)] := by simp [iota, List.range_succ]

/-- Two places of a list exchanged. -/
def swapL (o : List Int) (i k : Nat) : List Int := (o.set i (o.getD k 0)).set k (o.getD i 0)
theorem swapL_length (o : List Int) (i k : Nat) : (swapL o i k).length = o.length := by simp [swapL]

/-- The place with which place i is exchanged. -/
def shufK (l : List Int) (n i : Nat) : Nat := i + (pick (if i < l.length then l.getD i 0 else (i : Int) * 7) ((n : Int) - i)).toNat
def shuf (l : List Int) (n : Nat) : Nat → List Int
  | 0 => iota n
  | i + 1 => swapL (shuf l n i) i (shufK l n i)
theorem shuf_length (l : List Int) (n i : Nat) : (shuf l n i).length = n := by
  induction i with
  | zero => exact iota_length n
  | succ i ih => rw [shuf, swapL_length, ih]
theorem shufK_bd (l : List Int) (n i : Nat) (h : i < n) : i ≤ shufK l n i ∧ shufK l n i < n := by
  have := pick_bd (if i < l.length then l.getD i 0 else (i : Int) * 7) ((n : Int) - i) (by omega)
  unfold shufK; omega

theorem swap_own {w : World} {B g n cap k q : Nat} {o : List Int} (h : w.ownsRow B 3 1 (.slice (some ⟨g, 0, none⟩) n cap) n (ints o)) :
    ((w.setCell ⟨g, k, none⟩ (.int .i64 (o.getD q 0))).setCell ⟨g, q, none⟩ (.int .i64 (o.getD k 0))).drew.ownsRow B 3 1 (.slice (some ⟨g, 0, none⟩) n cap) n (ints (swapL o k q)) := by
  have h1 := (h.stored k (.int .i64 (o.getD q 0))).1
  rw [ints_set] at h1
  have h2 := (h1.stored q (.int .i64 (o.getD k 0))).1
  rw [ints_set] at h2
  exact h2

set_option maxHeartbeats 400000 in
theorem shuffle_any (a : Option Addr) (cap n : Nat) (l : List Int) (w : World) (h : SlI w a cap l) (hl : l.length ≤ 9223372036854775807) (hn : n ≤ 1000) (hw : ∀ x ∈ l, (Lit.int .i64 x).wf = true) :
    Calls Try.prog 19 #[.slice a l.length cap, .int .i64 n] w (fun e w' => ∃ sa cap, e = .returned (.slice sa n cap) ∧ w'.ownsRow w.heap.size 3 1 (.slice sa n cap) n (ints (shuf l n n)) ∧ Below w.heap.size w w') := by
  have H := Lib.hid h
  have HW := Lib.hid hw
  clear h hw
  obtain ⟨B, hB⟩ : ∃ B, B = w.heap.size := ⟨_, rfl⟩
  rw [← hB]
  have HB := Lib.hid hB
  clear hB
  go_enter Try.func19, Try.ntmps19
  go_wp2
  go_loopw [5, 6] (fun v i wr => ∃ (k : Nat) (sa : Option Addr) (cap : Nat), k ≤ n ∧ i = .int .i64 k ∧ v = .slice sa k cap ∧ wr.ownsRow B 3 1 (.slice sa k cap) k (ints (iota k)) ∧ Below B w wr) (fun _ i _ => n - (intOf i).toNat)
  case atStart => exact ⟨0, none, 0, Nat.zero_le _, rfl, rfl, World.ownsRow_nil _ _ _ _, Below.refl _ _⟩
  case round =>
    obtain ⟨k, sa, cap1, hk, rfl, rfl, hown, hbel⟩ := hrel
    have hsz := Lib.hid hbel.size
    by_cases hlt : k < n
    · go_wp2_with (at_builtin; refine wpList_push tInts rfl _ _ rfl B _ _ _ _ rfl hown 1 1 _ rfl rfl ?c1 (by decide) ?c2 (by decide) ?c3 ?c4)
      case c1 => simp [Value.oneCell']
      case c2 => omega
      case c3 => rw [HB.out]; exact hsz.out
      case c4 =>
        intro sa' cap' w' hown' hbel'
        go_wp2
        go_roundw
        case rel => exact ⟨k + 1, sa', cap', by omega, by go_num, rfl, by rw [iota_succ, ints_append]; exact hown', hbel.trans hbel'⟩
        case measure => simp [intOf]; omega
    · obtain rfl : n = k := by omega
      go_wp2
      go_loopw [7] (fun i wr => ∃ (k : Nat), k ≤ n ∧ i = .int .i64 k ∧ wr.ownsRow B 3 1 (.slice sa n cap1) n (ints (shuf l n k)) ∧ Below B w wr) (fun i _ => n - (intOf i).toNat)
      case atStart => exact ⟨0, Nat.zero_le _, rfl, hown, hbel⟩
      case round =>
        clear hown hbel hsz
        obtain ⟨k, hk, rfl, hown, hbel⟩ := hrel
        have hO := Lib.hid hown
        by_cases hlt2 : k < n
        · obtain ⟨g, rfl, hg, hg2⟩ := own_some hown (by omega)
          clear hown
          have hlen := shuf_length l n k
          obtain ⟨x, hx⟩ : ∃ x, x = if k < l.length then l.getD k 0 else (k : Int) * 7 := ⟨_, rfl⟩
          have hbd := shufK_bd l n k hlt2
          have hpb := pick_bd x ((n : Int) - k) (by omega)
          obtain ⟨q, hq⟩ : ∃ q : Nat, pick x ((n : Int) - k) = q := ⟨_, (Int.toNat_of_nonneg hpb.1).symm⟩
          have hK : shufK l n k = k + q := by unfold shufK; rw [← hx, hq]; simp
          have hs : shuf l n (k + 1) = swapL (shuf l n k) k (k + q) := by rw [shuf, hK]
          have hq2 : k + q < n := by omega
          have HQ := Lib.hid hq
          have HX := Lib.hid hx
          have HS := Lib.hid hs
          clear hpb hbd hK hq hx hs
          generalize shuf l n k = o at *
          have c1 : wr.cell? ⟨g, k, none⟩ = some (.int .i64 (o.getD k 0)) := ints_cell hO.out hlen (by omega)
          have c2 : wr.cell? ⟨g, k + q, none⟩ = some (.int .i64 (o.getD (k + q) 0)) := ints_cell hO.out hlen (by omega)
          have f1 : wr.frozen? ⟨g, k, none⟩ = false := hO.out.frozenAt k
          have f2 : wr.frozen? ⟨g, k + q, none⟩ = false := hO.out.frozenAt (k + q)
          have HL := Lib.hid hlen
          clear hlen
          by_cases hll : k < l.length
          · obtain ⟨b, off, rfl, cl⟩ := (H.out.below (HB.out ▸ hbel)).at k hll
            obtain ⟨hwf1, hwf2⟩ := wf_bd (HW.out l[k] (List.getElem_mem hll))
            have hxl : x = l[k] := by rw [HX.out, if_pos hll]; simp [hll]
            go_wp2_with fail
            refine (picked_any _ _ _ (by omega) (by omega) hwf1 hwf2).mono ?_
            rintro e w' ⟨rfl, rfl⟩
            rw [← hxl, HQ.out]
            obtain ⟨v2, hv2⟩ := cell?_setCell_some (w := wr) (p := ⟨g, k, none⟩) (x := .int .i64 (o[k + q]?.getD 0)) (q := ⟨g, k + q, none⟩) (v := .int .i64 (o.getD (k + q) 0)) c2
            go_wp2
            go_region
            go_wp2
            go_roundw
            case rel => exact ⟨k + 1, by omega, by go_num, by rw [HS.out]; exact swap_own hO.out, ((hbel.setCell (p := ⟨g, k, none⟩) hg _).setCell (p := ⟨g, k + q, none⟩) hg _).drew⟩
            case measure => simp [intOf]; omega
          · have hwf1 : -9223372036854775808 ≤ (k : Int) * 7 := by omega
            have hwf2 : (k : Int) * 7 ≤ 9223372036854775807 := by omega
            have hxl : x = (k : Int) * 7 := by rw [HX.out, if_neg hll]
            go_wp2_with fail
            refine (picked_any _ _ _ (by omega) (by omega) hwf1 hwf2).mono ?_
            rintro e w' ⟨rfl, rfl⟩
            rw [← hxl, HQ.out]
            obtain ⟨v2, hv2⟩ := cell?_setCell_some (w := wr) (p := ⟨g, k, none⟩) (x := .int .i64 (o[k + q]?.getD 0)) (q := ⟨g, k + q, none⟩) (v := .int .i64 (o.getD (k + q) 0)) c2
            go_wp2
            go_region
            go_wp2
            go_roundw
            case rel => exact ⟨k + 1, by omega, by go_num, by rw [HS.out]; exact swap_own hO.out, ((hbel.setCell (p := ⟨g, k, none⟩) hg _).setCell (p := ⟨g, k + q, none⟩) hg _).drew⟩
            case measure => simp [intOf]; omega
        · obtain rfl : n = k := by omega
          go_wp2
          go_ret
          exact ⟨sa, cap1, rfl, hO.out, hbel⟩

end Go.Proofs.Ytnieacfleabikaa
