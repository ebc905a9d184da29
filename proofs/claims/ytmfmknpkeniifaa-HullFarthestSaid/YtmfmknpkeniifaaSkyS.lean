/- Package sky: the walk of sorted. -/
import Derived.Test.YtmfmknpkeniifaaOrdS
namespace Go.Proofs.Ytmfmknpkeniifaa
set_option linter.unusedVariables false
open Go.RowKit Go.Sort

theorem ints_range_succ (k : Nat) : ints ((List.range (k + 1)).map Int.ofNat) = ints ((List.range k).map Int.ofNat) ++ [.int .i64 (k : Int)] := by
  rw [List.range_succ, List.map_append, ints_append]; rfl
theorem own_len' {w : World} {B e size n m c : Nat} {a : Option Addr} {xs : List Value} (h : w.ownsRow B e size (.slice a m c) n xs) (hm : m = n) : w.ownsRow B e size (.slice a n c) n xs := by subst hm; exact h

set_option maxRecDepth 100000 in
set_option maxHeartbeats 2000000 in
theorem skySorted_any (a : Option Addr) (cap m : Nat) (L : List Pt) (w : World) (h : SlF ptL 3 w a (m + 1) cap L) (hm : m + 1 ≤ 1000) :
    Calls Try.prog 62 #[.slice a (m + 1) cap] w fun e w' => ∃ ra rc O, e = .returned (.slice ra (m + 1) rc) ∧ Kp (IsOrder L O) ∧ Kp (w'.ownsRow w.heap.size 3 1 (.slice ra (m + 1) rc) (m + 1) (ints (O.map Int.ofNat))) ∧ Kp (Below w.heap.size w w') := by
  have HL := Kp.mk (h.len ptL_len (by omega))
  have HA := Kp.mk (below_alloc (Nat.le_refl w.heap.size) (.cells #[.slice a (m + 1) cap] 23))
  have HBX := Kp.mk (Box.new w #[.slice a (m + 1) cap] 23)
  have H := Kp.mk (SlF.below h HA.out)
  have HLT := Kp.mk (show ∀ k, blk a = some k → k < w.heap.size from fun k hk => by
    obtain ⟨k', h1, h2⟩ := SlC.lt h (by rw [flat_length ptL_len, HL.out]; omega)
    rw [h1] at hk; cases hk; exact h2)
  have hsz := alloc_size w (.cells #[.slice a (m + 1) cap] 23)
  have eg : ∀ args w, (callFunc 97 args).run Try.prog w = .ok (.enter 97 args) w := enters_of Try.func97 (by kernel_rfl) rfl
  clear h
  go_enter Try.func62, Try.ntmps62
  go_wp2
  obtain ⟨bs, hbs⟩ : ∃ bs, bs = w.heap.size := ⟨_, rfl⟩
  obtain ⟨w1, hw1⟩ : ∃ w1, w1 = w.alloc (.cells #[.slice a (m + 1) cap] 23) := ⟨_, rfl⟩
  rw [← hw1] at HA HBX H hsz ⊢
  rw [← hbs] at HA HBX HLT hsz ⊢
  have HBS := Kp.mk hbs
  have HSZ := Kp.mk hsz
  clear hw1 hbs hsz
  go_loopw [3, 7] (fun x i wr => ∃ (k : Nat) (ra : Option Addr) (rc : Nat), k ≤ m + 1 ∧ i = .int .i64 k ∧ x = .slice ra k rc ∧ Kp (wr.ownsRow (bs + 1) 3 1 (.slice ra k rc) k (ints ((List.range k).map Int.ofNat))) ∧ Kp (Below (bs + 1) w1 wr)) (fun _ i _ => m + 1 - (intOf i).toNat)
  case atStart => exact ⟨0, none, 0, Nat.zero_le _, rfl, rfl, ⟨World.ownsRow_nil _ _ _ _⟩, ⟨Below.refl _ _⟩⟩
  case round =>
    obtain ⟨k, ra, rc, hk, rfl, rfl, HO, HB⟩ := hrel
    by_cases hlt : k < m + 1
    · have hsr : bs + 1 ≤ wr.heap.size := by rw [← HSZ.out]; exact HB.out.size
      go_wp2_with (at_builtin; refine wpList_push tInts rfl _ _ rfl (bs + 1) ra k rc _ rfl HO.out 1 1 _ rfl rfl ?d1 (by decide) ?d2 (by decide) hsr ?d4)
      case d1 => simp [Value.oneCell']
      case d2 => omega
      case d4 =>
        intro ya yc w4 ho4 hb4
        have HO4 := Kp.mk (show w4.ownsRow (bs + 1) 3 1 (.slice ya (k + 1) yc) (k + 1) (ints ((List.range (k + 1)).map Int.ofNat)) from by
          rw [ints_range_succ]; exact ho4)
        have HB4 := Kp.mk (HB.out.trans hb4)
        clear ho4 hb4
        go_wp2
        go_roundw
        case rel => exact ⟨k + 1, ya, yc, by omega, by go_num, rfl, HO4, HB4⟩
        case measure => simp [intOf]; omega
    · obtain rfl : k = m + 1 := by omega
      have hsr : bs + 1 ≤ wr.heap.size := by rw [← HSZ.out]; exact HB.out.size
      have hbr : Below w1.heap.size w1 wr := by rw [HSZ.out]; exact HB.out
      have CS := Kp.mk (sortPl_own 97 #[.pointer (some ⟨bs, 0, none⟩)] L m (bs + 1) ra rc wr HL.out (by omega) eg HO.out hsr (fun w' gb ha hg x y hx hy => by
        have hgb := own_lt HO.out gb (by rw [ha]; rfl)
        refine skyOrd_any bs a cap (m + 1) x y L w' (SlC.keep (SlC.below H.out hbr) hg (fun k hk => by
          cases hk
          intro e
          have h3 : gb < bs := HLT.out gb e
          omega)) (by omega) ?_ hx hy
        have hbx := Box.below HBX.out hbr
        have hbx' : Box w' bs #[.slice a (m + 1) cap] 23 := (hg.block bs hbx.lt (fun e => by cases e; omega)).trans hbx
        exact hbx'.cell 0 rfl))
      go_wp2_with fail
      refine CS.out.mono ?_
      rintro e w2 ⟨rfl, O, HOR, HO2, HG⟩
      have HB2 := Kp.mk (show Below w.heap.size w w2 from by
        have h1 : Below (bs + 1) wr w2 := below_of_grown HG.out hsr (fun k hk => (own_lt HO.out k hk).1)
        rw [← HBS.out]
        exact HA.out.trans ((HB.out.trans h1).mono (by omega)))
      have HO3 := Kp.mk (own_base HO2.out (show bs ≤ bs + 1 by omega))
      go_wp2
      go_ret
      exact ⟨ra, rc, O, rfl, HOR, by rw [← HBS.out]; exact HO3, HB2⟩

end Go.Proofs.Ytmfmknpkeniifaa
