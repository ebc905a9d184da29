/- The places of spans, as a comparison has them. -/
import Derived.Test.YtlmdlholmlbcbaaSmU
namespace Go.Proofs.Ytlmdlholmlbcbaa
set_option linter.unusedVariables false
open Go.RowKit

set_option maxRecDepth 100000 in
set_option maxHeartbeats 4000000 in
theorem places_any (F : FuncId) (by' : Spn → Int) (hF : TellsBy F by') (egF : ∀ args w, (callFunc F args).run Try.prog w = .ok (.enter F args) w) (a : Option Addr) (cap n : Nat) (L : List Spn) (w : World) (h : SlF spL 2 w a n cap L) (hn : n ≤ 1000) (h0 : 0 < n) :
    Calls Try.prog 44 #[.slice a n cap, .func (.func F) #[] #[]] w fun e w' => ∃ sa sc M, e = .returned (.slice sa n sc) ∧ Kp (M.Perm (List.range n) ∧ Up (fun i => by' (L.getD i sp0)) M) ∧ Kp (w'.ownsRow w.heap.size 3 1 (.slice sa n sc) n (ints (M.map Int.ofNat))) ∧ Below w.heap.size w w' := by
  have eg : ∀ args w, (callFunc 87 args).run Try.prog w = .ok (.enter 87 args) w := enters_of Try.func87 (by kernel_rfl) rfl
  have hl := h.len spL_len (by omega)
  obtain ⟨ka, hka, hka2⟩ := SlC.lt h (by rw [flat_length spL_len]; omega)
  have hA1 := below_alloc (Nat.le_refl w.heap.size) (.cells #[.slice a n cap] 23)
  have HX2 := Box.new w #[.slice a n cap] 23
  obtain ⟨b2, hb2⟩ : ∃ b2, b2 = w.heap.size := ⟨_, rfl⟩
  have hsz : (w.alloc (.cells #[.slice a n cap] 23)).heap.size = b2 + 1 := by rw [hb2]; simp
  have hA2 := below_alloc (Nat.le_refl (w.alloc (.cells #[.slice a n cap] 23)).heap.size) (.cells #[.func (.func F) #[] #[]] 83)
  have HX3 := Box.new (w.alloc (.cells #[.slice a n cap] 23)) #[.func (.func F) #[] #[]] 83
  have HX2' := HX2.below hA2
  have HS := Kp.mk ((SlF.below h hA1).below hA2)
  have HB := Kp.mk (below_step hA1 hA2)
  rw [hsz] at HX3
  rw [← hb2] at HX2'
  have HC2 := Kp.mk (HX2'.cell 0 rfl)
  have HC3 := Kp.mk (HX3.cell 0 rfl)
  have hsz3 : ((w.alloc (.cells #[.slice a n cap] 23)).alloc (.cells #[.func (.func F) #[] #[]] 83)).heap.size = b2 + 2 := by
    rw [World.size_alloc, hsz]
  clear h hA1 hA2 HX2 HX2' HX3 hl
  go_enter Try.func44, Try.ntmps44
  go_upto_region 2 with (fail)
  simp only [← hb2] at HC2 HC3 ⊢
  have HC2 := Kp.mk (show _ = some (Value.slice a n cap) from HC2.out)
  have HC3 := Kp.mk (show _ = some (Value.func (.func F) #[] #[]) from HC3.out)
  generalize (w.alloc (.cells #[.slice a n cap] 23)).alloc (.cells #[.func (.func F) #[] #[]] 83) = w1 at *
  have hkw : ka < w1.heap.size := by omega
  have hlt2 : b2 < w1.heap.size := by omega
  have hlt3 : b2 + 1 < w1.heap.size := by omega
  have HHF := Kp.mk hF
  subst hb2
  have d2 := HC2.out
  clear hsz hsz3 hF hka2
  go_wp2
  go_loopw [5, 9] (fun x i wr => ∃ (k : Nat) (ra : Option Addr) (rc : Nat), k ≤ n ∧ i = .int .i64 k ∧ x = .slice ra k rc ∧ Kp (wr.ownsRow w1.heap.size 3 1 (.slice ra k rc) k (ints ((List.range k).map Int.ofNat))) ∧ Kp (Below w1.heap.size w1 wr)) (fun _ i _ => n - (intOf i).toNat)
  case atStart => exact ⟨0, none, 0, Nat.zero_le _, rfl, rfl, ⟨World.ownsRow_nil _ _ _ _⟩, ⟨Below.refl _ _⟩⟩
  case round =>
    obtain ⟨k, ra, rc, hk, rfl, rfl, HR, HBr⟩ := hrel
    by_cases hlt : k < n
    · go_wp2_with (at_builtin; refine wpList_push tInts rfl _ _ rfl w1.heap.size ra k rc _ rfl HR.out 1 1 _ rfl rfl ?d1 (by decide) ?d2 (by decide) HBr.out.size ?d4)
      case d1 => simp [Value.oneCell']
      case d2 => omega
      case d4 =>
        intro ya yc w4 ho4 hb4
        have HR4 := Kp.mk (show w4.ownsRow w1.heap.size 3 1 (.slice ya (k + 1) yc) (k + 1) (ints ((List.range (k + 1)).map Int.ofNat)) from by
          rw [List.range_succ, List.map_append, ints_append]; exact ho4)
        have HB4 := Kp.mk (HBr.out.trans hb4)
        clear ho4 hb4
        go_wp2
        go_roundw
        case rel => exact ⟨k + 1, ya, yc, by omega, by go_num, rfl, HR4, HB4⟩
        case measure => simp [intOf]; omega
    · obtain rfl : k = n := by omega
      obtain ⟨g, rfl, hg⟩ := own_some HR.out h0
      have HSr := Kp.mk (SlF.below HS.out HBr.out)
      have HCK := Kp.mk (show CmpK 87 #[.pointer (some ⟨w.heap.size + 1, 0, none⟩), .pointer (some ⟨w.heap.size, 0, none⟩)] (fun i => by' (L.getD i sp0)) g k wr from by
        intro W hW x y hx hy
        have q2 : wr.cell? ⟨w.heap.size, 0, none⟩ = some (.slice a k cap) := (HBr.out.cell (p := ⟨w.heap.size, 0, none⟩) hlt2).trans HC2.out
        have q3 : wr.cell? ⟨w.heap.size + 1, 0, none⟩ = some (.func (.func F) #[] #[]) := (HBr.out.cell (p := ⟨w.heap.size + 1, 0, none⟩) hlt3).trans HC3.out
        exact placesCmp_any F by' HHF.out egF w.heap.size (w.heap.size + 1) a cap k x y L W (SlC.keep HSr.out hW (fun q hq => by
            simp only [Option.some.injEq] at hq
            rw [hka]
            intro e
            simp only [Option.some.injEq] at e
            omega))
          (hW.cell q2 (by intro e; simp at e; omega)) (hW.cell q3 (by intro e; simp at e; omega)) hx hy)
      have HRW := Kp.mk (show Rw w1.heap.size g rc k k wr wr (List.range k) from ⟨HR.out, grown_refl _ _, fun x hx => List.mem_range.1 hx⟩)
      go_wp2_with fail
      refine (sortStable_any 87 _ eg _ w1.heap.size g rc k k wr HCK.out (by omega) (List.range k) wr HRW.out).mono ?_
      rintro e w5 ⟨rfl, M, HM, HR5⟩
      have HO := Kp.mk (own_base HR5.out.own (show w.heap.size ≤ w1.heap.size by omega))
      have HBE := Kp.mk (HB.out.trans ((HBr.out.mono (by omega)).trans (below_of_grown HR5.out.gr (by have := HBr.out.size; omega) (fun q hq => by simp only [Option.some.injEq] at hq; omega))))
      clear HR5 HCK HRW HSr
      go_wp2
      go_ret
      exact ⟨_, _, M, rfl, HM, HO, HBE.out⟩

end Go.Proofs.Ytlmdlholmlbcbaa
