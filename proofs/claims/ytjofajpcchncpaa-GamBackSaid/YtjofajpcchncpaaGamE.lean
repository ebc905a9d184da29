/- Package gam: numbers are encoded. -/
import Derived.Test.YtjofajpcchncpaaGam
import Derived.Test.YtjofajpcchncpaaBits
namespace Go.Proofs.Ytjofajpcchncpaa
set_option linter.unusedVariables false
open Go.RowKit

/-- The codes of the first j numbers. -/
def encL (k : Nat) (L : List Nat) : Nat → List Bool
  | 0 => []
  | j + 1 => encL k L j ++ codeL k (L.getD j 0)
theorem encL_zero (k : Nat) (L : List Nat) : encL k L 0 = [] := rfl
theorem encL_succ (k : Nat) (L : List Nat) (j : Nat) : encL k L (j + 1) = encL k L j ++ codeL k (L.getD j 0) := rfl
theorem encL_mono (k : Nat) (L : List Nat) (i : Nat) : ∀ j, i ≤ j → (encL k L i).length ≤ (encL k L j).length
  | 0, h => by obtain rfl : i = 0 := by omega
               exact Nat.le_refl _
  | j + 1, h => by
    by_cases hij : i = j + 1
    · subst hij; exact Nat.le_refl _
    · have := encL_mono k L i j (by omega)
      rw [encL_succ, List.length_append]; omega
attribute [irreducible] encL

set_option maxRecDepth 100000 in
set_option maxHeartbeats 1000000 in
theorem genc_any (a : Option Addr) (cap n k : Nat) (L : List Nat) (w : World) (h : SlI w a cap (L.map Int.ofNat)) (hn : L.length = n) (hl : n ≤ 300) (hk : k = 1 ∨ k = 2) (hx : ∀ i, i < n → 1 ≤ L.getD i 0 ∧ L.getD i 0 ≤ 1048576) (ht : (encL k L n).length ≤ 4096) :
    Calls Try.prog 32 #[.int .i64 k, .slice a n cap] w (BitsRet w (encL k L n).length (bitsN (encL k L n) (encL k L n).length)) := by
  have H := Kp.mk h
  have HX := Kp.mk hx
  have HN := Kp.mk hn
  have HK := Kp.mk hk
  have HT := Kp.mk ht
  clear h hx hn hk ht
  obtain ⟨B, hB⟩ : ∃ B, B = w.heap.size := ⟨_, rfl⟩
  have HBB := Kp.mk hB
  clear hB
  go_enter Try.func32, Try.ntmps32
  go_wp2_with fail
  refine (gkinded_any k _ HK.out).mono ?_
  rintro e w' ⟨rfl, rfl⟩
  go_wp2
  obtain ⟨W0, hW0⟩ : ∃ W0, W0 = w.alloc (Obj.cells #[Value.int IntKind.i64 0, Value.slice none 0 0] 49) := ⟨_, rfl⟩
  rw [← hW0]
  have h4 : Box W0 w.heap.size #[Value.int IntKind.i64 0, Value.slice none 0 0] 49 := by rw [hW0]; exact Box.new _ _ _
  have hBW : Below w.heap.size w W0 := by rw [hW0]; exact below_alloc (Nat.le_refl _) _
  have hsz : W0.heap.size = w.heap.size + 1 := by rw [hW0]; exact alloc_size _ _
  have H4 := Kp.mk h4
  have HBW := Kp.mk hBW
  have HSZ := Kp.mk hsz
  clear h4 hBW hsz hW0
  go_loopw [6, 23] (fun v i wr => ∃ (j : Nat) (sa : Option Addr) (sc : Nat), j ≤ n ∧ i = .int .i64 j ∧ v = .slice sa (encL k L j).length sc ∧ OwnBo W0.heap.size wr sa (encL k L j).length sc (encL k L j) ∧ Below W0.heap.size W0 wr) (fun _ i _ => n - (intOf i).toNat)
  case atStart => exact ⟨0, none, 0, Nat.zero_le _, rfl, by rw [encL_zero]; rfl, by rw [encL_zero]; exact World.ownsRow_nil _ _ _ _, Below.refl _ _⟩
  case round =>
    obtain ⟨j, sa, sc, hj, rfl, rfl, hown, hbel⟩ := hrel
    have HO := Kp.mk hown
    have HB := Kp.mk hbel
    clear hown hbel
    by_cases hlt : j < n
    · obtain ⟨b, off, rfl, c1⟩ := (H.out.below (below_step HBW.out HB.out)).at j (by rw [List.length_map, HN.out]; exact hlt)
      have e1 : (L.map Int.ofNat)[j]'(by rw [List.length_map, HN.out]; exact hlt) = ((L.getD j 0 : Nat) : Int) := by
        have := HN.out
        simp [List.getD, List.getElem?_eq_getElem (show j < L.length by omega)]
      rw [e1] at c1
      clear e1
      obtain ⟨x1, x2⟩ := HX.out j hlt
      have C := Kp.mk (gcode_any k (L.getD j 0) wr HK.out (by omega) x2)
      have hsu := Kp.mk (encL_succ k L j)
      have hmo := encL_mono k L (j + 1) n (by omega)
      rw [hsu.out, List.length_append] at hmo
      have ht := HT.out
      generalize L.getD j 0 = x at *
      have hsw : Kp (W0.heap.size ≤ wr.heap.size) := ⟨HB.out.size⟩
      generalize codeL k x = cl at *
      generalize hE : encL k L j = E at *
      have HE := Kp.mk hE
      clear hE
      go_wp2_with fail
      refine C.out.mono ?_
      rintro e wa ⟨ca, cc, rfl, hoc, hbc⟩
      have HOC := Kp.mk hoc.sl
      have HBC := Kp.mk hbc
      have HO2 := Kp.mk (own_below HO.out hbc)
      have hsw2 : Kp (W0.heap.size ≤ wa.heap.size) := ⟨Nat.le_trans hsw.out hbc.size⟩
      unfold SlBo at HOC
      clear hoc hbc C HO
      go_wp2_with (at_builtin; refine wpList_cat tBools rfl _ _ rfl W0.heap.size _ _ _ _ rfl HO2.out _ _ _ _ rfl HOC.out (bls_one _) ?c1 (by decide) hsw2.out ?c2)
      case c1 => omega
      case c2 =>
        intro sb cb wb hownb hbelb
        have HOB := Kp.mk hownb
        have HBB2 := Kp.mk ((HB.out.trans (HBC.out.mono hsw.out)).trans hbelb)
        clear hownb hbelb HO2 HOC HBC HB
        go_wp2
        go_roundw
        case rel =>
          refine ⟨j + 1, sb, cb, by omega, by go_num, by rw [hsu.out, List.length_append], ?_, HBB2.out⟩
          rw [hsu.out, List.length_append]
          unfold OwnBo
          rw [bls_append]
          exact HOB.out
        case measure => simp [intOf]; omega
    · obtain rfl : j = n := by omega
      have ht := HT.out
      have C := Kp.mk (bmake_any sa sc _ (encL k L j) wr HO.out.sl ht)
      generalize hE : encL k L j = E at *
      have HE := Kp.mk hE
      clear hE
      go_wp2_with fail
      refine C.out.mono ?_
      rintro e wa ⟨so, co, rfl, hO, hb⟩
      have hba := below_step HB.out hb
      have hba2 := below_step HBW.out hba
      have g4 := H4.out.below hba
      have HOO := Kp.mk hO
      have HBA := Kp.mk hba2
      have hwsz : W0.heap.size ≤ wr.heap.size := HB.out.size
      have hsz3 : wr.heap.size ≤ wa.heap.size := hb.size
      have hs1 := HSZ.out
      obtain ⟨⟨b0, b1⟩, f0, f1⟩ := box2 g4
      have hlt9 : w.heap.size < wa.heap.size := by omega
      clear hO hb hba hba2 g4 C HO HB
      go_wp2
      have hwr9 : w.heap.size < wr.heap.size := by omega
      refine bodyPost_ret (v := .tuple #[.agg #[.int .i64 (E.length : Nat), .slice so (bwN E.length) co], .int .i64 0]) ?hr rfl ?hp
      case hr =>
        clear H HX HK HT HN HBA HOO
        rw [results_cell_tmp rfl]
        go_simp
      case hp =>
        exact ⟨so, co, rfl, (own_base (ownsRow_setCell_below (ownsRow_setCell_below HOO.out hwr9 _) hwr9 _) (by omega)).alloc _, below_then_alloc ((HBA.out.setCell (p := ⟨w.heap.size, 0, none⟩) (Nat.le_refl _) _).setCell (p := ⟨w.heap.size, 1, none⟩) (Nat.le_refl _) _) _⟩

end Go.Proofs.Ytjofajpcchncpaa
