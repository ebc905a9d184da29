/- Package gam: numbers are decoded. -/
import Derived.Test.YtjofajpcchncpaaGamD
namespace Go.Proofs.Ytjofajpcchncpaa
set_option linter.unusedVariables false
open Go.RowKit

theorem encL_rest (k : Nat) (L : List Nat) (i : Nat) : ∀ j, i ≤ j → ∃ r, encL k L j = encL k L i ++ r
  | 0, h => by obtain rfl : i = 0 := by omega
               exact ⟨[], by simp⟩
  | j + 1, h => by
    by_cases hij : i = j + 1
    · subst hij; exact ⟨[], by simp⟩
    · obtain ⟨r, hr⟩ := encL_rest k L i j (by omega)
      exact ⟨r ++ codeL k (L.getD j 0), by rw [encL_succ, hr, List.append_assoc]⟩
theorem stands_enc (k : Nat) (L : List Nat) (j m : Nat) (h : j < m) : Stands (bitsN (encL k L m) (encL k L m).length) (encL k L j).length (codeL k (L.getD j 0)) := by
  obtain ⟨r, hr⟩ := encL_rest k L (j + 1) m h
  rw [encL_succ] at hr
  intro i hi
  have hl : (encL k L j).length + i < (encL k L m).length := by rw [hr, List.length_append, List.length_append]; omega
  rw [bitsN_at _ _ _ hl, getD_at _ _ hl]
  have e : (encL k L m)[(encL k L j).length + i]? = some ((codeL k (L.getD j 0))[i]) := by
    rw [hr, List.append_assoc, List.getElem?_append_right (by omega), Nat.add_sub_cancel_left, List.getElem?_append_left hi, List.getElem?_eq_getElem hi]
  rw [List.getElem?_eq_getElem hl] at e
  simpa using e

set_option maxRecDepth 100000 in
set_option maxHeartbeats 1000000 in
theorem gdec_any (k B m cap : Nat) (L : List Nat) (sa : Option Addr) (w : World) (hk : k = 1 ∨ k = 2) (hm : m ≤ 300) (hL : L.length = m) (hx : ∀ i, i < m → 1 ≤ L.getD i 0 ∧ L.getD i 0 ≤ 1048576) (ht : (encL k L m).length ≤ 4096)
    (hO : w.ownsRow B 78 1 (.slice sa (bwN (encL k L m).length) cap) (bwN (encL k L m).length) (wds (wordsOf (bitsN (encL k L m) (encL k L m).length) (bwN (encL k L m).length)))) :
    Calls Try.prog 35 #[.int .i64 k, .agg #[.int .i64 (encL k L m).length, .slice sa (bwN (encL k L m).length) cap]] w
      (fun e w' => ∃ a c, e = .returned (.tuple #[.slice a m c, .int .i64 0]) ∧ w'.ownsRow w.heap.size 3 1 (.slice a m c) m (ints (L.map Int.ofNat)) ∧ Below w.heap.size w w') := by
  have HST := Kp.mk (fun j (hj : j < m) => stands_enc k L j m hj)
  have HMO := Kp.mk (fun j (hj : j + 1 ≤ m) => encL_mono k L (j + 1) m hj)
  have hN := bitsN_lt (encL k L m) (encL k L m).length
  obtain ⟨n, hn⟩ : ∃ n, (encL k L m).length = n := ⟨_, rfl⟩
  rw [hn] at hN hO HST HMO ht ⊢
  generalize hNe : bitsN (encL k L m) n = N at *
  have HK := Kp.mk hk
  have HL := Kp.mk hL
  have HX := Kp.mk hx
  have HO := Kp.mk hO
  have HN := Kp.mk hN
  have HNL := Kp.mk hn
  have hsl : ∀ k, blk sa = some k → k < w.heap.size := fun k hk => (own_lt hO k hk).2
  have HSL := Kp.mk hsl
  clear hk hL hx hO hN hn hNe hsl
  go_enter Try.func35, Try.ntmps35
  go_wp2_with fail
  refine (gkinded_any k _ HK.out).mono ?_
  rintro e w' ⟨rfl, rfl⟩
  go_wp2_with fail
  refine (bmay_ok sa n (bwN n) cap N _ rfl ((own_slc HO.out).below (below_alloc (Nat.le_refl _) _)) ht HN.out).mono ?_
  rintro e w1 ⟨rfl, hb1⟩
  have h3 := (Box.new w #[Value.int IntKind.i64 ↑n, Value.slice sa (bwN n) cap] 49).below hb1
  have HB1 := Kp.mk (below_step (below_alloc (Nat.le_refl _) _) hb1)
  obtain ⟨⟨d0, d1⟩, -⟩ := box2 h3
  have H3 := Kp.mk h3
  clear hb1 h3
  go_wp2
  obtain ⟨W, hW⟩ : ∃ W, W = w1.alloc (Obj.cells #[Value.int IntKind.i64 ↑n, Value.slice sa (bwN n) cap, Value.int IntKind.i64 0, Value.int IntKind.i64 0] 81) := ⟨_, rfl⟩
  rw [← hW]
  have hbW : Below w1.heap.size w1 W := by rw [hW]; exact below_alloc (Nat.le_refl _) _
  have HR := Kp.mk (show Rd W w1.heap.size n sa cap 0 by unfold Rd; rw [hW]; exact Box.new _ _ _)
  have hWs : Kp (W.heap.size = w1.heap.size + 1) := ⟨by rw [hW]; exact alloc_size _ _⟩
  have H3W := Kp.mk (H3.out.below hbW)
  have HBW := Kp.mk (below_step HB1.out hbW)
  have HOW := Kp.mk (own_below HO.out HBW.out)
  have hw1 : Kp (w.heap.size < w1.heap.size) := ⟨H3.out.lt⟩
  clear hW hbW d0 d1 H3 HB1 HO
  generalize w1.heap.size = r at *
  go_loopw [7] (fun v wr => ∃ (j : Nat) (so : Option Addr) (sc : Nat), j ≤ m ∧ v = .slice so j sc ∧ wr.ownsRow W.heap.size 3 1 (.slice so j sc) j (ints ((L.take j).map Int.ofNat)) ∧ Rd wr r n sa cap (encL k L j).length ∧ Below r W wr) (fun v _ => m - sliceLen v)
  case atStart => exact ⟨0, none, 0, Nat.zero_le _, rfl, World.ownsRow_nil _ _ _ _, by rw [encL_zero]; exact HR.out, Below.refl _ _⟩
  case round =>
    obtain ⟨j, so, sc, hj, rfl, hown, hRj, hbj⟩ := hrel
    have HO := Kp.mk hown
    have HRJ := Kp.mk hRj
    have HBJ := Kp.mk hbj
    have r2 : wr.cell? ⟨r, 2, none⟩ = some (.int .i64 ((encL k L j).length : Nat)) := hRj.cell 2 rfl
    have hd : wr.cell? ⟨w.heap.size, 0, none⟩ = some (.int .i64 n) := by
      rw [hbj.cell (p := ⟨w.heap.size, 0, none⟩) hw1.out]; exact H3W.out.cell 0 rfl
    have HOS := Kp.mk (own_below' HOW.out hbj (fun k hk => Nat.lt_trans (HSL.out k hk) hw1.out))
    have hne : blk sa ≠ some r := fun h => by have := HSL.out r h; have := hw1.out; omega
    have HNE := Kp.mk hne
    clear hown hRj hbj hne
    by_cases hlt : j < m
    · obtain ⟨x1, x2⟩ := HX.out j hlt
      have hlc := len_code k (L.getD j 0) (L.getD j 0) (by omega) (Nat.le_refl _) x2
      have hmo := HMO.out j hlt
      rw [encL_succ, List.length_append] at hmo
      have hst := Kp.mk (HST.out j hlt)
      have hsu := Kp.mk (encL_succ k L j)
      have htk : Kp ((L.take (j + 1)).map Int.ofNat = (L.take j).map Int.ofNat ++ [((L.getD j 0 : Nat) : Int)]) := ⟨by
        have hjl : j < L.length := by rw [HL.out]; exact hlt
        rw [List.take_succ_eq_append_getElem hjl, List.map_append, getD_at _ _ hjl]; rfl⟩
      have hlc2 : (codeL k (L.getD j 0)).length ≤ 41 := hlc.2.2
      have hlc1 : 1 ≤ (codeL k (L.getD j 0)).length := hlc.1
      obtain ⟨p, hp⟩ : ∃ p, (encL k L j).length = p := ⟨_, rfl⟩
      have HP := Kp.mk hp
      rw [hp] at hmo r2 HRJ hst
      generalize L.getD j 0 = x at *
      have hpn : p < n := by omega
      clear hp hlc
      go_wp2
      go_quiet (fail)
      have C := Kp.mk (gnext_any k r B n cap p N x sa (wr.drewN nq) HK.out HRJ.out (HOS.out : (wr.drewN nq).ownsRow B 78 1 (.slice sa (bwN n) cap) (bwN n) (wds (wordsOf N (bwN n)))) ht HN.out HNE.out (by omega) x2 hst.out (by omega))
      go_wp2_with fail
      refine C.out.mono ?_
      rintro e wa ⟨rfl, hRa, hga⟩
      have HRA := Kp.mk hRa
      have r3 : wa.cell? ⟨r, 3, none⟩ = some (.int .i64 0) := hRa.cell 3 rfl
      have hrW := hWs.out
      have hwsz : Kp (W.heap.size ≤ wr.heap.size) := ⟨HBJ.out.size⟩
      have hBa := Kp.mk ((below_drewN HBJ.out nq).trans (below_of_grown hga (by show r ≤ wr.heap.size; have := hwsz.out; omega) (fun k hk => by cases hk; exact Nat.le_refl _)))
      have HOA := Kp.mk (own_keep (show (wr.drewN nq).ownsRow W.heap.size 3 1 (.slice so j sc) j _ from HO.out) hga (fun k hk => by
        cases hk
        intro h
        have := own_lt HO.out r h
        omega))
      have hwa : Kp (W.heap.size ≤ wa.heap.size) := ⟨Nat.le_trans hwsz.out hga.size⟩
      clear hRa hga C r2 hd hrW
      go_wp2_with (at_builtin; refine wpList_push tInts rfl _ _ rfl W.heap.size _ _ _ _ rfl HOA.out 1 1 _ rfl rfl ?c1 (by decide) ?c2 (by decide) hwa.out ?c4)
      case c1 => simp [Value.oneCell']
      case c2 => omega
      case c4 =>
        intro se ce we hownE hbelE
        have HE := Kp.mk hownE
        have hrlt : r < W.heap.size := by have := hWs.out; omega
        have HEB := Kp.mk (hBa.out.trans (hbelE.mono (Nat.le_of_lt hrlt)))
        have HRE := Kp.mk (show Rd we r n sa cap (p + (codeL k x).length) from (hbelE.block r hrlt).trans HRA.out)
        clear hownE hbelE hrlt HOA HRA r3
        go_wp2
        go_roundw
        case rel =>
          refine ⟨j + 1, se, ce, by omega, rfl, ?_, by rw [hsu.out, List.length_append, HP.out]; exact HRE.out, HEB.out⟩
          rw [htk.out, ints_append]
          have h9 := HE.out
          simpa [ints, List.map_take] using h9
        case measure => simp [sliceLen]; omega
    · obtain rfl : j = m := by omega
      rw [HNL.out] at r2
      have hrW := hWs.out
      go_wp2
      go_quiet (fail)
      go_wp2
      go_ret2
      refine ⟨so, sc, rfl, ?_, ?_⟩
      · have h9 := HO.out
        rw [List.take_of_length_le (by rw [HL.out]; exact Nat.le_refl _)] at h9
        exact own_base (show (wr.drewN nq).ownsRow W.heap.size 3 1 (.slice so j sc) j _ from h9) (by have := hw1.out; omega)
      · exact HBW.out.trans ((below_drewN HBJ.out nq).mono (Nat.le_of_lt hw1.out))

end Go.Proofs.Ytjofajpcchncpaa
