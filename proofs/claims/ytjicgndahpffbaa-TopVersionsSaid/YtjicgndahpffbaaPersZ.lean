/- Package pers: the walk of Play. -/
import Derived.Test.YtjicgndahpffbaaPersY
import Derived.Test.YtjicgndahpffbaaHdr
namespace Go.Proofs.Ytjicgndahpffbaa
set_option linter.unusedVariables false
open Go.RowKit

/-- Rows of ints that are own. -/
def OwnL (B : Nat) (w : World) (L : List (Option Addr × Nat × List Int)) : Prop := ∀ x ∈ L, w.ownsRow B 3 1 (.slice x.1 x.2.2.length x.2.1) x.2.2.length (ints x.2.2)
theorem OwnL.nil (B : Nat) (w : World) : OwnL B w [] := fun _ h => by cases h
theorem OwnL.below {B : Nat} {w w' : World} {L : List (Option Addr × Nat × List Int)} (h : OwnL B w L) (hb : Below w.heap.size w w') : OwnL B w' L := fun x hx => own_below (h x hx) hb
theorem OwnL.snoc {B : Nat} {w : World} {L : List (Option Addr × Nat × List Int)} {a : Option Addr} {c : Nat} {l : List Int} (h : OwnL B w L) (ho : w.ownsRow B 3 1 (.slice a l.length c) l.length (ints l)) : OwnL B w (L ++ [(a, c, l)]) := fun x hx => by
  rcases List.mem_append.1 hx with hx | hx
  · exact h x hx
  · rw [List.mem_singleton.1 hx]; exact ho
theorem OwnL.facts {B : Nat} {w : World} {L : List (Option Addr × Nat × List Int)} (h : OwnL B w L) : Facts w L := fun x hx => own_slc (h x hx)
theorem OwnL.grown {B B' n m c : Nat} {w w' : World} {L : List (Option Addr × Nat × List Int)} {a : Option Addr} {xs : List Value} (h : OwnL B w L) (hr : w.ownsRow B' 22 1 (.slice a m c) n xs) (hg : w.grownBy w' (blk a)) : OwnL B w' L :=
  fun x hx => own_keep (h x hx) hg (fun q hq => own_two' hr (h x hx) (by decide) q hq)

set_option maxRecDepth 100000 in
set_option maxHeartbeats 2000000 in
theorem pPlay_any (a ca : Option Addr) (cap cc n m : Nat) (l : List Int) (cs : List Chg) (w : World) (h : SlC w a n cap 1 (ints l)) (hl : l.length = n) (hcs : SlF chL 5 w ca m cc cs) (hn0 : 0 < n) (hn : n ≤ 300) (hm : m ≤ 60) (hok : ∀ j (h : j < cs.length), cs[j].Ok j n) :
    Calls Try.prog 43 #[.slice a n cap, .slice ca m cc] w fun e w' => ∃ xa xc va vc, e = .returned (.tuple #[.slice xa m xc, .slice va (m + 1) vc, .int .i64 0]) ∧ Kp (RowsI w' va (m + 1) vc (valK l cs m)) ∧ Kp (Below w.heap.size w w') := by
  have hcl : cs.length = m := hcs.len chL_len (by omega)
  have CP := Kp.mk (pplay_any a ca cap cc n m l cs w h hl hcs hn0 hn hm hok)
  have HVO := Kp.mk (verT_ok hl hn0 m (by omega) hok)
  have HVL := Kp.mk (verT_length l cs m)
  have HKL := Kp.mk (valK_length l cs m)
  clear h hl hcs hcl hok
  go_enter Try.func43, Try.ntmps43
  go_wp2_with fail
  refine CP.out.mono ?_
  rintro e w1 ⟨xa, xc, aa, ac, b7, N, bs, rfl, HBL, HP⟩
  obtain ⟨B, hB⟩ : ∃ B, B = w1.heap.size := ⟨_, rfl⟩
  have HB := Kp.mk hB
  clear CP hB
  go_wp2
  go_loopw [5, 19] (fun v i wr => ∃ (k : Nat) (va : Option Addr) (vc : Nat) (L : List (Option Addr × Nat × List Int)), k ≤ m + 1 ∧ i = .int .i64 k ∧ v = .slice va k vc ∧ Kp (lists L = (valK l cs m).take k) ∧ Kp (wr.ownsRow B 22 1 (.slice va k vc) k (hdr L)) ∧ Kp (OwnL B wr L) ∧ Kp (Below B w1 wr)) (fun _ i _ => m + 1 - (intOf i).toNat)
  case atStart => exact ⟨0, none, 0, [], Nat.zero_le _, rfl, rfl, ⟨rfl⟩, ⟨World.ownsRow_nil _ _ _ _⟩, ⟨OwnL.nil _ _⟩, ⟨Below.refl _ _⟩⟩
  case round =>
    obtain ⟨k, va, vc, L, hk, rfl, rfl, HLL, HO, HOL, HBW⟩ := hrel
    have hB1 : Below w1.heap.size w1 wr := by rw [← HB.out]; exact HBW.out
    by_cases hlt : k < m + 1
    · have HPW := Kp.mk (HP.out.below hB1)
      obtain ⟨b, hb1, hb2, hb3⟩ := HPW.out.ver k hlt
      obtain ⟨g, rfl, _, _⟩ := own_some HPW.out.row (by omega)
      have q0 : wr.cell? ⟨g, k, none⟩ = some (.pointer (some ⟨b, 0, none⟩)) := by
        rw [HPW.out.row.cellAt k (by omega)]; simp [ptrs, hb1]
      obtain ⟨hv1, hv2⟩ := HVO.out
      have hT : ((verT l cs m).1.getD k pt0) ∈ (verT l cs m).1 := by
        rw [getD_at _ _ (by rw [HVL.out]; exact hlt)]; exact List.getElem_mem _
      have hTv : ((verT l cs m).1.getD k pt0).vals = (valK l cs m)[k]'(by rw [HKL.out]; exact hlt) := by
        rw [getD_at _ _ (by rw [HVL.out]; exact hlt)]
        have : ((verT l cs m).1.map PT.vals)[k]? = (valK l cs m)[k]? := by rw [hv1]
        rw [List.getElem?_map, List.getElem?_eq_getElem (by rw [HVL.out]; exact hlt), List.getElem?_eq_getElem (by rw [HKL.out]; exact hlt)] at this
        simpa using this
      have hTw := (hv2 _ hT).2
      have HTK := Kp.mk (show (valK l cs m).take (k + 1) = (valK l cs m).take k ++ [((verT l cs m).1.getD k pt0).vals] from by
        rw [hTv, List.take_succ_eq_append_getElem])
      have hsz : B ≤ wr.heap.size := by rw [HB.out]; exact hB1.size
      have CN := Kp.mk (pnum_any ((verT l cs m).1.getD k pt0) b wr.heap.size none 0 0 [] N wr wr hb3 (Below.refl _ _) (Nat.le_refl _) hb2 (World.ownsRow_nil _ _ _ _) rfl (by rw [hTw]; omega) (Nat.le_refl _))
      have HTL := Kp.mk (show ((verT l cs m).1.getD k pt0).vals.length = n from hTw)
      have HTW := Kp.mk hTw
      generalize (verT l cs m).1.getD k pt0 = T at *
      clear hb1 hb2 hb3 hv1 hv2 hT hTv hTw HPW
      go_wp2_with fail
      refine CN.out.mono ?_
      rintro e w2 ⟨na, nc, rfl, hno, hnb⟩
      rw [HTW.out, Nat.zero_add, List.nil_append] at hno
      rw [HTW.out, Nat.zero_add]
      have HN := Kp.mk (own_base hno hsz)
      have HO2 := Kp.mk (own_below HO.out hnb)
      have HOL2 := Kp.mk (HOL.out.below hnb)
      have HBW2 := Kp.mk (HBW.out.trans (hnb.mono hsz))
      have hsz2 : B ≤ w2.heap.size := Nat.le_trans hsz hnb.size
      clear CN q0 hno hnb
      go_wp2_with (at_builtin; refine wpList_pushS tRows rfl _ _ rfl B va k vc _ rfl HO2.out 1 _ rfl rfl ?y1 ?y2 (by decide) hsz2 ?y4)
      case y1 => simp [Value.oneCell']
      case y2 => omega
      case y4 =>
        intro ya yc w3 ho3 hgr3 hno3
        have HL3 := Kp.mk ((HOL2.out.snoc (a := na) (c := nc) (l := T.vals) (by rw [HTL.out]; exact HN.out)).grown HO2.out hgr3)
        have HLS := Kp.mk (show lists (L ++ [(na, nc, T.vals)]) = (valK l cs m).take (k + 1) from by rw [lists_append, HLL.out, HTK.out]; rfl)
        have HO3 := Kp.mk (show w3.ownsRow B 22 1 (.slice ya (k + 1) yc) (k + 1) (hdr (L ++ [(na, nc, T.vals)])) from by
          rw [hdr_append]
          have e : hdr [(na, nc, T.vals)] = [.slice na n nc] := by simp [hdr, HTL.out]
          rw [e]; exact ho3)
        have HBW3 := Kp.mk (HBW2.out.trans (below_of_grown hgr3 hsz2 (fun q hq => (own_lt HO2.out q hq).1)))
        clear ho3 hgr3 hno3
        go_wp2
        go_roundw
        case rel => exact ⟨k + 1, ya, yc, L ++ [(na, nc, T.vals)], by omega, by go_num, rfl, HLS, HO3, HL3, HBW3⟩
        case measure => simp [intOf]; omega
    · obtain rfl : k = m + 1 := by omega
      have HF := Kp.mk (show RowsI wr va (m + 1) vc (valK l cs m) from ⟨L, by rw [HLL.out, List.take_of_length_le (by rw [HKL.out]; omega)], own_slc HO.out, HOL.out.facts⟩)
      have HBF := Kp.mk (show Below w.heap.size w wr from HP.out.bel.trans (hB1.mono HP.out.bel.size))
      go_wp2
      refine bodyPost_ret (v := .tuple #[.slice xa m xc, .slice va (m + 1) vc, .int .i64 0]) (by simp [results, Try.results43, go_sem]) rfl ?_
      exact ⟨xa, xc, va, vc, rfl, HF, HBF⟩

end Go.Proofs.Ytjicgndahpffbaa
