/- Package paren: matches, and what is made of it. -/
import Derived.Test.YtmfmknpkeniifaaParP
import Derived.Test.YtmfmknpkeniifaaIntC
namespace Go.Proofs.Ytmfmknpkeniifaa
set_option linter.unusedVariables false
open Go.RowKit

/-- Brackets as bytes. -/
def enc (b : List Bool) : List UInt8 := b.map fun x => if x then 40 else 41
theorem enc_length (b : List Bool) : (enc b).length = b.length := by simp [enc]

theorem own_take {w : World} {B e g n cap m : Nat} {xs : List Value} (h : w.ownsRow B e 1 (.slice (some ⟨g, 0, none⟩) n cap) n xs) (hm : m ≤ n) : w.ownsRow B e 1 (.slice (some ⟨g, 0, none⟩) m cap) m (xs.take m) := by
  obtain ⟨h1, h2⟩ := h
  refine ⟨by rw [List.length_take, h1]; omega, ?_⟩
  rcases h2 with ⟨h, _⟩ | ⟨g', cap', cur, hv, hB, hg, h3, h4, h5, h6⟩
  · simp at h
  · simp only [Value.slice.injEq, Option.some.injEq, Addr.mk.injEq, and_true, true_and] at hv
    obtain ⟨rfl, rfl⟩ := hv
    exact .inr ⟨g, cap, cur, rfl, hB, hg, by omega, h4, h5, by rw [← h6, List.take_take]; congr 1; omega⟩

theorem str_size {s : ByteArray} {b : List Bool} (hs : s.data.toList = enc b) : s.size = b.length := by
  show s.data.size = _
  rw [← Array.length_toList, hs, enc_length]
/-- A byte of brackets. -/
theorem str_at {s : ByteArray} {b : List Bool} (hs : s.data.toList = enc b) (k : Nat) (x : Bool) (v : Int) (hk : b[k]? = some x) (hv : v = if x then 40 else 41) (W : World) :
    (Instr.index 9 (.string s) (.int .i64 k)).run Try.prog W = .ok (.int .u8 v) W := by
  obtain ⟨hkl, hx⟩ := List.getElem?_eq_some_iff.1 hk
  have hks : k < s.size := by rw [str_size hs]; exact hkl
  rw [run_index_string W 9 s .i64 k Try.underlying9, dif_pos ⟨by omega, by omega⟩]
  congr 2
  have h1 : s[k] = s.data.toList[k]'(by rw [Array.length_toList]; exact hks) := by rw [Array.getElem_toList]; rfl
  have h2 : s.data.toList[k]'(by rw [Array.length_toList]; exact hks) = if x then 40 else 41 := by
    have : s.data.toList[k]? = some (if x then 40 else 41) := by rw [hs, enc, List.getElem?_map, hk]; rfl
    rw [List.getElem?_eq_getElem (by rw [Array.length_toList]; exact hks)] at this
    simpa using this
  rw [hv]
  show ((s[k]).toNat : Int) = _
  rw [h1, h2]
  cases x <;> rfl

set_option maxHeartbeats 1000000 in
theorem matches_any (s : ByteArray) (b : List Bool) (n : Nat) (w : World) (hs : s.data.toList = enc b) (hn : b.length = n) (hl : n ≤ 100000) (hb : Bal b) :
    Calls Try.prog 109 #[.string s] w (fun e w' => ∃ ma mc m, e = .returned (.tuple #[.slice ma n mc, .bool true]) ∧ SlI w' ma mc m ∧ Mat b n [] m ∧ Below w.heap.size w w') := by
  have hsz : s.size = n := by
    show s.data.size = n
    rw [← Array.length_toList, hs, enc_length, hn]
  have HS := Kp.mk hs
  have HN := Kp.mk hn
  have HB := Kp.mk hb
  clear hs hn hb
  obtain ⟨B, hB⟩ : ∃ B, B = w.heap.size := ⟨_, rfl⟩
  rw [← hB]
  have HBB := Kp.mk hB
  clear hB
  go_enter Try.func109, Try.ntmps109
  go_wp2_with (at_make; refine wpList_mk1 tInts rfl rfl _ _ rfl B n rfl rfl ?c1 (by decide) ?c2 ?c3)
  case c1 => omega
  case c2 => rw [HBB.out]; exact Nat.le_refl _
  case c3 =>
    intro ma mc w1 hown hbel
    go_wp2
    go_loopw [5, 13] (fun v i wr => ∃ (k : Nat) (oa : Option Addr) (oc : Nat) (o m : List Int), k ≤ n ∧ i = .int .i64 k ∧ v = .slice oa o.length oc ∧ o.length ≤ n ∧ wr.ownsRow B 3 1 (.slice oa o.length oc) o.length (ints o) ∧ wr.ownsRow B 3 1 (.slice ma n mc) n (ints m) ∧ Below B w wr ∧ Kp ((∀ g, blk ma = some g → blk oa ≠ some g) ∧ Open b k o ∧ Mat b k o m)) (fun _ i _ => n - (intOf i).toNat)
    case atStart =>
      refine ⟨0, none, 0, [], List.replicate n 0, Nat.zero_le _, rfl, rfl, Nat.zero_le _, World.ownsRow_nil _ _ _ _, ?_, hbel, ⟨by simp [blk], open_nil b, by simp [HN.out], fun q hq => by omega⟩⟩
      rw [ints, List.map_replicate]; exact hown
    case round =>
      clear hown hbel
      obtain ⟨k, oa, oc, o, m, hk, rfl, rfl, hol, hO, hM, hbel, HI⟩ := hrel
      by_cases hlt : k < n
      · have hkb : k < b.length := by rw [HN.out]; exact hlt
        cases hbk : b[k] with
        | true =>
          have hidx := str_at HS.out k true 40 (by rw [List.getElem?_eq_getElem hkb, hbk]) rfl
          have hpu := Kp.mk (open_push HI.out.2.1 hkb hbk)
          have HKB := Kp.mk hkb
          clear hbk hkb
          go_wp2_with (at_builtin; refine wpList_pushS tInts rfl _ _ rfl B oa o.length oc (ints o) rfl hO 1 _ rfl rfl ?c1 ?c2 (by decide) ?c3 ?c4)
          case c1 => simp [Value.oneCell']
          case c2 => omega
          case c3 => rw [HBB.out]; exact hbel.size
          case c4 =>
            intro oa' oc' w3 hown' hgr hno
            have hM3 := own_keep hM hgr (fun g hg e => HI.out.1 g e hg)
            have hb3 := below_of_grown hgr (show B ≤ wr.heap.size by rw [HBB.out]; exact hbel.size) (fun g hg => (own_lt hO g hg).1)
            have hlen := Kp.mk (open_len HI.out.2.1 (show k ≤ b.length from Nat.le_of_lt HKB.out))
            have hd3 : Kp (∀ g, blk ma = some g → blk oa' ≠ some g) := ⟨fun g hg => by
              rcases hno with e | ⟨g', e, hg2⟩
              · rw [e]; exact HI.out.1 g hg
              · rw [e]; intro h; simp at h; have := (own_lt hM g hg).2; omega⟩
            have hbb := Kp.mk (hbel.trans hb3)
            clear hgr hno hO hM hb3
            go_wp2
            go_roundw
            case rel =>
              refine ⟨k + 1, oa', oc', o ++ [(k : Int)], m, by omega, by go_num, by simp, by have := hlen.out; simp; omega, ?_, hM3, hbb.out, ⟨hd3.out, hpu.out, mat_push HI.out.2.2⟩⟩
              rw [List.length_append, List.length_singleton, ints_append]; exact hown'
            case measure => simp [intOf]; omega
        | false =>
          have hidx := str_at HS.out k false 41 (by rw [List.getElem?_eq_getElem hkb, hbk]) rfl
          have ho : 0 < o.length := by
            have h1 := HI.out.2.1.1
            have h2 := HB.out.1 (k + 1) (by omega)
            rw [ht_succ b k hkb, hbk] at h2
            simp at h2
            omega
          obtain ⟨L, hL⟩ : ∃ L, o.length = L + 1 := ⟨o.length - 1, by omega⟩
          obtain ⟨p, hp1, hp2, hP, hop⟩ := open_pop HI.out.2.1 hkb hbk ho
          have hpo : o.getD L 0 = (p : Int) := by
            rw [← hp1]
            simp only [hL, Nat.add_sub_cancel]
            simp [hL]
          have hmp := Kp.mk (mat_pop HI.out.2.2 HI.out.2.1 hP (by rw [hL, Nat.add_sub_cancel]; exact hpo) ho)
          have HOP := Kp.mk hop
          have hm := HI.out.2.2.1
          obtain ⟨go, rfl, hgo1, hgo2⟩ := own_some hO ho
          obtain ⟨gm, rfl, hgm1, hgm2⟩ := own_some hM (by omega)
          have hne : ¬ gm = go := fun e => HI.out.1 gm rfl (by rw [e]; rfl)
          have c1 : wr.cell? ⟨go, L, none⟩ = some (.int .i64 p) := by
            rw [← hpo]
            exact ints_cell hO rfl (by omega)
          have hml : m.length = n := by rw [hm, HN.out]
          have c2 : wr.cell? ⟨gm, k, none⟩ = some (.int .i64 (m.getD k 0)) := ints_cell hM hml hlt
          have f2 : wr.frozen? ⟨gm, k, none⟩ = false := hM.frozenAt k
          have c3 : wr.cell? ⟨gm, p, none⟩ = some (.int .i64 (m.getD p 0)) := ints_cell hM hml (by omega)
          have f3 : wr.frozen? ⟨gm, p, none⟩ = false := hM.frozenAt p
          have hst := (((hM.stored k (.int .i64 p)).1).stored p (.int .i64 k)).1
          rw [ints_set, ints_set] at hst
          have hOt := own_take hO (show L ≤ o.length by omega)
          have hOt2 := own_keep (own_keep hOt (grown_set wr gm k (.int .i64 p)) (fun g hg => by simp at hg; subst hg; simp [blk]; exact fun e => hne e.symm)) (grown_set _ gm p (.int .i64 k)) (fun g hg => by simp at hg; subst hg; simp [blk]; exact fun e => hne e.symm)
          have HST := Kp.mk hst
          have HOT := Kp.mk hOt2
          have hbb := Kp.mk ((hbel.setCell (p := ⟨gm, k, none⟩) hgm1 (.int .i64 p)).setCell (p := ⟨gm, p, none⟩) hgm1 (.int .i64 k))
          obtain ⟨v2, hv2⟩ := cell?_setCell_some (w := wr) (p := ⟨gm, k, none⟩) (x := .int .i64 p) (q := ⟨gm, p, none⟩) (v := .int .i64 (m.getD p 0)) c3
          have HNE := Kp.mk hne
          have hLoc : L ≤ oc := by have := (own_slc hO).le; omega
          have hpk : p < n := by omega
          clear hP hop hp1 hpo hm hO hM hst hOt hOt2 hne hbk hkb hml
          go_wp2
          go_roundw
          case rel =>
            have hL1 : o.length - 1 = L := by omega
            have hTL : (o.take L).length = L := by simp; omega
            refine ⟨k + 1, some ⟨go, 0, none⟩, oc, o.take L, (m.set k (p : Int)).set p (k : Int), by omega, by go_num, by rw [hTL], by omega, ?_, HST.out, hbb.out, ⟨fun g hg => ?_, ?_, ?_⟩⟩
            · rw [hTL]
              have := HOT.out
              rw [ints, ← List.map_take] at this
              exact this
            · simp [blk] at hg; subst hg; simp [blk]; exact fun e => HNE.out e.symm
            · have := HOP.out; rw [hL1] at this; exact this
            · have := hmp.out; rw [hL1] at this; exact this
          case measure => simp [intOf]; omega
      · obtain rfl : k = n := by omega
        have ho0 : o = [] := by
          have h1 := HI.out.2.1.1
          have h2 := HB.out.2
          rw [HN.out] at h2
          rw [h2] at h1
          exact List.length_eq_zero_iff.1 (by omega)
        subst ho0
        go_wp2
        go_ret2
        have hfm := HI.out.2.2
        refine ⟨ma, mc, m, rfl, ?_, hfm, hbel⟩
        have := own_slc hM
        unfold SlI
        rw [hfm.1, HN.out]
        exact this

end Go.Proofs.Ytmfmknpkeniifaa
