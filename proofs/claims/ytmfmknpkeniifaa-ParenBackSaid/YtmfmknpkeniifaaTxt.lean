/- Package paren: the walk of Text. -/
import Derived.Test.YtmfmknpkeniifaaTrw
import Derived.Test.YtmfmknpkeniifaaBld
import Derived.Test.YtmfmknpkeniifaaShelf
namespace Go.Proofs.Ytmfmknpkeniifaa
set_option linter.unusedVariables false
open Go.RowKit

theorem rep_shut (c : Nat) : Lib.repeatL [41] c = enc (List.replicate c false) := by
  induction c with
  | zero => rfl
  | succ c ih => rw [Lib.repeatL, ih, List.replicate_succ]; rfl
theorem enc_append (x y : List Bool) : enc (x ++ y) = enc x ++ enc y := by simp [enc]
theorem bc_append (x y : List UInt8) : Lib.byteCells (x ++ y) = Lib.byteCells x ++ Lib.byteCells y := by simp [Lib.byteCells]
theorem enc_cells (x : List Bool) : (Lib.byteCells (enc x)).length = x.length := by rw [Lib.byteCells_length, enc_length]

/-- Where p stands in o, as the library tells it. -/
theorem index_any (a : Option Addr) (n c : Nat) (o : List Nat) (p : Int) (w : World) (h : SlI w a c (o.map Int.ofNat)) (hl : o.length = n) (hn : n ≤ 100000) (hp : p = -1 ∨ ∃ q : Nat, p = (q : Int) ∧ q ∈ o) :
    Calls Try.prog 50 #[.slice a n c, .int .i64 p] w fun e w' => e = .returned (.int .i64 ((posJ o p : Int) - 1)) ∧ w' = w := by
  have hm : (o.map Int.ofNat).length = n := by rw [List.length_map]; exact hl
  have hv : Lib.idxOf ((o.map Int.ofNat).take n) p = (posJ o p : Int) - 1 := by
    rcases hp with rfl | ⟨q, rfl, hq⟩
    · rw [posJ_neg, Lib.idxOf_miss _ n _ (fun j hj => ?_)]
      · rfl
      · rw [getD_at _ _ (by omega), List.getElem_map]
        show ((o[j]'(by omega) : Nat) : Int) ≠ -1
        omega
    · have hlt := List.idxOf_lt_length_of_mem hq
      rw [posJ_nat, Lib.idxOf_hit (o.map Int.ofNat) n (o.idxOf q) q (by omega) (by omega) ?_ ?_]
      · omega
      · rw [getD_at _ _ (by omega), List.getElem_map]
        show ((o[o.idxOf q] : Nat) : Int) = q
        rw [List.getElem_idxOf]
      · intro j hj
        rw [getD_at _ _ (by omega), List.getElem_map]
        show ((o[j]'(by omega) : Nat) : Int) ≠ q
        intro e
        have e2 : o[j]'(by omega) = q := by omega
        have h3 := List.not_of_lt_findIdx (p := (· == q)) (xs := o) (i := j) hj
        rw [e2] at h3
        simp at h3
  rcases Nat.eq_zero_or_pos n with h0 | h0
  · subst h0
    have ho : o = [] := List.length_eq_zero_iff.1 hl
    subst ho
    rw [← hv]
    exact Try.slices_Index_int_empty a c p w
  · obtain ⟨b, off, rfl, _⟩ := h.at 0 (by rw [hm]; exact h0)
    rw [← hv]
    refine Try.slices_Index_int b off n c (o.map Int.ofNat) p w (by omega) (by omega) (fun j hj => ?_)
    obtain ⟨b', off', e, hc⟩ := h.at j hj
    cases e
    rw [hc, getD_at _ _ hj]

set_option maxRecDepth 100000 in
set_option maxHeartbeats 8000000 in
theorem text_any (a : Option Addr) (n cap : Nat) (t : List Int) (w : World) (h : SlI w a cap t) (hl : t.length = n) (hn : n ≤ 200) (hg : GoodT t) :
    Calls Try.prog 23 #[.slice a n cap] w fun e w' => e = .returned (.tuple #[.string ⟨(enc ((txF t).1 ++ List.replicate (txF t).2.1.length false)).toArray⟩, .int .i64 0]) ∧ Kp (Below w.heap.size w w') := by
  have H := Kp.mk h
  have HL := Kp.mk hl
  have HG := Kp.mk hg
  have t2 : decide ((200 : Int) < n) = false := decide_eq_false (by omega)
  clear h hl hg
  have HBX := Kp.mk (Box.new w #[.pointer none, .slice none 0 0] 83)
  have HA := Kp.mk (below_alloc (Nat.le_refl w.heap.size) (.cells #[.pointer none, .slice none 0 0] 83))
  have HIB := Kp.mk (show Lib.IsBuilder 83 5 w.heap.size w.heap.size (Lib.byteCells (enc [])) (w.alloc (.cells #[.pointer none, .slice none 0 0] 83)) from
    .inl ⟨Nat.le_refl _, .slice none 0 0, HBX.out, World.ownsRow_nil _ _ _ _, by simp [Value.ownBlock]⟩)
  have HSZ := Kp.mk (alloc_size w (.cells #[.pointer none, .slice none 0 0] 83))
  go_enter Try.func23, Try.ntmps23
  go_wp2
  obtain ⟨w1, hw1⟩ : ∃ w1, w1 = w.alloc (.cells #[.pointer none, .slice none 0 0] 83) := ⟨_, rfl⟩
  rw [← hw1] at HA HIB HSZ HBX ⊢
  clear hw1
  go_loopw [5, 14] (fun ov i wr => ∃ (k : Nat) (oa : Option Addr) (oc : Nat) (o : List Nat) (x : List Bool), k ≤ n ∧ i = .int .i64 k ∧ ov = .slice oa o.length oc ∧ Kp (txF (t.take k) = (x, o, k)) ∧ Kp (Lib.IsBuilder 83 5 w.heap.size w.heap.size (Lib.byteCells (enc x)) wr) ∧ Kp (wr.ownsRow w.heap.size 3 1 (.slice oa o.length oc) o.length (ints (o.map Int.ofNat))) ∧ Kp (Below w.heap.size w wr) ∧ Kp (w.heap.size ≤ wr.heap.size)) (fun _ i _ => n - (intOf i).toNat)
  case atStart => exact ⟨0, none, 0, [], [], Nat.zero_le _, rfl, rfl, ⟨rfl⟩, HIB, ⟨World.ownsRow_nil _ _ _ _⟩, HA, ⟨by rw [HSZ.out]; omega⟩⟩
  case round =>
    obtain ⟨k, oa, oc, o, x, hk, rfl, rfl, HX, HB, HO, HBW, HW⟩ := hrel
    have hle := txF_le t HG.out k (by rw [HL.out]; exact hk)
    rw [HX.out] at hle
    dsimp only at hle
    by_cases hlt : k < n
    · have hkt : k < t.length := by rw [HL.out]; exact hlt
      obtain ⟨tb, tf, rfl, ct⟩ := H.out.at k hkt
      have ct' : wr.cell? ⟨tb, tf + k, none⟩ = some (.int .i64 (t.getD k 0)) := by
        rw [getD_at _ _ hkt, ← ct]
        exact HBW.out.cell (p := ⟨tb, tf + k, none⟩) (World.block_lt_of_cell? w _ ct)
      have hgood := HG.out k hkt
      rw [HX.out] at hgood
      dsimp only at hgood
      have HS := Kp.mk (txF_succ t k hkt)
      rw [HX.out] at HS
      generalize t.getD k 0 = p at *
      have CI := Kp.mk (index_any oa o.length oc o p wr (own_sl_len HO.out (by rw [List.length_map])) rfl (by omega) hgood)
      obtain ⟨j, hj⟩ : ∃ j, j = posJ o p := ⟨_, rfl⟩
      have hjo : j ≤ o.length ∧ ((p = -1 ∧ j = 0) ∨ ((p != -1) = true ∧ 0 < j)) := by
        rw [hj]
        rcases hgood with rfl | ⟨q, rfl, hq⟩
        · rw [posJ_neg]; exact ⟨by omega, .inl ⟨rfl, rfl⟩⟩
        · rw [posJ_nat]
          have := List.idxOf_lt_length_of_mem hq
          refine ⟨by omega, .inr ⟨?_, by omega⟩⟩
          simp
      obtain ⟨hjo, hcase⟩ := hjo
      have HS2 := Kp.mk (show txF (t.take (k + 1)) = (x ++ List.replicate (o.length - j) false ++ [true], o.take j ++ [k], k + 1) from by rw [HS.out, hj]; rfl)
      rw [← hj] at CI
      clear ct hkt hgood HS hj
      obtain ⟨c, hc⟩ : ∃ c, c = o.length - j := ⟨_, rfl⟩
      rw [← hc] at HS2
      have e1 : IntKind.i64.wrap ((o.length : Int) - ((j : Int) - 1)) = (c : Int) + 1 := by rw [show (o.length : Int) - ((j : Int) - 1) = (c : Int) + 1 by omega]; exact IntWalk.i64_in _ (by omega)
      have hcase2 : ((p != -1) = false) ∨ ((p != -1) = true ∧ decide ((j : Int) - 1 < 0) = false ∧ decide ((j : Int) < 1) = false) := by
        rcases hcase with ⟨h1, _⟩ | ⟨h1, h2⟩
        · exact .inl (by simp [h1])
        · exact .inr ⟨h1, decide_eq_false (by omega), decide_eq_false (by omega)⟩
      have hc400 : c ≤ 200 := by omega
      have CR := Kp.mk (fun W => Try.strings_Repeat ⟨#[41]⟩ c W (by omega) (by show 1 * c ≤ _; omega))
      have er : Lib.repeatL (⟨#[41]⟩ : ByteArray).data.toList c = enc (List.replicate c false) := rep_shut c
      rw [er] at CR
      obtain ⟨sb, hsb⟩ : ∃ sb : ByteArray, sb = ⟨(enc (List.replicate c false)).toArray⟩ := ⟨_, rfl⟩
      have hsz : sb.size = c := by
        rw [hsb, ByteArray.size, List.size_toArray, enc_length, List.length_replicate]
      have HSC := Kp.mk (show Lib.byteCells (enc x) ++ Lib.strCells sb = Lib.byteCells (enc (x ++ List.replicate c false)) from by rw [enc_append, bc_append, hsb]; rfl)
      rw [← hsb] at CR
      have HSZ2 := Kp.mk hsz
      clear hsb hsz
      have hxl := enc_cells x
      have e2 : IntKind.i64.wrap ((j : Int) - 1 + 1) = (j : Int) := by rw [show (j : Int) - 1 + 1 = j by omega]; exact IntWalk.i64_in _ (by omega)
      have e3 : IntKind.i64.wrap (c : Int) = (c : Int) := IntWalk.i64_in _ (by omega)
      have e4 : (o.length : Int) - ((j : Int) - 1) = (c : Int) + 1 := by omega
      clear er hcase
      rcases hcase2 with hp1 | ⟨hp1, hp2, hp3⟩
      all_goals
        go_wp2_with fail
        refine CI.out.mono ?_
        rintro e w2 ⟨rfl, rfl⟩
        go_wp2_with fail
        rw [← hc]
        refine (CR.out _).mono ?_
        rintro e w3 ⟨rfl, hb3⟩
        have HB3 := Kp.mk (isBld_grow HB.out (grown_of_below (r := none) hb3) (fun g hg => by cases hg))
        have HO3 := Kp.mk (own_below HO.out hb3)
        have HBW3 := Kp.mk (HBW.out.trans (hb3.mono HW.out))
        have hW3 : w.heap.size ≤ w3.heap.size := Nat.le_trans HW.out hb3.size
        have CW := Kp.mk (writeString_any w.heap.size w.heap.size _ sb w3 HB3.out (by rw [hxl, HSZ2.out]; omega) hW3)
        rw [HSC.out] at CW
        have HC := Kp.mk hc
        have hcs : c ≤ 200 := hc400
        clear CI CR hb3 hc e1 e4
        go_wp2_with fail
        refine CW.out.mono ?_
        rintro e w4 ⟨rfl, hbd4, hb4, hk4⟩
        obtain ⟨qq, hqq⟩ := isBld_heap HB3.out
        have HO4 := Kp.mk (hk4.row HO3.out hqq)
        have HB4 := Kp.mk (show Lib.IsBuilder 83 5 w.heap.size w.heap.size (Lib.byteCells (enc (x ++ List.replicate c false))) w4 from .inr hbd4)
        have HBW4 := Kp.mk (HBW3.out.trans hb4)
        have hW4 : w.heap.size ≤ w4.heap.size := Nat.le_trans hW3 hk4.size
        clear CW hbd4 hb4 hk4 hqq HB3 HO3 HBW3
        have hoa : (oa = none ∧ o = [] ∧ oc = 0) ∨ ∃ g, oa = some ⟨g, 0, none⟩ := by
          rcases HO4.out.2 with ⟨hv, h0⟩ | ⟨g, cap', cur, hv, _⟩
          · simp only [Value.slice.injEq] at hv
            exact .inl ⟨hv.1, List.length_eq_zero_iff.1 h0, hv.2.2⟩
          · simp only [Value.slice.injEq] at hv
            exact .inr ⟨g, hv.1⟩
        have hoc : o.length ≤ oc := by have := (own_slc HO4.out).le; exact this
        have hjc : j ≤ oc := by omega
        have HSB := Kp.mk (show Lib.byteCells (enc (x ++ List.replicate c false)) ++ [Value.int .u8 40] = Lib.byteCells (enc (x ++ List.replicate c false ++ [true])) from by
          rw [enc_append (x ++ List.replicate c false), bc_append]; rfl)
        have HTJ := Kp.mk (show (o.take j).length = j from by rw [List.length_take]; omega)
        rcases hoa with ⟨rfl, rfl, rfl⟩ | ⟨og, rfl⟩
        · obtain rfl : j = 0 := by simpa using hjo
          go_wp2_with (at_builtin; refine wpList_pushS tInts rfl _ _ rfl w.heap.size none 0 0 _ rfl HO4.out 1 _ rfl rfl ?c1 ?c2 (by decide) hW4 ?c4)
          case c1 => simp [Value.oneCell']
          case c2 => omega
          case c4 =>
            intro oa' oc' w5 ho5 hg5 hn5
            have HO5 := Kp.mk (show w5.ownsRow w.heap.size 3 1 (.slice oa' ((List.take 0 ([] : List Nat)) ++ [k]).length oc') ((List.take 0 ([] : List Nat)) ++ [k]).length (ints (((List.take 0 ([] : List Nat)) ++ [k]).map Int.ofNat)) from by
              rw [List.length_append, List.length_singleton, HTJ.out, List.map_append, ints_append]; exact ho5)
            have HB5 := Kp.mk (isBld_grow HB4.out hg5 (own_int HO4.out))
            have HBW5 := Kp.mk (HBW4.out.trans (below_of_grown hg5 hW4 (fun q hq => (own_lt HO4.out q hq).1)))
            have hW5 : w.heap.size ≤ w5.heap.size := Nat.le_trans hW4 hg5.size
            have CB := Kp.mk (writeByte_any w.heap.size w.heap.size _ 40 w5 HB5.out (by rw [enc_cells, List.length_append, List.length_replicate]; omega) hW5)
            rw [HSB.out] at CB
            clear ho5 hg5 hn5 HO4 HB4 HBW4
            go_wp2_with fail
            refine CB.out.mono ?_
            rintro e w6 ⟨rfl, hbd6, hb6, hk6⟩
            obtain ⟨qq, hqq⟩ := isBld_heap HB5.out
            have HO6 := Kp.mk (hk6.row HO5.out hqq)
            have HB6 := Kp.mk (show Lib.IsBuilder 83 5 w.heap.size w.heap.size (Lib.byteCells (enc (x ++ List.replicate c false ++ [true]))) w6 from .inr hbd6)
            have HBW6 := Kp.mk (HBW5.out.trans hb6)
            have HW6 := Kp.mk (Nat.le_trans hW5 hk6.size)
            clear CB hbd6 hb6 hk6 hqq HB5 HO5 HBW5
            go_wp2
            go_roundw
            case rel => exact ⟨k + 1, oa', oc', (List.take 0 ([] : List Nat)) ++ [k], x ++ List.replicate c false ++ [true], by omega, by go_num, by rw [List.length_append, HTJ.out]; rfl, HS2, HB6, HO6, HBW6, HW6⟩
            case measure => simp [intOf]; omega
        · have HOF := Kp.mk (show w4.ownsRow w.heap.size 3 1 (.slice (some ⟨og, 0, none⟩) j oc) j (ints ((o.take j).map Int.ofNat)) from by
            have := own_front HO4.out hjo
            rw [ints, ← List.map_take, ← List.map_take] at this
            exact this)
          go_wp2_with (at_builtin; refine wpList_pushS tInts rfl _ _ rfl w.heap.size (some ⟨og, 0, none⟩) j oc _ rfl HOF.out 1 _ rfl rfl ?c1 ?c2 (by decide) hW4 ?c4)
          case c1 => simp [Value.oneCell']
          case c2 => omega
          case c4 =>
            intro oa' oc' w5 ho5 hg5 hn5
            have HO5 := Kp.mk (show w5.ownsRow w.heap.size 3 1 (.slice oa' ((o.take j) ++ [k]).length oc') ((o.take j) ++ [k]).length (ints (((o.take j) ++ [k]).map Int.ofNat)) from by
              rw [List.length_append, List.length_singleton, HTJ.out, List.map_append, ints_append, List.map_take]; exact ho5)
            have HB5 := Kp.mk (isBld_grow HB4.out hg5 (own_int HOF.out))
            have HBW5 := Kp.mk (HBW4.out.trans (below_of_grown hg5 hW4 (fun q hq => (own_lt HOF.out q hq).1)))
            have hW5 : w.heap.size ≤ w5.heap.size := Nat.le_trans hW4 hg5.size
            have CB := Kp.mk (writeByte_any w.heap.size w.heap.size _ 40 w5 HB5.out (by rw [enc_cells, List.length_append, List.length_replicate]; omega) hW5)
            rw [HSB.out] at CB
            clear ho5 hg5 hn5 HO4 HB4 HBW4
            go_wp2_with fail
            refine CB.out.mono ?_
            rintro e w6 ⟨rfl, hbd6, hb6, hk6⟩
            obtain ⟨qq, hqq⟩ := isBld_heap HB5.out
            have HO6 := Kp.mk (hk6.row HO5.out hqq)
            have HB6 := Kp.mk (show Lib.IsBuilder 83 5 w.heap.size w.heap.size (Lib.byteCells (enc (x ++ List.replicate c false ++ [true]))) w6 from .inr hbd6)
            have HBW6 := Kp.mk (HBW5.out.trans hb6)
            have HW6 := Kp.mk (Nat.le_trans hW5 hk6.size)
            clear CB hbd6 hb6 hk6 hqq HB5 HO5 HBW5
            go_wp2
            go_roundw
            case rel => exact ⟨k + 1, oa', oc', (o.take j) ++ [k], x ++ List.replicate c false ++ [true], by omega, by go_num, by rw [List.length_append, HTJ.out]; rfl, HS2, HB6, HO6, HBW6, HW6⟩
            case measure => simp [intOf]; omega
    · obtain rfl : k = n := by omega
      rw [List.take_of_length_le (by rw [HL.out]; exact Nat.le_refl _)] at HX
      obtain ⟨c, hc⟩ : ∃ c, c = o.length := ⟨_, rfl⟩
      have HRES := Kp.mk (show (⟨(enc ((txF t).1 ++ List.replicate (txF t).2.1.length false)).toArray⟩ : ByteArray) = ⟨(enc (x ++ List.replicate c false)).toArray⟩ from by rw [HX.out, hc])
      rw [← hc] at hle HO ⊢
      have CR := Kp.mk (fun W => Try.strings_Repeat ⟨#[41]⟩ c W (by omega) (by show 1 * c ≤ _; omega))
      have er : Lib.repeatL (⟨#[41]⟩ : ByteArray).data.toList c = enc (List.replicate c false) := rep_shut c
      rw [er] at CR
      obtain ⟨sb, hsb⟩ : ∃ sb : ByteArray, sb = ⟨(enc (List.replicate c false)).toArray⟩ := ⟨_, rfl⟩
      have hsz : sb.size = c := by
        rw [hsb, ByteArray.size, List.size_toArray, enc_length, List.length_replicate]
      have HSC := Kp.mk (show Lib.byteCells (enc x) ++ Lib.strCells sb = Lib.byteCells (enc (x ++ List.replicate c false)) from by rw [enc_append, bc_append, hsb]; rfl)
      rw [← hsb] at CR
      have HSZ2 := Kp.mk hsz
      have hxl := enc_cells x
      clear hsb hsz er hc
      go_wp2_with fail
      refine (CR.out _).mono ?_
      rintro e w3 ⟨rfl, hb3⟩
      have HB3 := Kp.mk (isBld_grow HB.out (grown_of_below (r := none) hb3) (fun g hg => by cases hg))
      have HBW3 := Kp.mk (HBW.out.trans (hb3.mono HW.out))
      have hW3 : w.heap.size ≤ w3.heap.size := Nat.le_trans HW.out hb3.size
      have CW := Kp.mk (writeString_any w.heap.size w.heap.size _ sb w3 HB3.out (by rw [hxl, HSZ2.out]; omega) hW3)
      rw [HSC.out] at CW
      clear CR hb3
      go_wp2_with fail
      refine CW.out.mono ?_
      rintro e w4 ⟨rfl, hbd4, hb4, hk4⟩
      have CS := Kp.mk (Try.Builder_String_any w.heap.size w.heap.size (enc (x ++ List.replicate c false)) w4 (.inr hbd4) (Nat.le_trans hW3 hk4.size))
      have HBW4 := Kp.mk (HBW3.out.trans hb4)
      clear CW hbd4 hb4 hk4 HB3 HBW3
      go_wp2_with fail
      refine CS.out.mono ?_
      rintro e w5 ⟨rfl, hb5⟩
      have HBW5 := Kp.mk (HBW4.out.trans hb5)
      generalize (⟨(enc (x ++ List.replicate c false)).toArray⟩ : ByteArray) = res at *
      clear CS
      go_wp2
      refine bodyPost_ret (v := .tuple #[.string res, .int .i64 0]) (by simp [results, Try.results23, go_sem]) rfl ?_
      exact ⟨by rw [HRES.out], HBW5⟩

end Go.Proofs.Ytmfmknpkeniifaa
