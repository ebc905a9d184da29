/- Package skt: the sum of two sketches. -/
import Derived.Test.YtjofajpcchncpaaSktM
import Derived.Test.YtjofajpcchncpaaClone
namespace Go.Proofs.Ytjofajpcchncpaa
set_option linter.unusedVariables false
open Go.RowKit

/-- x, the first i of y added. -/
def addP (x y : List Int) (i : Nat) : List Int := (List.range 64).map fun c => x.getD c 0 + if c < i then y.getD c 0 else 0
theorem addP_length (x y : List Int) (i : Nat) : (addP x y i).length = 64 := by simp [addP]
theorem addP_zero (x y : List Int) (h : x.length = 64) : addP x y 0 = x := by
  apply List.ext_getElem
  · rw [addP_length, h]
  · intro i h1 h2
    simp [addP, h2]
theorem addP_get (x y : List Int) (i c : Nat) (h : c < (addP x y i).length) : (addP x y i)[c] = x.getD c 0 + if c < i then y.getD c 0 else 0 := by simp [addP]
theorem addP_step (x y : List Int) (i : Nat) (h : i < 64) : addP x y (i + 1) = (addP x y i).set i (x.getD i 0 + y.getD i 0) := by
  apply List.ext_getElem
  · simp [addP]
  · intro c h1 h2
    rw [List.getElem_set, addP_get, addP_get]
    by_cases hc : i = c
    · subst hc; rw [if_pos rfl, if_pos (by omega)]
    · rw [if_neg hc]
      by_cases h3 : c < i
      · rw [if_pos (by omega), if_pos h3]
      · rw [if_neg (by omega), if_neg h3]
/-- The sum of two sketches. -/
def addS (D E : List (List Int)) : List (List Int) := (List.range D.length).map fun r => addP (D.getD r []) (E.getD r []) 64
theorem addS_length (D E : List (List Int)) : (addS D E).length = D.length := by simp [addS]
theorem addS_get (D E : List (List Int)) (r : Nat) (h : r < (addS D E).length) : (addS D E)[r] = addP (D.getD r []) (E.getD r []) 64 := by simp [addS]
theorem addS_take (D E : List (List Int)) (r : Nat) (h : r < D.length) : (addS D E).take (r + 1) = (addS D E).take r ++ [addP (D.getD r []) (E.getD r []) 64] := by
  rw [List.take_succ_eq_append_getElem (by rw [addS_length]; exact h), addS_get]
theorem addS_skL (p q : List Nat) (n : Nat) : addS (skL p n) (skL q n) = skL (p ++ q) n := by
  apply List.ext_getElem
  · rw [addS_length, skL_length, skL_length]
  · intro r h1 h2
    have hr : r < n := by rw [skL_length] at h2; exact h2
    rw [addS_get, getD_at _ _ (by rw [skL_length]; exact hr), getD_at _ _ (by rw [skL_length]; exact hr), skL_get, skL_get, skL_get]
    apply List.ext_getElem
    · rw [addP_length, skRow_length]
    · intro c h3 h4
      have hc : c < 64 := by rw [skRow_length] at h4; exact h4
      rw [addP_get, if_pos hc, getD_at _ _ (by rw [skRow_length]; exact hc), getD_at _ _ (by rw [skRow_length]; exact hc), skRow_get, skRow_get, skRow_get, cntK_append]
      push_cast; rfl
attribute [irreducible] addP addS

/-- What Both has made so far. -/
structure BothMem (B r : Nat) (w wr : World) (so : Option Addr) (sc : Nat) (L : List (Option Addr × Nat × List Int)) (D : List (List Int)) : Prop where
  len : L.length = r
  ls : lists L = D
  own : wr.ownsRow B 22 1 (.slice so r sc) r (hdr L)
  facts : Facts wr L
  apart : ∀ k, blk so = some k → ∀ x ∈ L, blk x.1 ≠ some k
  ne : ∀ x ∈ L, x.2.2 ≠ []
  hb : Below B w wr

theorem BothMem.keep {B r : Nat} {w wr wr' : World} {so : Option Addr} {sc : Nat} {L : List (Option Addr × Nat × List Int)} {D : List (List Int)} (h : BothMem B r w wr so sc L D) (hb : Below wr.heap.size wr wr') (hB : B ≤ wr.heap.size) : BothMem B r w wr' so sc L D :=
  ⟨h.len, h.ls, own_below h.own hb, h.facts.below hb, h.apart, h.ne, h.hb.trans (hb.mono hB)⟩

theorem BothMem.push {B r : Nat} {w w2 w3 : World} {so so' : Option Addr} {sc sc' g cg : Nat} {L : List (Option Addr × Nat × List Int)} {D : List (List Int)} {x : List Int} (h : BothMem B r w w2 so sc L D) (hx : SlI w2 (some ⟨g, 0, none⟩) cg x) (hxl : x.length = 64)
    (hso : ∀ k, blk so = some k → k ≠ g) (hB : B ≤ w2.heap.size)
    (hown : w3.ownsRow B 22 1 (.slice so' (r + 1) sc') (r + 1) (hdr L ++ [.slice (some ⟨g, 0, none⟩) 64 cg])) (hg : w2.grownBy w3 (blk so)) (hno : NewOr w2 so so') :
    BothMem B (r + 1) w w3 so' sc' (L ++ [(some ⟨g, 0, none⟩, cg, x)]) (D ++ [x]) := by
  have hgl : g < w2.heap.size := by
    obtain ⟨k, hk, hlt⟩ := SlC.lt hx (by rw [ints_length]; omega)
    simp [blk] at hk; omega
  have hlt := facts_lt h.facts h.ne
  refine ⟨by rw [List.length_append, h.len]; rfl, by rw [lists_append, h.ls]; rfl, ?_, ?_, ?_, ?_, h.hb.trans (below_of_grown hg hB (fun k hk => (own_lt h.own k hk).1))⟩
  · rw [hdr_append]
    have : hdr [((some ⟨g, 0, none⟩ : Option Addr), cg, x)] = [.slice (some ⟨g, 0, none⟩) 64 cg] := by simp [hdr, hxl]
    rw [this]; exact hown
  · exact facts_app (facts_keep h.facts hg h.apart) (SlC.keep hx hg (fun k hk he => by simp [blk] at he; exact hso k hk he.symm))
  · intro k hk y hy
    have hyb : ∀ q, blk y.1 = some q → q < w2.heap.size ∧ ∀ k', blk so = some k' → q ≠ k' := fun q hq => by
      rcases List.mem_append.1 hy with hy | hy
      · exact ⟨hlt y hy q hq, fun k' hk' e => h.apart k' hk' y hy (by rw [hq, e])⟩
      · rw [List.mem_singleton.1 hy] at hq
        simp [blk] at hq
        exact ⟨by omega, fun k' hk' e => hso k' hk' (by omega)⟩
    intro he
    obtain ⟨h1, h2⟩ := hyb k he
    rcases hno with e | ⟨q, hq, hge⟩
    · rw [hk] at e; exact h2 k e.symm rfl
    · rw [hk] at hq
      simp only [Option.some.injEq] at hq
      omega
  · intro y hy
    rcases List.mem_append.1 hy with hy | hy
    · exact h.ne y hy
    · rw [List.mem_singleton.1 hy]
      intro e
      rw [show x = [] from e] at hxl
      cases hxl

set_option maxRecDepth 100000 in
set_option maxHeartbeats 2000000 in
theorem both_any (a b : Option Addr) (ca cb R : Nat) (D E : List (List Int)) (w : World) (h1 : RowsI w a R ca D) (h2 : RowsI w b R cb E) (h0 : 1 ≤ R) (h8 : R ≤ 8) (hD : Sketch D) (hE : Sketch E) (hS : Sketch (addS D E)) :
    Calls Try.prog 37 #[.slice a R ca, .slice b R cb] w (fun e w' => ∃ oa oc, e = .returned (.tuple #[.slice oa R oc, .int .i64 0]) ∧ RowsI w' oa R oc (addS D E) ∧ Below w.heap.size w w') := by
  have C1 := Kp.mk (smay_yes a ca R D w h1 h0 h8 hD)
  have C2 := Kp.mk (smay_yes b cb R E w h2 h0 h8 hE)
  have H1 := Kp.mk h1
  have H2 := Kp.mk h2
  have HD := Kp.mk hD
  have HE := Kp.mk hE
  have HS := Kp.mk hS
  have HDL := Kp.mk h1.len
  have HEL := Kp.mk h2.len
  clear h1 h2 hD hE hS
  go_enter Try.func37, Try.ntmps37
  go_wp2_with fail
  refine C1.out.mono ?_
  rintro e w' ⟨rfl, rfl⟩
  go_wp2_with fail
  refine C2.out.mono ?_
  rintro e w' ⟨rfl, rfl⟩
  clear C1 C2
  go_wp2
  go_loopw [6, 29] (fun v i wr => ∃ (r : Nat) (so : Option Addr) (sc : Nat) (L : List (Option Addr × Nat × List Int)), r ≤ R ∧ i = .int .i64 r ∧ v = .slice so r sc ∧ BothMem w.heap.size r w wr so sc L ((addS D E).take r)) (fun _ i _ => R - (intOf i).toNat)
  case atStart => exact ⟨0, none, 0, [], Nat.zero_le _, rfl, rfl, ⟨rfl, rfl, World.ownsRow_nil _ _ _ _, Facts.nil _, (fun k hk => by cases hk), (fun x hx => by cases hx), Below.refl _ _⟩⟩
  case round =>
    obtain ⟨r, so, sc, L, hr, rfl, rfl, hM⟩ := hrel
    obtain ⟨wo, hwo⟩ : ∃ wo : World, wo = wr := ⟨_, rfl⟩
    rw [← hwo] at hM ⊢
    clear hwo
    have hBw : w.heap.size ≤ wo.heap.size := hM.hb.size
    have HM := Kp.mk hM
    clear hM
    by_cases hlt : r < R
    · have hrD : r < D.length := by rw [HDL.out]; exact hlt
      have hrE : r < E.length := by rw [HEL.out]; exact hlt
      obtain ⟨b1, o1, ra, rc, rfl, c1, hS1⟩ := H1.out.at r hrD
      obtain ⟨b2, o2, rb, rd, rfl, c2, hS2⟩ := H2.out.at r hrE
      have hx64 := (HD.out _ (List.getElem_mem hrD)).1
      have hxb := Kp.mk (HD.out _ (List.getElem_mem hrD)).2
      have hy64 := (HE.out _ (List.getElem_mem hrE)).1
      have hyb := Kp.mk (HE.out _ (List.getElem_mem hrE)).2
      have htk := Kp.mk (addS_take D E r hrD)
      rw [getD_at D [] hrD, getD_at E [] hrE] at htk
      rw [hx64] at c1
      rw [hy64] at c2
      have hlb1 := World.block_lt_of_cell? w _ c1
      have hlb2 := World.block_lt_of_cell? w _ c2
      rw [← HM.out.hb.cell (p := ⟨b1, o1 + r, none⟩) hlb1] at c1
      have C2 := Kp.mk c2
      have HSy := Kp.mk hS2
      have CC := Kp.mk (clone_any ra rc 64 _ wo (hS1.below HM.out.hb) hx64 (by omega))
      have hx64' := Kp.mk hx64
      have hy64' := Kp.mk hy64
      have hri : (r : Int) < R := by omega
      clear hS1 hS2 c2
      generalize D[r] = x at *
      generalize E[r] = y at *
      go_wp2_with fail
      refine CC.out.mono ?_
      rintro e w1 ⟨sg, cg, rfl, hog, hbel⟩
      unfold OwnI at hog
      rw [hx64'.out, ← addP_zero x y hx64'.out] at hog
      obtain ⟨g, rfl, hg1, hg2⟩ := own_some hog (by omega)
      have HOG := Kp.mk hog
      have HB1 := Kp.mk hbel
      have hbw1 : Below w.heap.size w w1 := HM.out.hb.trans (hbel.mono hBw)
      have c2 : w1.cell? ⟨b2, o2 + r, none⟩ = some (.slice rb 64 rd) := by rw [hbw1.cell (p := ⟨b2, o2 + r, none⟩) hlb2]; exact C2.out
      clear hog hbel CC c1 hlb1 hlb2 C2
      go_wp2
      go_loopw [41] (fun i wq => ∃ j : Nat, j ≤ 64 ∧ i = .int .i64 j ∧ wq.ownsRow wo.heap.size 3 1 (.slice (some ⟨g, 0, none⟩) 64 cg) 64 (ints (addP x y j)) ∧ w1.grownBy wq (some g)) (fun i _ => 64 - (intOf i).toNat)
      case atStart => exact ⟨0, Nat.zero_le _, rfl, HOG.out, grown_refl _ _⟩
      case round =>
        obtain ⟨j, hj, rfl, hown, hgr⟩ := hrel
        have HOJ := Kp.mk hown
        have HGJ := Kp.mk hgr
        have HBQ := Kp.mk (HB1.out.trans (below_of_grown hgr (by omega) (fun q hq => by cases hq; exact hg1)))
        clear hown hgr
        by_cases hlt2 : j < 64
        · obtain ⟨b3, o3, rfl, c3⟩ := (HSy.out.below (HM.out.hb.trans (HBQ.out.mono hBw))).at j (by rw [hy64'.out]; exact hlt2)
          have c4 := HOJ.out.cellAt j (by omega)
          have f4 := HOJ.out.frozenAt j
          rw [List.getElem?_eq_getElem (by rw [ints_length, addP_length]; exact hlt2), ints_get, addP_get, if_neg (by omega), getD_at x 0 (by rw [hx64'.out]; exact hlt2), Int.add_zero] at c4
          have h2 := (HOJ.out.stored j (.int .i64 (x.getD j 0 + y.getD j 0))).1
          rw [ints_set, ← addP_step x y j hlt2, getD_at x 0 (by rw [hx64'.out]; exact hlt2), getD_at y 0 (by rw [hy64'.out]; exact hlt2)] at h2
          have H2' := Kp.mk h2
          have hxv := hxb.out _ (List.getElem_mem (l := x) (n := j) (by rw [hx64'.out]; exact hlt2))
          have hyv := hyb.out _ (List.getElem_mem (l := y) (n := j) (by rw [hy64'.out]; exact hlt2))
          clear h2
          generalize x[j]'(by rw [hx64'.out]; exact hlt2) = xv at *
          generalize y[j]'(by rw [hy64'.out]; exact hlt2) = yv at *
          have hji : (j : Int) < 64 := by omega
          go_wp2
          go_roundw
          case rel => exact ⟨j + 1, by omega, by go_num, H2'.out, grown_trans HGJ.out (grown_set _ _ _ _)⟩
          case measure => simp [intOf]; omega
        · obtain rfl : j = 64 := by omega
          have hMq := HM.out.keep HBQ.out hBw
          have hrow := own_sl_len HOJ.out (addP_length x y 64)
          have hsq : w.heap.size ≤ wr.heap.size := by have := HBQ.out.size; omega
          have HMQ := Kp.mk hMq
          have HRW := Kp.mk hrow
          have HSO := Kp.mk (fun k (hk : blk so = some k) => show k ≠ g by
            have := (own_lt HM.out.own k hk).2; omega)
          clear hMq hrow
          go_wp2_with (at_builtin; refine wpList_pushS tRows rfl _ _ rfl w.heap.size _ _ _ _ rfl HMQ.out.own 1 _ rfl rfl ?d1 ?d2 (by decide) hsq ?d4)
          case d1 => simp [Value.oneCell']
          case d2 => omega
          case d4 =>
            intro so' sc' w3 hown3 hg3 hno3
            have HNEW := Kp.mk (HMQ.out.push HRW.out (addP_length _ _ _) HSO.out hsq hown3 hg3 hno3)
            clear hown3 hg3 hno3
            rw [← htk.out] at HNEW
            go_wp2
            go_roundw
            case rel => exact ⟨r + 1, so', sc', _, by omega, by go_num, rfl, HNEW.out⟩
            case measure => simp [intOf]; omega
    · obtain rfl : r = R := by omega
      have htk : (addS D E).take r = addS D E := List.take_of_length_le (by rw [addS_length, HDL.out]; exact Nat.le_refl _)
      have hrows : RowsI wo so r sc (addS D E) := ⟨L, by rw [HM.out.ls, htk], by have := own_slc HM.out.own; exact this, HM.out.facts⟩
      have C := Kp.mk (smay_yes so sc r (addS D E) wo hrows h0 h8 HS.out)
      have HRO := Kp.mk hrows
      clear hrows htk
      go_wp2_with fail
      refine C.out.mono ?_
      rintro e w' ⟨rfl, rfl⟩
      go_wp2
      go_ret2
      exact ⟨so, sc, rfl, HRO.out, HM.out.hb⟩

end Go.Proofs.Ytjofajpcchncpaa
