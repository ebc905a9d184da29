/- Package rmq: the walk of Tree. -/
import Derived.Test.YtnieacfleabikaaTreP
import Derived.Test.YtnieacfleabikaaDel
namespace Go.Proofs.Ytnieacfleabikaa
set_option linter.unusedVariables false
open Go.RowKit

/-- Naturals as cells, the last first. -/
def stk (ts : List Nat) : List Int := (ts.reverse).map Int.ofNat
theorem stk_length (ts : List Nat) : (stk ts).length = ts.length := by simp [stk]
theorem stk_cons (t : Nat) (ts : List Nat) : stk (t :: ts) = stk ts ++ [(t : Int)] := by simp [stk]
theorem stk_take (P ts : List Nat) : (stk (P ++ ts)).take ts.length = stk ts := by
  simp only [stk, List.reverse_append, List.map_append]
  exact List.take_left' (by simp)
/-- The memory of Tree. -/
structure TreMem (B n g gc : Nat) (w wr : World) (so : Option Addr) (sc : Nat) (ts : List Nat) (o : List Int) : Prop where
  out : wr.ownsRow B 3 1 (.slice (some ⟨g, 0, none⟩) n gc) n (ints o)
  st : wr.ownsRow B 3 1 (.slice so ts.length sc) ts.length (ints (stk ts))
  ap : blk so ≠ some g
  hb : Below B w wr
variable {B n g gc : Nat} {w wr : World} {so : Option Addr} {sc : Nat} {ts : List Nat} {o : List Int}
theorem TreMem.set (h : TreMem B n g gc w wr so sc ts o) (j : Nat) (v : Int) : TreMem B n g gc w (wr.setCell ⟨g, j, none⟩ (.int .i64 v)) so sc ts (o.set j v) := by
  refine ⟨?_, own_keep h.st (grown_set wr g j _) (fun k hk => by simp at hk; subst hk; exact h.ap), h.ap, h.hb.setCell (p := ⟨g, j, none⟩) (h.out.lt g rfl).1 _⟩
  have := (h.out.stored j (.int .i64 v)).1
  rwa [ints_set] at this
theorem TreMem.cut {P : List Nat} (h : TreMem B n g gc w wr so sc (P ++ ts) o) : TreMem B n g gc w wr so sc ts o := by
  refine ⟨h.out, ?_, h.ap, h.hb⟩
  by_cases hp : 0 < (P ++ ts).length
  · obtain ⟨gs, rfl, _, _⟩ := own_some h.st hp
    have := own_front h.st (m := ts.length) (by simp)
    have e : (ints (stk (P ++ ts))).take ts.length = ints (stk ts) := by
      rw [← stk_take P ts]; simp [ints, List.map_take]
    rwa [e] at this
  · have : P = [] := List.length_eq_zero_iff.1 (by rw [List.length_append] at hp; omega)
    subst this
    exact h.st
theorem TreMem.push {w3 : World} {so' : Option Addr} {sc' : Nat} {i : Nat} (h : TreMem B n g gc w wr so sc ts o) (hB : B ≤ wr.heap.size)
    (hown : w3.ownsRow B 3 1 (.slice so' (ts.length + 1) sc') (ts.length + 1) (ints (stk ts) ++ [.int .i64 i])) (hg : wr.grownBy w3 (blk so)) (hno : NewOr wr so so') :
    TreMem B n g gc w w3 so' sc' (i :: ts) o := by
  refine ⟨own_keep h.out hg (fun k hk he => by simp [blk] at he; subst he; exact h.ap hk), ?_, ?_, h.hb.trans (below_of_grown hg hB (fun k hk => (own_lt h.st k hk).1))⟩
  · rw [stk_cons, ints_append]; exact hown
  · intro e
    rcases hno with e1 | ⟨q, e1, hq⟩
    · rw [e1] at e; exact h.ap e
    · rw [e1] at e
      simp at e
      have := (h.out.lt g rfl).2
      omega
theorem TreMem.cell (h : TreMem B n g gc w wr so sc ts o) (ho : o.length = n) (j : Nat) (hj : j < n) : wr.cell? ⟨g, j, none⟩ = some (.int .i64 (o.getD j 0)) ∧ wr.frozen? ⟨g, j, none⟩ = false := by
  refine ⟨?_, h.out.frozenAt j⟩
  rw [h.out.cellAt j (by omega), List.getElem?_eq_getElem (by rw [ints_length]; omega), ints_get, getD_at _ _ (by omega)]
theorem TreMem.last {t : Nat} (h : TreMem B n g gc w wr so sc (t :: ts) o) : ∃ gs, so = some ⟨gs, 0, none⟩ ∧ gs ≠ g ∧ wr.cell? ⟨gs, ts.length, none⟩ = some (.int .i64 t) := by
  obtain ⟨gs, rfl, _, _⟩ := own_some h.st (by simp)
  refine ⟨gs, rfl, fun e => h.ap (by simp [blk, e]), ?_⟩
  rw [h.st.cellAt ts.length (by simp), List.getElem?_eq_getElem (by rw [ints_length, stk_length]; simp), ints_get]
  simp [stk]

/-- The last that was taken off; -1: there is none. -/
def lastP (P : List Nat) : Int := match P.getLast? with | none => -1 | some x => (x : Int)
theorem lastP_snoc (P : List Nat) (t : Nat) : lastP (P ++ [t]) = t := by simp [lastP]

set_option maxRecDepth 100000 in
set_option maxHeartbeats 2000000 in
theorem rtree_any (a : Option Addr) (cap n : Nat) (l : List Int) (w : World) (h : SlI w a cap l) (hl : l.length = n) (hn : n ≤ 300) (hn0 : 0 < n) :
    Calls Try.prog 27 #[.slice a n cap] w (fun e w' => ∃ oa oc o ts, e = .returned (.tuple #[.slice oa n oc, .int .i64 0]) ∧ Kp (SlI w' oa oc o) ∧ Kp (Tre l n n o ts) ∧ Below w.heap.size w w') := by
  have H := Kp.mk h
  have HL := Kp.mk hl
  obtain ⟨B, hB⟩ : ∃ B, B = w.heap.size := ⟨_, rfl⟩
  rw [← hB]
  have HB := Kp.mk hB
  clear h hl hB
  go_enter Try.func27, Try.ntmps27
  go_wp2_with (at_make; refine wpList_mk1 tInts rfl rfl _ _ rfl B n rfl rfl ?c1 (by decide) ?c2 ?c3)
  case c1 => omega
  case c2 => rw [HB.out]; exact Nat.le_refl _
  case c3 =>
    intro oa oc w1 hown hb
    obtain ⟨g, rfl, hg1, hg2⟩ := own_some hown hn0
    have HM := Kp.mk (show TreMem B n g oc w w1 none 0 [] (List.replicate n 0) from ⟨by simpa [ints] using hown, World.ownsRow_nil _ _ _ _, by simp [blk], hb⟩)
    have HT := Kp.mk (show Tre l n 0 (List.replicate n 0) [] from by have := Tre.start l (List.replicate n 0); rwa [List.length_replicate] at this)
    clear hown hb
    go_wp2
    go_loopw [17, 5] (fun v s wr => ∃ (i : Nat) (so : Option Addr) (sc : Nat) (ts : List Nat) (o : List Int), i ≤ n ∧ v = .int .i64 i ∧ s = .slice so ts.length sc ∧ ts.length ≤ i ∧ Kp (TreMem B n g oc w wr so sc ts o) ∧ Kp (Tre l n i o ts)) (fun v _ _ => n - (intOf v).toNat)
    case atStart => exact ⟨0, none, 0, [], _, Nat.zero_le _, rfl, rfl, Nat.le_refl _, HM, HT⟩
    case round =>
      clear HM HT
      obtain ⟨i, so, sc, ts0, o, hi, rfl, rfl, htl, HM, HT⟩ := hrel
      by_cases hlt : i < n
      · have hBw : B ≤ wr.heap.size := by rw [HB.out]; exact HM.out.hb.size
        have HLw := Kp.mk (H.out.below (HB.out ▸ HM.out.hb))
        obtain ⟨b, off, rfl, ci⟩ := HLw.out.at i (by rw [HL.out]; exact hlt)
        rw [← at0_get] at ci
        obtain ⟨ko, fo⟩ := HM.out.cell HT.out.len i hlt
        have hbg : b ≠ g := by
          have := SlC.blt H.out (by rw [ints_length, HL.out]; omega)
          simp at this
          rw [HB.out] at hg1; omega
        have hbg' : g ≠ b := hbg.symm
        have hii : (i : Int) < n := by omega
        generalize hv : at0 l i = v at *
        have HV := Kp.mk hv
        generalize o.getD i 0 = oi at *
        have HM1 := Kp.mk (HM.out.set i (-1))
        have HP := Kp.mk HT.out.pop
        clear hv
        go_wp2
        go_loop [5, 8] (fun s p => ∃ (P ts : List Nat), s = .slice so ts.length sc ∧ p = .int .i64 (lastP P) ∧ ts.length ≤ i ∧ Kp (Popd l i ts0 P ts)) (fun s _ => sliceLen s)
        case atStart => exact ⟨[], ts0, rfl, rfl, htl, HP⟩
        case round =>
          clear HP
          obtain ⟨P, ts, rfl, rfl, htl2, HP⟩ := hrel
          have HM2 := Kp.mk (show TreMem B n g oc w (wr.setCell ⟨g, i, none⟩ (.int .i64 (-1))) so sc ts (o.set i (-1)) from by
            have := HM1.out
            rw [HP.out.eq] at this
            exact this.cut)
          have hts : at0 l i = v := HV.out
          have hlti : (i : Int) < n := by omega
          have hPi := Kp.mk (show ∀ y, P.getLast? = some y → y < i from fun y hy => HT.out.lt y (by rw [HP.out.eq]; simp [List.mem_of_getLast? hy]))
          cases ts with
          | nil =>
            cases hgl : P.getLast? with
            | none =>
              have hlp : lastP P = -1 := by simp [lastP, hgl]
              rw [hlp]
              have HMf := Kp.mk (show TreMem B n g oc w (wr.setCell ⟨g, i, none⟩ (.int .i64 (-1))) so sc [] (treO o i P []) from by
                have : treO o i P [] = (o.set i (-1)) := by simp [treO, hgl]
                rw [this]; exact HM2.out)
              have HST := Kp.mk (HT.out.step hlt HP.out (by simp))
              have hsq : B ≤ ((wr.setCell ⟨g, i, none⟩ (.int .i64 (-1)))).heap.size := by rw [HB.out]; exact HMf.out.hb.size
              clear hgl hlp
              go_wp2_with (at_builtin; refine wpList_pushS tInts rfl _ _ rfl B so _ sc _ rfl HMf.out.st 1 _ ?pax rfl ?pa1 ?pa2 (by decide) hsq ?pa4)
              case pa1 => simp [Value.oneCell']
              case pa4 =>
                intro so' sc' w3 hown3 hg3 hno3
                have HNEW := Kp.mk (HMf.out.push hsq hown3 hg3 hno3)
                clear hown3 hg3 hno3
                go_wp2
                go_roundw
                case rel => exact ⟨i + 1, so', sc', i :: [], _, by omega, by go_num, by simp, by (try simp only [List.length_cons, List.length_nil]); omega, HNEW, HST⟩
                case measure => simp [intOf]; omega
            | some y =>
              have hlp : lastP P = y := by simp [lastP, hgl]
              rw [hlp]
              have hyi := hPi.out y hgl
              have hyn : (y : Int) < n := by omega
              obtain ⟨ky, fy⟩ := HM2.out.cell (by rw [List.length_set]; exact HT.out.len) y (by omega)
              generalize (o.set i (-1)).getD y 0 = oy at *
              have HMf := Kp.mk (show TreMem B n g oc w ((wr.setCell ⟨g, i, none⟩ (.int .i64 (-1))).setCell ⟨g, y, none⟩ (.int .i64 i)) so sc [] (treO o i P []) from by
                have : treO o i P [] = ((o.set i (-1)).set y (i : Int)) := by simp [treO, hgl]
                rw [this]; exact (HM2.out.set y i))
              have HST := Kp.mk (HT.out.step hlt HP.out (by simp))
              have hsq : B ≤ (((wr.setCell ⟨g, i, none⟩ (.int .i64 (-1))).setCell ⟨g, y, none⟩ (.int .i64 i))).heap.size := by rw [HB.out]; exact HMf.out.hb.size
              clear hgl hlp
              go_wp2_with (at_builtin; refine wpList_pushS tInts rfl _ _ rfl B so _ sc _ rfl HMf.out.st 1 _ ?pbx rfl ?pb1 ?pb2 (by decide) hsq ?pb4)
              case pb1 => simp [Value.oneCell']
              case pb4 =>
                intro so' sc' w3 hown3 hg3 hno3
                have HNEW := Kp.mk (HMf.out.push hsq hown3 hg3 hno3)
                clear hown3 hg3 hno3
                go_wp2
                go_roundw
                case rel => exact ⟨i + 1, so', sc', i :: [], _, by omega, by go_num, by simp, by (try simp only [List.length_cons, List.length_nil]); omega, HNEW, HST⟩
                case measure => simp [intOf]; omega
          | cons t ts =>
            obtain ⟨gs, rfl, hgs, cs⟩ := HM2.out.last
            have hgs' : g ≠ gs := hgs.symm
            have hsc := (own_slc HM2.out.st).le
            have hscm := (own_slc HM2.out.st).capm
            unfold maxLen at hscm
            simp only [List.length_cons] at hsc
            have htn : t < n := by
              have := HT.out.lt t (by rw [HP.out.eq]; simp)
              omega
            obtain ⟨b', off', hbb, ct⟩ := HLw.out.at t (by rw [HL.out]; exact htn)
            simp only [Option.some.injEq, Addr.mk.injEq, and_true] at hbb
            obtain ⟨rfl, rfl⟩ := hbb
            rw [← at0_get] at ct
            have hti : (t : Int) < n := by omega
            simp only [List.length_cons] at htl2 ⊢
            have hPL := Kp.mk (lastP_snoc P t)
            by_cases hc : at0 l t < v
            · have HP2 := Kp.mk (HP.out.more HT.out (by rw [hts]; exact hc))
              have d1 := decide_eq_true hc
              clear hc hts
              generalize at0 l t = u at *
              go_wp2
              go_round
              case rel => exact ⟨P ++ [t], ts, rfl, by rw [hPL.out], by omega, HP2⟩
              case measure => simp [sliceLen]
            · have d1 := decide_eq_false hc
              have hge := Kp.mk (show v ≤ at0 l t by omega)
              clear hc
              generalize hu : at0 l t = u at *
              have HU := Kp.mk hu
              clear hu
              cases hgl : P.getLast? with
              | none =>
                have hlp : lastP P = -1 := by simp [lastP, hgl]
                rw [hlp]
                have HMf := Kp.mk (show TreMem B n g oc w ((wr.setCell ⟨g, i, none⟩ (.int .i64 (-1))).setCell ⟨g, i, none⟩ (.int .i64 t)) (some ⟨gs, 0, none⟩) sc (t :: ts) (treO o i P (t :: ts)) from by
                  have : treO o i P (t :: ts) = ((o.set i (-1)).set i (t : Int)) := by simp [treO, hgl]
                  rw [this]; exact (HM2.out.set i t))
                have HST := Kp.mk (HT.out.step hlt HP.out (by intro t' ht'; simp at ht'; subst ht'; rw [HV.out, HU.out]; exact hge.out))
                have hsq : B ≤ (((wr.setCell ⟨g, i, none⟩ (.int .i64 (-1))).setCell ⟨g, i, none⟩ (.int .i64 t))).heap.size := by rw [HB.out]; exact HMf.out.hb.size
                clear hgl hlp
                go_wp2_with (at_builtin; refine wpList_pushS tInts rfl _ _ rfl B (some ⟨gs, 0, none⟩) _ sc _ rfl HMf.out.st 1 _ ?qax rfl ?qa1 ?qa2 (by decide) hsq ?qa4)
                case qa1 => simp [Value.oneCell']
                case qa2 => omega
                case qa4 =>
                  intro so' sc' w3 hown3 hg3 hno3
                  have HNEW := Kp.mk (HMf.out.push hsq hown3 hg3 hno3)
                  clear hown3 hg3 hno3
                  go_wp2
                  go_roundw
                  case rel => exact ⟨i + 1, so', sc', i :: (t :: ts), _, by omega, by go_num, by simp, by (try simp only [List.length_cons, List.length_nil]); omega, HNEW, HST⟩
                  case measure => simp [intOf]; omega
              | some y =>
                have hlp : lastP P = y := by simp [lastP, hgl]
                rw [hlp]
                have hyi := hPi.out y hgl
                have hyn : (y : Int) < n := by omega
                obtain ⟨ky, fy⟩ := HM2.out.cell (by rw [List.length_set]; exact HT.out.len) y (by omega)
                generalize (o.set i (-1)).getD y 0 = oy at *
                have HMf := Kp.mk (show TreMem B n g oc w (((wr.setCell ⟨g, i, none⟩ (.int .i64 (-1))).setCell ⟨g, y, none⟩ (.int .i64 i)).setCell ⟨g, i, none⟩ (.int .i64 t)) (some ⟨gs, 0, none⟩) sc (t :: ts) (treO o i P (t :: ts)) from by
                  have : treO o i P (t :: ts) = (((o.set i (-1)).set y (i : Int)).set i (t : Int)) := by simp [treO, hgl]
                  rw [this]; exact ((HM2.out.set y i).set i t))
                have HST := Kp.mk (HT.out.step hlt HP.out (by intro t' ht'; simp at ht'; subst ht'; rw [HV.out, HU.out]; exact hge.out))
                have hsq : B ≤ ((((wr.setCell ⟨g, i, none⟩ (.int .i64 (-1))).setCell ⟨g, y, none⟩ (.int .i64 i)).setCell ⟨g, i, none⟩ (.int .i64 t))).heap.size := by rw [HB.out]; exact HMf.out.hb.size
                clear hgl hlp
                go_wp2_with (at_builtin; refine wpList_pushS tInts rfl _ _ rfl B (some ⟨gs, 0, none⟩) _ sc _ rfl HMf.out.st 1 _ ?qbx rfl ?qb1 ?qb2 (by decide) hsq ?qb4)
                case qb1 => simp [Value.oneCell']
                case qb2 => omega
                case qb4 =>
                  intro so' sc' w3 hown3 hg3 hno3
                  have HNEW := Kp.mk (HMf.out.push hsq hown3 hg3 hno3)
                  clear hown3 hg3 hno3
                  go_wp2
                  go_roundw
                  case rel => exact ⟨i + 1, so', sc', i :: (t :: ts), _, by omega, by go_num, by simp, by (try simp only [List.length_cons, List.length_nil]); omega, HNEW, HST⟩
                  case measure => simp [intOf]; omega
      · obtain rfl : i = n := by omega
        go_wp2
        go_ret2
        exact ⟨some ⟨g, 0, none⟩, oc, o, ts0, rfl, ⟨own_sl_len HM.out.out HT.out.len⟩, HT, HB.out ▸ HM.out.hb⟩

end Go.Proofs.Ytnieacfleabikaa
