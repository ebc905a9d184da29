import Derived.Test.YtdegnnbffehmnaaMPe
import Derived.OwnWalk
/- Package perm: a list sorted by merging, and the pairs that stood the wrong way round. -/
namespace Go.Proofs.Ytdegnnbffehmnaa
set_option linter.unusedVariables false
open Go.RowKit

/-- 'make([]T, 0, c)'. -/
theorem wpList_mk0 {P : Program} {t e : TypeId} {size bytes : Nat} {z : Value} (T : ElemTy P t e size bytes z)
    {ops : Array Oper} {rest : List Oper} {o : Oper} {a : Act} {Q : Exit → Act → World → Prop} {w : World} (hgd : o.guard = none) (l c : Operand) (ho : o.op = Op.makeSlice t l c)
    (B : Nat) (n : Nat) (hl : a.eval l = .int .i64 0) (hc : a.eval c = .int .i64 n) (hbytes : bytes * n ≤ 281474976710656) (hbp : 0 < bytes) (hB : B ≤ w.heap.size)
    (h : ∀ sa cap w', w'.ownsRow B e size (.slice sa 0 cap) 0 [] → Below B w w' → wpList P ops Q rest (a.put o.dst (.slice sa 0 cap)) w') :
    wpList P ops Q (o :: rest) a w := by
  obtain ⟨i, hi, hz, hsz, hby⟩ := T.info
  have hnm : n ≤ maxLen := by
    have : n ≤ bytes * n := Nat.le_mul_of_pos_left _ hbp
    simp only [maxLen]; omega
  refine wpList_make_own w hgd l c t ho B e i z size T.und hi hz hsz .i64 .i64 n n hl hc rfl (by rw [hby]; exact hbytes) hnm hB ?_
  intro w' hown hg
  exact h _ _ _ hown (grown_below hg hB (fun k hk => by cases hk))

theorem sl_front {w : World} {b off cap h : Nat} {l : List Int} (s : SlI w (some ⟨b, off, none⟩) cap l) (hh : h ≤ l.length) : SlI w (some ⟨b, off, none⟩) cap (l.take h) := by
  have := SlC.front s hh
  unfold SlI
  rw [List.length_take, Nat.min_eq_left hh]
  simpa [ints, List.map_take] using this
theorem sl_back {w : World} {b off cap h : Nat} {l : List Int} (s : SlI w (some ⟨b, off, none⟩) cap l) (hh : h ≤ l.length) : SlI w (some ⟨b, off + h, none⟩) (cap - h) (l.drop h) := by
  refine ⟨by rw [ints_length]; omega, by have := SlC.le s; rw [List.length_drop]; omega, by have := SlC.capm s; omega, (fun e => by cases e), fun i hi => ⟨b, off + h, rfl, ?_⟩⟩
  rw [ints_length, List.length_drop] at hi
  obtain ⟨b', o', hb, hc⟩ := SlI.at s (h + i) (by omega)
  simp only [Option.some.injEq, Addr.mk.injEq, and_true] at hb
  obtain ⟨rfl, rfl⟩ := hb
  rw [ints_get, Nat.add_assoc, hc]
  simp
/-- 's[1:]' where that is all: the address stays. -/
theorem sl_last {w : World} {b off : Nat} {x : Int} (s : SlI w (some ⟨b, off, none⟩) 1 [x]) : SlI w (some ⟨b, off, none⟩) 0 [] :=
  ⟨rfl, Nat.le_refl _, Nat.zero_le _, (fun e => by cases e), fun i hi => by simp [ints] at hi⟩

/-- 's[1:]'. -/
def tailAddr (b o c : Nat) : Option Addr := some ⟨b, if c = 1 then o else o + 1, none⟩
theorem run_tail (b o n c : Nat) (w : World) (hc : n + 1 ≤ c) (hm : c ≤ 9223372036854775807) :
    (Instr.slice 28 (.slice (some ⟨b, o, none⟩) (n + 1) c) (some (.int .i64 1)) none none).run Try.prog w = .ok (.slice (tailAddr b o c) n (c - 1)) w := by
  unfold tailAddr
  by_cases h : c = 1
  · subst h
    obtain rfl : n = 0 := by omega
    simp [go_sem, Try.underlying28]
  · simp [go_sem, Try.underlying28, h]
    intro h
    omega
theorem sl_tail {w : World} {b o c : Nat} {x : Int} {p : List Int} (s : SlI w (some ⟨b, o, none⟩) c (x :: p)) : SlI w (tailAddr b o c) (c - 1) p := by
  unfold tailAddr
  by_cases h : c = 1
  · subst h
    have := SlC.le s
    simp only [List.length_cons] at this
    have hp : p = [] := List.length_eq_zero_iff.1 (by omega)
    subst hp
    exact sl_last s
  · rw [if_neg h]
    exact sl_back s (h := 1) (by simp)
def SortPost (w : World) (l : List Int) (e : Ending) (w' : World) : Prop :=
  ∃ sa cap s, e = .returned (.tuple #[.slice sa l.length cap, .int .i64 (inv l : Nat)]) ∧ SlI w' sa cap s ∧ s.Pairwise (· ≤ ·) ∧ s.Perm l ∧ Below w.heap.size w w'

set_option maxRecDepth 100000 in
set_option maxHeartbeats 2000000 in
theorem sorted_step (n : Nat) (hn : n ≤ 300) (a : Option Addr) (cap : Nat) (l : List Int) (w : World) (hl : l.length = n) (h : SlI w a cap l)
    (ih : ∀ (m : Nat), m < n → ∀ (a : Option Addr) (cap : Nat) (l : List Int) (w : World), l.length = m → SlI w a cap l → Calls Try.prog 49 #[.slice a m cap] w (SortPost w l)) :
    Calls Try.prog 49 #[.slice a n cap] w (SortPost w l) := by
  have H := Kp.mk h
  have HL := Kp.mk hl
  have IH := Kp.mk ih
  clear h ih
  by_cases h2 : n < 2
  · have h0 : Kp (inv l = 0 ∧ l.Pairwise (· ≤ ·)) := by
      have hp : l.Pairwise (· ≤ ·) := by
        rcases l with _ | ⟨x, _ | ⟨y, r⟩⟩
        · exact .nil
        · simp
        · simp at hl; omega
      exact ⟨inv_sorted hp, hp⟩
    clear hl
    go_enter Try.func49, Try.ntmps49
    go_wp2
    go_ret2
    refine ⟨a, cap, l, ?_, H.out, h0.out.2, .refl _, Below.refl _ _⟩
    rw [h0.out.1, HL.out]; rfl
  · obtain ⟨b, off, rfl, -⟩ := SlI.at H.out 0 (by omega)
    have hcap : n ≤ cap := by have := SlC.le H.out; omega
    have hcm := SlC.capm H.out
    unfold maxLen at hcm
    obtain ⟨m, hm⟩ : ∃ m, m = n / 2 := ⟨_, rfl⟩
    have em : (n : Int) / 2 = m := by omega
    have m1 : m < n := by omega
    have m2 : 0 < m := by omega
    have mi : (m : Int) < n := by omega
    have HX := Kp.mk (fun w' (hb : Below w.heap.size w w') => IH.out m m1 _ _ (l.take m) w' (by simp; omega) (sl_front (H.out.below hb) (by omega)))
    have HY := Kp.mk (fun w' (hb : Below w.heap.size w w') => IH.out (n - m) (by omega) _ _ (l.drop m) w' (by simp; omega) (sl_back (H.out.below hb) (by omega)))
    clear hm hl
    go_enter Try.func49, Try.ntmps49
    go_wp2_with fail
    refine (HX.out w (Below.refl _ _)).mono ?_
    rintro e w1 ⟨ra, rc, A, rfl, hA, sA, pA, b1⟩
    have HA := Kp.mk hA
    have SA := Kp.mk sA
    have PA := Kp.mk pA
    have B1 := Kp.mk b1
    have LA : Kp (A.length = m) := ⟨by rw [pA.length_eq, List.length_take, HL.out]; omega⟩
    have iA := inv_le (l.take m)
    have iA2 : (l.take m).length * (l.take m).length ≤ 300 * 300 := Nat.mul_le_mul (by rw [List.length_take]; omega) (by rw [List.length_take]; omega)
    clear hA sA pA b1
    rw [show (l.take m).length = m by rw [List.length_take, HL.out]; omega] at *
    generalize hi1 : inv (l.take m) = i1 at *
    go_wp2_with fail
    refine (HY.out w1 B1.out).mono ?_
    rintro e w2 ⟨sa, sc, C, rfl, hC, sC, pC, b2⟩
    have HA2 := Kp.mk (HA.out.below b2)
    have HC := Kp.mk hC
    have SC := Kp.mk sC
    have PC := Kp.mk pC
    have B2 := Kp.mk (below_step B1.out b2)
    have LC : Kp (C.length = n - m) := ⟨by rw [pC.length_eq, List.length_drop, HL.out]⟩
    clear hC sC pC b2
    have iC := inv_le (l.drop m)
    have iC2 : (l.drop m).length * (l.drop m).length ≤ 300 * 300 := Nat.mul_le_mul (by rw [List.length_drop, HL.out]; omega) (by rw [List.length_drop, HL.out]; omega)
    rw [show (l.drop m).length = n - m by rw [List.length_drop, HL.out]] at *
    have hI := inv_halves (List.take_append_drop m l).symm PA.out PC.out
    rw [hi1] at hI
    have hcr := cross_le A C
    have hcr2 : A.length * C.length ≤ 300 * 300 := Nat.mul_le_mul (by rw [LA.out]; omega) (by rw [LC.out]; omega)
    generalize hi2 : inv (l.drop m) = i2 at *
    have HINV := Kp.mk hI
    clear hI
    obtain ⟨B, hBB⟩ : ∃ B, B = w2.heap.size := ⟨_, rfl⟩
    have HBB := Kp.mk hBB
    have MS := Kp.mk (Mrg.start SA.out SC.out)
    have HCR := Kp.mk (Nat.le_trans hcr hcr2)
    clear hi1 hi2 HX HY IH hBB hcr hcr2
    replace iA : i1 ≤ 90000 := by omega
    replace iC : i2 ≤ 90000 := by omega
    clear iA2 iC2
    rw [show m = A.length from LA.out.symm]
    rw [show n - A.length = C.length by rw [LC.out, LA.out]]
    go_wp2_with (at_make; refine wpList_mk0 tInts rfl _ _ rfl B n rfl rfl ?c1 (by decide) ?c2 ?c3)
    case c1 => omega
    case c2 => rw [HBB.out]; exact Nat.le_refl _
    case c3 =>
      intro so co w3 hown hbel
      have HO := Kp.mk hown
      have HBL := Kp.mk hbel
      clear hown hbel
      go_wp2
      go_loopw [4, 6, 8, 9] (fun va vb vo vs wr => ∃ (xa : Option Addr) (ca : Nat) (p : List Int) (xb : Option Addr) (cb : Nat) (q : List Int) (so : Option Addr) (co : Nat) (o : List Int) (k : Nat), va = .slice xa p.length ca ∧ vb = .slice xb q.length cb ∧ vo = .slice so o.length co ∧ vs = .int .i64 (i1 + i2 + k : Nat) ∧
        Kp (SlI w2 xa ca p) ∧ Kp (SlI w2 xb cb q) ∧ Kp (wr.ownsRow B 3 1 (.slice so o.length co) o.length (ints o)) ∧ Kp (Mrg A C p q o k) ∧ Kp (Below B w2 wr)) (fun va vb _ _ _ => sliceLen va + sliceLen vb)
      case atStart => exact ⟨ra, rc, A, sa, sc, C, so, co, [], 0, rfl, rfl, rfl, by go_num, HA2, HC, HO, MS, HBL⟩
      case round =>
        clear HO HBL
        obtain ⟨xa, ca, p, xb, cb, q, so, co, o, k, rfl, rfl, rfl, rfl, HP, HQ, HO, HM, HBL⟩ := hrel
        have hlen := HM.out.len
        rw [LA.out, LC.out] at hlen
        rcases p with _ | ⟨x, p⟩
        · have he := Kp.mk (HM.out.done (.inl rfl))
          have hcr := HCR.out
          have hk9 : k ≤ 90000 := by rw [he.out.1]; exact hcr
          have HP' := Kp.mk (HP.out.below (HBB.out ▸ HBL.out))
          have HQ' := Kp.mk (HQ.out.below (HBB.out ▸ HBL.out))
          have hsz : B ≤ wr.heap.size := by rw [HBB.out]; exact HBL.out.size
          clear hcr
          have n1 : (([] : List Int)).length ≤ 300 := by simp
          have n2 : q.length ≤ 300 := by simp at hlen; omega
          have n3 : o.length ≤ 300 := by omega
          simp only [List.length_nil] at hlen
          have HLN := Kp.mk hlen
          clear hlen
          go_wp2_with (at_builtin; refine wpList_cat tInts rfl _ _ rfl B so o.length co (ints o) rfl HO.out xa _ ca (ints (([] : List Int))) rfl HP'.out (ints_one _) ?a1 (by decide) hsz ?a2)
          case a1 => simp; omega
          case a2 =>
            intro s1 p1 w4 hown4 hb4
            have HO4 := Kp.mk hown4
            have HB4 := Kp.mk hb4
            have hsz4 : B ≤ w4.heap.size := Nat.le_trans hsz hb4.size
            have HQ4 := Kp.mk (HQ.out.below (HBB.out ▸ HBL.out.trans hb4))
            clear hown4 hb4
            go_wp2_with (at_builtin; refine wpList_cat tInts rfl _ _ rfl B s1 _ p1 _ rfl HO4.out xb _ cb (ints (q)) rfl HQ4.out (ints_one _) ?a3 (by decide) hsz4 ?a4)
            case a3 => omega
            case a4 =>
              intro s2 p2 w5 hown5 hb5
              have HO5 := Kp.mk hown5
              have HB5 := Kp.mk ((HBL.out.trans HB4.out).trans hb5)
              clear hown5 hb5
              go_wp2
              go_ret2
              refine ⟨s2, p2, o ++ ([] : List Int) ++ q, ?_, ?_, he.out.2.1, ?_, ?_⟩
              · show Ending.returned (.tuple #[.slice s2 (o.length + 0 + q.length) p2, .int .i64 (↑i1 + ↑i2 + ↑k)]) = _
                have e1 : l.length = o.length + 0 + q.length := by rw [HL.out]; have := HLN.out; omega
                rw [e1, HINV.out, ← he.out.1]; push_cast; rfl
              · have h := HO5.out
                rw [← ints_append, ← ints_append, ← List.append_assoc] at h
                exact own_sl_len h (by simp)
              · have h1 := he.out.2.2
                have h2 := (PA.out.append PC.out)
                rw [List.take_append_drop] at h2
                exact h1.trans h2
              · exact below_step B2.out (HBB.out ▸ HB5.out)
        rcases q with _ | ⟨y, q⟩
        · have he := Kp.mk (HM.out.done (.inr rfl))
          have hcr := HCR.out
          have hk9 : k ≤ 90000 := by rw [he.out.1]; exact hcr
          have HP' := Kp.mk (HP.out.below (HBB.out ▸ HBL.out))
          have HQ' := Kp.mk (HQ.out.below (HBB.out ▸ HBL.out))
          have hsz : B ≤ wr.heap.size := by rw [HBB.out]; exact HBL.out.size
          clear hcr
          have n1 : p.length ≤ 299 := by simp at hlen; omega
          have n2 : (([] : List Int)).length ≤ 300 := by simp
          have n3 : o.length ≤ 300 := by omega
          simp only [List.length_cons, List.length_nil] at hlen
          have HLN := Kp.mk hlen
          clear hlen
          go_wp2_with (at_builtin; refine wpList_cat tInts rfl _ _ rfl B so o.length co (ints o) rfl HO.out xa _ ca (ints (x :: p)) rfl HP'.out (ints_one _) ?b1 (by decide) hsz ?b2)
          case b1 => simp; omega
          case b2 =>
            intro s1 p1 w4 hown4 hb4
            have HO4 := Kp.mk hown4
            have HB4 := Kp.mk hb4
            have hsz4 : B ≤ w4.heap.size := Nat.le_trans hsz hb4.size
            have HQ4 := Kp.mk (HQ.out.below (HBB.out ▸ HBL.out.trans hb4))
            clear hown4 hb4
            go_wp2_with (at_builtin; refine wpList_cat tInts rfl _ _ rfl B s1 _ p1 _ rfl HO4.out xb _ cb (ints (([] : List Int))) rfl HQ4.out (ints_one _) ?b3 (by decide) hsz4 ?b4)
            case b3 => omega
            case b4 =>
              intro s2 p2 w5 hown5 hb5
              have HO5 := Kp.mk hown5
              have HB5 := Kp.mk ((HBL.out.trans HB4.out).trans hb5)
              clear hown5 hb5
              go_wp2
              go_ret2
              refine ⟨s2, p2, o ++ (x :: p) ++ ([] : List Int), ?_, ?_, he.out.2.1, ?_, ?_⟩
              · show Ending.returned (.tuple #[.slice s2 (o.length + (p.length + 1) + 0) p2, .int .i64 (↑i1 + ↑i2 + ↑k)]) = _
                have e1 : l.length = o.length + (p.length + 1) + 0 := by rw [HL.out]; have := HLN.out; omega
                rw [e1, HINV.out, ← he.out.1]; push_cast; rfl
              · have h := HO5.out
                rw [← ints_append, ← ints_append, ← List.append_assoc] at h
                exact own_sl_len h (by simp)
              · have h1 := he.out.2.2
                have h2 := (PA.out.append PC.out)
                rw [List.take_append_drop] at h2
                exact h1.trans h2
              · exact below_step B2.out (HBB.out ▸ HB5.out)
        obtain ⟨b1, o1, rfl, c1⟩ := SlI.at (HP.out.below (HBB.out ▸ HBL.out)) 0 (by simp)
        obtain ⟨b2, o2, rfl, c2⟩ := SlI.at (HQ.out.below (HBB.out ▸ HBL.out)) 0 (by simp)
        have t1 : b1 < B := by have := SlC.blt HP.out (by simp [ints]); rw [HBB.out]; exact this
        have t2 : b2 < B := by have := SlC.blt HQ.out (by simp [ints]); rw [HBB.out]; exact this
        have hca := SlC.le HP.out
        have hcb := SlC.le HQ.out
        simp only [List.length_cons] at hlen hca hcb ⊢
        simp only [List.getElem_cons_zero, Nat.add_zero] at c1 c2
        have hca2 := SlC.capm HP.out
        have hcb2 := SlC.capm HQ.out
        unfold maxLen at hca2 hcb2
        have hsz : Kp (B ≤ wr.heap.size) := ⟨by rw [HBB.out]; exact HBL.out.size⟩
        by_cases hxy : x ≤ y
        · have d1 : decide (x ≤ y) = true := decide_eq_true hxy
          have hta := fun w => run_tail b1 o1 p.length ca w hca hca2
          have HM2 := Kp.mk (HM.out.left hxy)
          clear hxy
          go_wp2
          go_quiet (fail)
          have HO' := Kp.mk (show (wr.drewN nq).ownsRow B 3 1 (.slice so o.length co) o.length (ints o) from HO.out)
          have HBL' := Kp.mk (below_drewN HBL.out nq)
          have hsz' : Kp (B ≤ (wr.drewN nq).heap.size) := hsz
          have c' : (wr.drewN nq).cell? ⟨b1, o1, none⟩ = some (.int .i64 x) := c1
          clear HO HBL hsz c1 c2
          generalize wr.drewN nq = wq at *
          go_wp2
          go_region_held3 (fun w' => w'.cell? ⟨b1, o1, none⟩ = some (.int .i64 x))
            (first
              | go_keep
              | (have hb' := pushed_below HO'.out hsz'.out hgr
                 exact (hb'.cell (p := ⟨b1, o1, none⟩) t1).trans c'))
            ((refine step_push tInts (by rfl) _ _ (by rfl) B so o.length co _ (by rfl) ((HO'.out.alloc _).drew) 1 wq.heap.size _ (heap_alloc_new wq _) (by rfl) (by rfl) (by simp [Value.oneCell']) (by omega) (by omega) (by omega) (by simp; have := hsz'.out; omega) ?_; intro sa' cap' w' hown' hgr hno))
          have HB2 := Kp.mk (HBL'.out.trans (pushed_below HO'.out hsz'.out hgr))
          have HO2 := Kp.mk (show w'.ownsRow B 3 1 (.slice sa' (o ++ [x]).length cap') (o ++ [x]).length (ints (o ++ [x])) from by
            rw [List.length_append, ints_append]; exact hown')
          clear hown' hgr hno hta
          go_wp2
          go_roundw
          case rel => exact ⟨tailAddr b1 o1 ca, ca - 1, p, some ⟨b2, o2, none⟩, cb, y :: q, sa', cap', o ++ [x], k, rfl, rfl, by simp, rfl, ⟨sl_tail HP.out⟩, HQ, HO2, HM2, HB2⟩
          case measure => simp [sliceLen]
        · have d1 : decide (x ≤ y) = false := decide_eq_false hxy
          have hta := fun w => run_tail b2 o2 q.length cb w hcb hcb2
          have HM2 := Kp.mk (HM.out.right (by omega))
          have hcnt := HM2.out.cnt
          have hcr := HCR.out
          have hk9 : k + (p.length + 1) ≤ 90000 := by omega
          clear hxy hcnt hcr
          go_wp2
          go_quiet (fail)
          have HO' := Kp.mk (show (wr.drewN nq).ownsRow B 3 1 (.slice so o.length co) o.length (ints o) from HO.out)
          have HBL' := Kp.mk (below_drewN HBL.out nq)
          have hsz' : Kp (B ≤ (wr.drewN nq).heap.size) := hsz
          have c' : (wr.drewN nq).cell? ⟨b2, o2, none⟩ = some (.int .i64 y) := c2
          clear HO HBL hsz c1 c2
          generalize wr.drewN nq = wq at *
          go_wp2
          go_region_held3 (fun w' => w'.cell? ⟨b2, o2, none⟩ = some (.int .i64 y))
            (first
              | go_keep
              | (have hb' := pushed_below HO'.out hsz'.out hgr
                 exact (hb'.cell (p := ⟨b2, o2, none⟩) t2).trans c'))
            ((refine step_push tInts (by rfl) _ _ (by rfl) B so o.length co _ (by rfl) ((HO'.out.alloc _).drew) 1 wq.heap.size _ (heap_alloc_new wq _) (by rfl) (by rfl) (by simp [Value.oneCell']) (by omega) (by omega) (by omega) (by simp; have := hsz'.out; omega) ?_; intro sa' cap' w' hown' hgr hno))
          have HB2 := Kp.mk (HBL'.out.trans (pushed_below HO'.out hsz'.out hgr))
          have HO2 := Kp.mk (show w'.ownsRow B 3 1 (.slice sa' (o ++ [y]).length cap') (o ++ [y]).length (ints (o ++ [y])) from by
            rw [List.length_append, ints_append]; exact hown')
          clear hown' hgr hno hta
          go_wp2
          go_roundw
          case rel => exact ⟨some ⟨b1, o1, none⟩, ca, x :: p, tailAddr b2 o2 cb, cb - 1, q, sa', cap', o ++ [y], k + (p.length + 1), rfl, rfl, by simp, by go_num, HP, ⟨sl_tail HQ.out⟩, HO2, HM2, HB2⟩
          case measure => simp [sliceLen]

theorem msorted_any (n : Nat) : n ≤ 300 → ∀ (a : Option Addr) (cap : Nat) (l : List Int) (w : World), l.length = n → SlI w a cap l → Calls Try.prog 49 #[.slice a n cap] w (SortPost w l) := by
  induction n using Nat.strongRecOn with
  | ind n ih => exact fun hn a cap l w hl h => sorted_step n hn a cap l w hl h (fun m hm a cap l w hl h => ih m hm (by omega) a cap l w hl h)

set_option maxHeartbeats 1000000 in
theorem swaps_any (a : Option Addr) (cap n : Nat) (l : List Int) (w : World) (h : SlI w a cap l) (hl : l.length = n) (hn : n ≤ 300) (hp : Order l) :
    Calls Try.prog 20 #[.slice a n cap] w (fun e w' => e = .returned (.tuple #[.int .i64 (inv l : Nat), .int .i64 0]) ∧ Below w.heap.size w w') := by
  have H := Kp.mk h
  have HL := Kp.mk hl
  have C := Kp.mk (check_any a cap l w h (by omega) hp)
  rw [hl] at C
  clear h hp hl
  go_enter Try.func20, Try.ntmps20
  go_wp2_with fail
  refine C.out.mono ?_
  rintro e w1 ⟨rfl, hb1⟩
  have H1 := Kp.mk (H.out.below hb1)
  have HB1 := Kp.mk hb1
  clear hb1 C
  go_wp2_with fail
  refine (msorted_any n hn a cap l _ HL.out H1.out).mono ?_
  rintro e w2 ⟨sa, sc, s, rfl, _, _, _, hb2⟩
  have HB2 := Kp.mk (below_step HB1.out hb2)
  clear hb2
  go_wp2
  go_ret2
  exact ⟨rfl, HB2.out⟩

end Go.Proofs.Ytdegnnbffehmnaa

