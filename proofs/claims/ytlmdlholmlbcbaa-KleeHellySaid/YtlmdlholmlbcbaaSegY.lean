/- Package seg: the walk of Play. -/
import Derived.Test.YtlmdlholmlbcbaaSegF
namespace Go.Proofs.Ytlmdlholmlbcbaa
set_option linter.unusedVariables false
open Go.RowKit

def opL (o : SOp) : List Value := [.int .i64 o.kind, .int .i64 o.lo, .int .i64 o.hi, .int .i64 o.amt]
theorem opL_len (o : SOp) : (opL o).length = 4 := rfl
def repL (r : Int × Int) : List Value := [.int .i64 r.1, .int .i64 r.2]
theorem repL_len (r : Int × Int) : (repL r).length = 2 := rfl
theorem info_rep : (Try.prog.info? 204).map (fun i => (i.zero, i.size, i.bytes)) = some (some (.agg #[.int .i64 0, .int .i64 0]), 2, 16) := by kernel_rfl
theorem tReps : ElemTy Try.prog 155 204 2 16 (.agg #[.int .i64 0, .int .i64 0]) :=
  ⟨Try.underlying155, by obtain ⟨i0, hi, h0, h1, h2⟩ := info_parts info_rep; exact ⟨i0, hi, h0, h1, h2⟩, rfl, by decide⟩
abbrev op0 : SOp := ⟨3, 0, 0, 0⟩
/-- The list behind the first k operations. -/
def runD (l : List Int) (ops : List SOp) : Nat → List Int
  | 0 => l
  | k + 1 => upd (ops.getD k op0) 0 (runD l ops k)
theorem runD_length (l : List Int) (ops : List SOp) (k : Nat) : (runD l ops k).length = l.length := by
  induction k with
  | zero => rfl
  | succ k ih => rw [runD, upd_length, ih]
/-- What is told of an operation behind it. -/
def replyOf (o : SOp) (D : List Int) : Int := if o.kind = 3 then minL (sub o 0 D) else if o.kind = 4 then (sub o 0 D).sum else 0
def repsK (l : List Int) (ops : List SOp) : Nat → List (Int × Int)
  | 0 => []
  | k + 1 => repsK l ops k ++ [(0, replyOf (ops.getD k op0) (runD l ops (k + 1)))]
theorem repsK_length (l : List Int) (ops : List SOp) (k : Nat) : (repsK l ops k).length = k := by
  induction k with
  | zero => rfl
  | succ k ih => simp [repsK, ih]
theorem repsK_get (l : List Int) (ops : List SOp) (k i : Nat) (h : i < k) : (repsK l ops k).getD i (0, 0) = (0, replyOf (ops.getD i op0) (runD l ops (i + 1))) := by
  induction k with
  | zero => omega
  | succ k ih =>
    rw [repsK]
    by_cases e : i = k
    · subst e
      rw [getD_at _ _ (by simp [repsK_length]), List.getElem_append_right (by rw [repsK_length]; exact Nat.le_refl _)]
      simp
    · rw [getD_at _ _ (by simp [repsK_length]; omega), List.getElem_append_left (by rw [repsK_length]; omega), ← getD_at _ (0, 0) (by rw [repsK_length]; omega)]
      exact ih (by omega)
attribute [irreducible] runD replyOf repsK

/-- The memory of Play within its loop. -/
structure PlayMem (B rt M : Nat) (w wr : World) (T : SgT) (D : List Int) : Prop where
  mem : InMem wr T
  nd : T.blocks.Nodup
  ge : ∀ k ∈ T.blocks, B ≤ k
  rep : Rep 0 M T D
  root : T.root = rt
  bel : Below B w wr
theorem PlayMem.step {B rt M : Nat} {w wr w' : World} {T : SgT} {D : List Int} (h : PlayMem B rt M w wr T D) (ht : Turned ([] : List Nat) wr w') (hB : B ≤ wr.heap.size) : PlayMem B rt M w w' T D :=
  ⟨h.mem.keep ht (by simp), h.nd, h.ge, h.rep, h.root, h.bel.trans (ht.below hB (by simp))⟩
theorem own_not {w : World} {B e size n m c : Nat} {a : Option Addr} {xs : List Value} {T : SgT} (ho : w.ownsRow B e size (.slice a m c) n xs) (hm : InMem w T) (hne : 241 ≠ e) : ∀ k, blk a = some k → k ∉ T.blocks := by
  intro k hk hmem
  have key : ∀ (T : SgT), InMem w T → k ∈ T.blocks → ∃ cs, Box w k cs 241 := by
    intro T
    induction T with
    | leaf b v => intro hm hk; rw [List.mem_singleton.1 hk]; exact ⟨_, hm⟩
    | node b v l r ihl ihr =>
      intro hm hk
      rcases List.mem_cons.1 hk with rfl | hk
      · exact ⟨_, hm.1⟩
      · rcases List.mem_append.1 hk with hk | hk
        · exact ihl hm.2.1 hk
        · exact ihr hm.2.2 hk
  obtain ⟨cs, hb⟩ := key T hm hmem
  rcases ho.2 with ⟨hv, _⟩ | ⟨g, cap, cur, hv, _, hgb, _⟩
  · simp only [Value.slice.injEq] at hv
    rw [hv.1] at hk
    cases hk
  · simp only [Value.slice.injEq] at hv
    rw [hv.1] at hk
    simp only [blk, Option.map_some, Option.some.injEq] at hk
    have h1 : w.heap[k]? = _ := hb
    rw [← hk, hgb] at h1
    simp only [Option.some.injEq, Obj.cells.injEq] at h1
    exact hne h1.2.1.symm
theorem own_turned {w w' : World} {B e size n m c : Nat} {a : Option Addr} {xs : List Value} {T : SgT} (ho : w.ownsRow B e size (.slice a m c) n xs) (ht : Turned T.blocks w w') (hm : InMem w T) (hne : 241 ≠ e) : w'.ownsRow B e size (.slice a m c) n xs :=
  ht.own ho (own_not ho hm hne)
theorem own_apart {w : World} {B e size n m c B' e' size' n' m' c' : Nat} {a a' : Option Addr} {xs xs' : List Value} (h : w.ownsRow B e size (.slice a m c) n xs) (h' : w.ownsRow B' e' size' (.slice a' m' c') n' xs') (hne : e ≠ e') : ∀ k, blk a = some k → blk a' = some k → False := by
  intro k hk hk'
  rcases h.2 with ⟨hv, _⟩ | ⟨g, cap, cur, hv, _, hgb, _⟩
  · simp only [Value.slice.injEq] at hv
    rw [hv.1] at hk
    cases hk
  · rcases h'.2 with ⟨hv', _⟩ | ⟨g', cap', cur', hv', _, hgb', _⟩
    · simp only [Value.slice.injEq] at hv'
      rw [hv'.1] at hk'
      cases hk'
    · simp only [Value.slice.injEq] at hv hv'
      rw [hv.1] at hk
      rw [hv'.1] at hk'
      simp only [blk, Option.map_some, Option.some.injEq] at hk hk'
      rw [hk] at hgb
      rw [hk'] at hgb'
      rw [hgb] at hgb'
      simp only [Option.some.injEq, Obj.cells.injEq] at hgb'
      exact hne hgb'.2.1
theorem sub_at (D : List Int) (i : Nat) (h : i < D.length) : sub ⟨3, i, i, 0⟩ 0 D = [D.getD i 0] := by
  have h1 : D = D.take i ++ [D.getD i 0] ++ D.drop (i + 1) := by
    rw [getD_at _ _ h, ← List.take_succ_eq_append_getElem h, List.take_append_drop]
  have hl : (D.take i).length = i := by rw [List.length_take]; omega
  generalize D.getD i 0 = x at *
  rw [h1, sub_append, sub_append, (upd_out ⟨3, i, i, 0⟩ (D.take i) 0 (by dsimp only; omega)).2, (upd_out ⟨3, i, i, 0⟩ (D.drop (i + 1)) _ (by dsimp only; rw [List.length_append, hl]; simp)).2, hl]
  simp [sub, SOp.inn]
theorem PlayMem.stepS {S : List Nat} {B rt M : Nat} {w wr w' : World} {T : SgT} {D : List Int} (h : PlayMem B rt M w wr T D) (ht : Turned S wr w') (hB : B ≤ wr.heap.size) (hs : ∀ k ∈ T.blocks, k ∉ S) (hS : ∀ k ∈ S, B ≤ k) : PlayMem B rt M w w' T D :=
  ⟨h.mem.keep ht hs, h.nd, h.ge, h.rep, h.root, h.bel.trans (ht.below hB hS)⟩
theorem PlayMem.push {B rt M e size n m c : Nat} {w wr w' : World} {T : SgT} {D : List Int} {a : Option Addr} {xs : List Value} (h : PlayMem B rt M w wr T D) (ho : wr.ownsRow B e size (.slice a m c) n xs) (hg : wr.grownBy w' (blk a)) (hB : B ≤ wr.heap.size) (hne : 241 ≠ e) : PlayMem B rt M w w' T D := by
  have hn := own_not ho h.mem hne
  refine h.stepS (S := (blk a).toList) (Turned.of_grown hg (fun k hk => by rw [hk]; simp)) hB (fun k hk hm => ?_) (fun k hk => (own_lt ho k (by simpa using hk)).1)
  exact hn k (by simpa using hm) hk

set_option maxRecDepth 100000 in
set_option maxHeartbeats 4000000 in
theorem play_any (a oa : Option Addr) (cap oc n m : Nat) (l : List Int) (ops : List SOp) (w : World) (h : SlI w a cap l) (hl : l.length = n) (ho : SlF opL 4 w oa m oc ops) (hn0 : 0 < n) (hn : n ≤ 300) (hm : m ≤ 300) (hb : ∀ x ∈ l, x.natAbs ≤ 1048576) (hk : ∀ o ∈ ops, o.Ok n) :
    Calls Try.prog 114 #[.slice a n cap, .slice oa m oc] w fun e w' => ∃ ra rc ea ec, e = .returned (.tuple #[.slice ra m rc, .slice ea n ec, .int .i64 0]) ∧ Kp (SlF repL 2 w' ra m rc (repsK l ops m)) ∧ Kp (w'.ownsRow w.heap.size 3 1 (.slice ea n ec) n (ints (runD l ops m))) ∧ Below w.heap.size w w' := by
  have hml : ops.length = m := ho.len opL_len (by omega)
  have H := Kp.mk h
  have HL := Kp.mk hl
  have HO := Kp.mk ho
  have HML := Kp.mk hml
  have HOK := Kp.mk hk
  have HBD := Kp.mk hb
  have CC := Kp.mk (contains_any 156 #[] (fun _ => false) (fun _ _ => by kernel_rfl) a cap n l w h hl (by omega) (fun x hx => seg_far x (by have := hb x hx; omega) (by have := hb x hx; omega)))
  rw [show l.any (fun _ => false) = false by simp] at CC
  have CG := Kp.mk (grow_any a cap n 1048576 l hl (by omega) (by omega) hb (n - 1) 0 (n - 1) w rfl (by omega) (by omega) h)
  rw [segL_all l (n - 1) (by omega)] at CG
  have z1 : ¬ ((n : Int) < 1) := by omega
  have z2 : ¬ (300 < (n : Int)) := by omega
  have z3 : ¬ (300 < (m : Int)) := by omega
  have e1 : (n : Int) - 1 = ((n - 1 : Nat) : Int) := by omega
  have E1 := Kp.mk e1
  clear h hl ho hml hk hb e1
  go_enter Try.func114, Try.ntmps114
  go_wp2_with fail
  refine CC.out.mono ?_
  rintro e w' ⟨rfl, rfl⟩
  go_wp2_with fail
  rw [E1.out]
  refine CG.out.mono ?_
  rintro e w1 ⟨T0, rfl, t1, t2, t3, t4, t5⟩
  have HM0 := Kp.mk (show PlayMem w.heap.size T0.root (1048576 * 1) w w1 T0 (runD l ops 0) from ⟨t1, t2, t3, by unfold runD; exact t4, rfl, t5⟩)
  clear t1 t2 t3 t4 t5 CC CG
  obtain ⟨rt, hrt⟩ : ∃ rt, T0.root = rt := ⟨_, rfl⟩
  rw [SgT.ptr, hrt]
  rw [hrt] at HM0
  clear hrt
  go_wp2
  go_loopw [8, 39] (fun v i wr => ∃ (k : Nat) (xa : Option Addr) (xc : Nat) (T : SgT), k ≤ m ∧ i = .int .i64 k ∧ v = .slice xa k xc ∧ Kp (wr.ownsRow w.heap.size 204 2 (.slice xa k xc) k (flat repL (repsK l ops k))) ∧ Kp (PlayMem w.heap.size rt (1048576 * (k + 1)) w wr T (runD l ops k))) (fun _ i _ => m - (intOf i).toNat)
  case atStart => exact ⟨0, none, 0, T0, Nat.zero_le _, rfl, rfl, ⟨by unfold repsK; exact World.ownsRow_nil _ _ _ _⟩, HM0⟩
  case round =>
    clear HM0
    obtain ⟨k, xa, xc, T, hk, rfl, rfl, HR, HM⟩ := hrel
    by_cases hlt : k < m
    · obtain ⟨b, off, rfl, hbw, co⟩ := (HO.out.below HM.out.bel).at opL_len (by omega) k (by rw [HML.out]; exact hlt)
      have HE := Kp.mk (getD_at ops op0 (show k < ops.length by rw [HML.out]; exact hlt))
      have hok := HOK.out _ (List.getElem_mem (show k < ops.length by rw [HML.out]; exact hlt))
      rw [← HE.out] at co hok
      obtain ⟨o, hoe⟩ : ∃ o, ops.getD k op0 = o := ⟨_, rfl⟩
      rw [hoe] at co hok
      have HOE := Kp.mk hoe
      have HK := Kp.mk hok
      have hBw : w.heap.size ≤ wr.heap.size := HM.out.bel.size
      have o0 : wr.cell? ⟨b, off + k * 4, none⟩ = some (.int .i64 o.kind) := co 0 (by omega)
      have o1 : wr.cell? ⟨b, off + k * 4 + 1, none⟩ = some (.int .i64 o.lo) := co 1 (by omega)
      have o2 : wr.cell? ⟨b, off + k * 4 + 2, none⟩ = some (.int .i64 o.hi) := co 2 (by omega)
      have o3 : wr.cell? ⟨b, off + k * 4 + 3, none⟩ = some (.int .i64 o.amt) := co 3 (by omega)
      clear co hok hoe HE
      go_wp2_with fail
      refine (fault_any o n _ HK.out (by omega)).mono ?_
      rintro e w2 ⟨rfl, rfl⟩
      -- the boxes of the operation and of the reply
      have q0 := Box.new wr (opC o) 159
      have q1 := (q0.alloc (.cells (opC o) 159)).alloc (.cells #[.int .i64 0, .int .i64 0] 204)
      have q2 := Box.new ((wr.alloc (.cells (opC o) 159)).alloc (.cells (opC o) 159)) #[.int .i64 0, .int .i64 0] 204
      rw [alloc_size, alloc_size] at q2
      have HT3 := Kp.mk (show Turned ([] : List Nat) wr (((wr.alloc (.cells (opC o) 159)).alloc (.cells (opC o) 159)).alloc (.cells #[.int .i64 0, .int .i64 0] 204)) from (((Turned.refl _ _).alloc _).alloc _).alloc _)
      have HR3 := Kp.mk (((HR.out.alloc (.cells (opC o) 159)).alloc (.cells (opC o) 159)).alloc (.cells #[.int .i64 0, .int .i64 0] 204))
      have hsz3 : (((wr.alloc (.cells (opC o) 159)).alloc (.cells (opC o) 159)).alloc (.cells #[.int .i64 0, .int .i64 0] 204)).heap.size = wr.heap.size + 3 := by rw [alloc_size, alloc_size, alloc_size]
      have HM3 := Kp.mk (HM.out.step HT3.out hBw)
      have kk0 : (((wr.alloc (.cells (opC o) 159)).alloc (.cells (opC o) 159)).alloc (.cells #[.int .i64 0, .int .i64 0] 204)).cell? ⟨wr.heap.size, 0, none⟩ = some (.int .i64 o.kind) := q1.cell 0 rfl
      have kk1 : (((wr.alloc (.cells (opC o) 159)).alloc (.cells (opC o) 159)).alloc (.cells #[.int .i64 0, .int .i64 0] 204)).cell? ⟨wr.heap.size, 1, none⟩ = some (.int .i64 o.lo) := q1.cell 1 rfl
      have kk2 : (((wr.alloc (.cells (opC o) 159)).alloc (.cells (opC o) 159)).alloc (.cells #[.int .i64 0, .int .i64 0] 204)).cell? ⟨wr.heap.size, 2, none⟩ = some (.int .i64 o.hi) := q1.cell 2 rfl
      have kk3 : (((wr.alloc (.cells (opC o) 159)).alloc (.cells (opC o) 159)).alloc (.cells #[.int .i64 0, .int .i64 0] 204)).cell? ⟨wr.heap.size, 3, none⟩ = some (.int .i64 o.amt) := q1.cell 3 rfl
      have Q1 := Kp.mk q1
      have Q2 := Kp.mk q2
      have CA := Kp.mk (apply_any o HK.out.k4 1048576 (by have := HK.out.a1; have := HK.out.a2; omega) T 0 (n - 1) (1048576 * (k + 1)) (runD l ops k) _ HM3.out.mem HM.out.nd HM.out.rep (by omega) (by rw [runD_length, HL.out]; omega) (by omega))
      rw [SgT.ptr, HM.out.root] at CA
      have HDL := Kp.mk (show runD l ops (k + 1) = upd o 0 (runD l ops k) from by conv => lhs; unfold runD; rw [HOE.out])
      rw [← HDL.out] at CA
      clear q0 q1 q2 o0 o1 o2 o3
      go_wp2_with fail
      rw [E1.out]
      refine CA.out.mono ?_
      rintro e w5 ⟨T', tb, tr, tm, tp, tu, te⟩
      unfold telled at te
      subst te
      have x1 := tu.box Q1.out (fun hm => by have := HM.out.mem.lt _ hm; omega)
      have x2 := tu.box Q2.out (fun hm => by have := HM.out.mem.lt _ hm; omega)
      have HM5 := Kp.mk (show PlayMem w.heap.size rt (1048576 * (k + 1 + 1)) w w5 T' (runD l ops (k + 1)) from
        ⟨tm, by rw [tb]; exact HM.out.nd, by rw [tb]; exact HM.out.ge, tp.mono (by omega), by rw [tr]; exact HM.out.root, HM3.out.bel.trans (tu.below (by rw [hsz3]; omega) HM.out.ge)⟩)
      have HR5 := Kp.mk (own_turned HR3.out tu HM3.out.mem (by decide))
      have HLT5 := Kp.mk (show ∀ q ∈ T'.blocks, q < wr.heap.size from fun q hq => HM.out.mem.lt q (by rw [← tb]; exact hq))
      have hsz5 : wr.heap.size + 3 ≤ w5.heap.size := by have := tu.size; omega
      have kk0' : w5.cell? ⟨wr.heap.size, 0, none⟩ = some (.int .i64 o.kind) := x1.cell 0 rfl
      have c0 : w5.cell? ⟨wr.heap.size + 1 + 1, 0, none⟩ = some (.int .i64 0) := x2.cell 0 rfl
      have c1 : w5.cell? ⟨wr.heap.size + 1 + 1, 1, none⟩ = some (.int .i64 0) := x2.cell 1 rfl
      have f1 := x2.free 1
      have X2 := Kp.mk x2
      clear kk0 kk1 kk2 kk3 x1 x2 tb tr tm tp tu CA
      have HRP := Kp.mk (show repsK l ops (k + 1) = repsK l ops k ++ [(0, replyOf o (runD l ops (k + 1)))] from by conv => lhs; unfold repsK; rw [HOE.out])
      have HTB := Kp.mk (show ∀ q ∈ T'.blocks, q < wr.heap.size from HLT5.out)
      by_cases hk3 : o.kind = 3
      · skip
        have HV := Kp.mk (show replyOf o (runD l ops (k + 1)) = minL (sub o 0 (runD l ops (k + 1))) from by unfold replyOf; rw [if_pos hk3])
        have z3' : ((o.kind : Int) == 3) = true := by simp only [beq_iff_eq]; omega
        clear hk3
        go_upto_region 18 with (fail)
        have HT6 := Kp.mk (show Turned [wr.heap.size + 1 + 1] w5 (w5.setCell ⟨wr.heap.size + 1 + 1, 1, none⟩ (.int .i64 (minL (sub o 0 (runD l ops (k + 1)))))) from (Turned.refl _ _).set _ 1 _ (by simp))
        have HR6 := Kp.mk (HT6.out.own HR5.out (fun q hq hm => by have := (own_lt HR.out q hq).2; rw [List.mem_singleton.1 hm] at this; omega))
        have HM6 := Kp.mk (HM5.out.stepS HT6.out (by omega) (fun q hq hm => by have := HTB.out q hq; rw [List.mem_singleton.1 hm] at this; omega) (fun q hq => by rw [List.mem_singleton.1 hq]; omega))
        have hB6 := HM6.out.bel.size
        have X6 := box_set (i := 1) X2.out (.int .i64 (minL (sub o 0 (runD l ops (k + 1)))))
        obtain ⟨vv, hvv⟩ : ∃ vv, minL (sub o 0 (runD l ops (k + 1))) = vv := ⟨_, rfl⟩
        rw [hvv] at HR6 HM6 hB6 X6 HV ⊢
        clear HT6
        generalize (w5.setCell ⟨wr.heap.size + 1 + 1, 1, none⟩ (.int .i64 vv)) = w6 at *
        have HVV := Kp.mk hvv
        clear hvv
        have y0 : w6.cell? ⟨wr.heap.size + 1 + 1, 0, none⟩ = some (.int .i64 0) := X6.cell 0 rfl
        have y1 : w6.cell? ⟨wr.heap.size + 1 + 1, 1, none⟩ = some (.int .i64 vv) := X6.cell 1 rfl
        clear c0 c1 f1 kk0' X6
        go_wp2_with (at_builtin; refine wpList_pushS tReps rfl _ _ rfl w.heap.size xa k xc _ rfl HR6.out 1 _ rfl rfl ?b2 ?b3 (by decide) hB6 ?b5)
        case b2 => simp [Value.oneCell']
        case b3 => omega
        case b5 =>
          intro ya yc w7 hown7 hg7 hno7
          have HR7 := Kp.mk (show w7.ownsRow w.heap.size 204 2 (.slice ya (k + 1) yc) (k + 1) (flat repL (repsK l ops (k + 1))) from by
            rw [HRP.out, flat_append, HV.out]; exact hown7)
          have HM7 := Kp.mk (HM6.out.push HR6.out hg7 hB6 (by decide))
          clear hown7 hg7 hno7
          go_wp2
          go_roundw
          case rel => exact ⟨k + 1, ya, yc, T', by omega, by go_num, rfl, HR7, HM7⟩
          case measure => simp [intOf]; omega
      · by_cases hk4 : o.kind = 4
        · skip
          have HV := Kp.mk (show replyOf o (runD l ops (k + 1)) = (sub o 0 (runD l ops (k + 1))).sum from by unfold replyOf; rw [if_neg hk3, if_pos hk4])
          have z3' : ((o.kind : Int) == 3) = false := by simp only [beq_eq_false_iff_ne]; omega
          have z4' : ((o.kind : Int) == 4) = true := by simp only [beq_iff_eq]; omega
          clear hk3 hk4
          go_upto_region 18 with (fail)
          have HT6 := Kp.mk (show Turned [wr.heap.size + 1 + 1] w5 (w5.setCell ⟨wr.heap.size + 1 + 1, 1, none⟩ (.int .i64 ((sub o 0 (runD l ops (k + 1))).sum))) from (Turned.refl _ _).set _ 1 _ (by simp))
          have HR6 := Kp.mk (HT6.out.own HR5.out (fun q hq hm => by have := (own_lt HR.out q hq).2; rw [List.mem_singleton.1 hm] at this; omega))
          have HM6 := Kp.mk (HM5.out.stepS HT6.out (by omega) (fun q hq hm => by have := HTB.out q hq; rw [List.mem_singleton.1 hm] at this; omega) (fun q hq => by rw [List.mem_singleton.1 hq]; omega))
          have hB6 := HM6.out.bel.size
          have X6 := box_set (i := 1) X2.out (.int .i64 ((sub o 0 (runD l ops (k + 1))).sum))
          obtain ⟨vv, hvv⟩ : ∃ vv, (sub o 0 (runD l ops (k + 1))).sum = vv := ⟨_, rfl⟩
          rw [hvv] at HR6 HM6 hB6 X6 HV ⊢
          clear HT6
          generalize (w5.setCell ⟨wr.heap.size + 1 + 1, 1, none⟩ (.int .i64 vv)) = w6 at *
          have HVV := Kp.mk hvv
          clear hvv
          have y0 : w6.cell? ⟨wr.heap.size + 1 + 1, 0, none⟩ = some (.int .i64 0) := X6.cell 0 rfl
          have y1 : w6.cell? ⟨wr.heap.size + 1 + 1, 1, none⟩ = some (.int .i64 vv) := X6.cell 1 rfl
          clear c0 c1 f1 kk0' X6
          go_wp2_with (at_builtin; refine wpList_pushS tReps rfl _ _ rfl w.heap.size xa k xc _ rfl HR6.out 1 _ rfl rfl ?b2 ?b3 (by decide) hB6 ?b5)
          case b2 => simp [Value.oneCell']
          case b3 => omega
          case b5 =>
            intro ya yc w7 hown7 hg7 hno7
            have HR7 := Kp.mk (show w7.ownsRow w.heap.size 204 2 (.slice ya (k + 1) yc) (k + 1) (flat repL (repsK l ops (k + 1))) from by
              rw [HRP.out, flat_append, HV.out]; exact hown7)
            have HM7 := Kp.mk (HM6.out.push HR6.out hg7 hB6 (by decide))
            clear hown7 hg7 hno7
            go_wp2
            go_roundw
            case rel => exact ⟨k + 1, ya, yc, T', by omega, by go_num, rfl, HR7, HM7⟩
            case measure => simp [intOf]; omega
        · skip
          have HV := Kp.mk (show replyOf o (runD l ops (k + 1)) = 0 from by unfold replyOf; rw [if_neg hk3, if_neg hk4])
          have z3' : ((o.kind : Int) == 3) = false := by simp only [beq_eq_false_iff_ne]; omega
          have z4' : ((o.kind : Int) == 4) = false := by simp only [beq_eq_false_iff_ne]; omega
          clear hk3 hk4
          go_upto_region 18 with (fail)
          obtain ⟨w6, hw6⟩ : ∃ w6, w6 = w5 := ⟨_, rfl⟩
          have HR6 := Kp.mk HR5.out
          have HM6 := Kp.mk HM5.out
          have hB6 := HM6.out.bel.size
          have X6 := X2.out
          obtain ⟨vv, hvv⟩ : ∃ vv : Int, vv = 0 := ⟨_, rfl⟩
          rw [← hvv] at HV
          rw [← hw6] at HR6 HM6 hB6 X6 ⊢
          rw [show (#[.int .i64 0, .int .i64 0] : Array Value) = #[.int .i64 0, .int .i64 vv] by rw [hvv]] at X6
          clear hw6 hvv
          have y0 : w6.cell? ⟨wr.heap.size + 1 + 1, 0, none⟩ = some (.int .i64 0) := X6.cell 0 rfl
          have y1 : w6.cell? ⟨wr.heap.size + 1 + 1, 1, none⟩ = some (.int .i64 vv) := X6.cell 1 rfl
          clear c0 c1 f1 kk0' X6
          go_wp2_with (at_builtin; refine wpList_pushS tReps rfl _ _ rfl w.heap.size xa k xc _ rfl HR6.out 1 _ rfl rfl ?b2 ?b3 (by decide) hB6 ?b5)
          case b2 => simp [Value.oneCell']
          case b3 => omega
          case b5 =>
            intro ya yc w7 hown7 hg7 hno7
            have HR7 := Kp.mk (show w7.ownsRow w.heap.size 204 2 (.slice ya (k + 1) yc) (k + 1) (flat repL (repsK l ops (k + 1))) from by
              rw [HRP.out, flat_append, HV.out]; exact hown7)
            have HM7 := Kp.mk (HM6.out.push HR6.out hg7 hB6 (by decide))
            clear hown7 hg7 hno7
            go_wp2
            go_roundw
            case rel => exact ⟨k + 1, ya, yc, T', by omega, by go_num, rfl, HR7, HM7⟩
            case measure => simp [intOf]; omega
    · obtain rfl : k = m := by omega
      have hDl := runD_length l ops k
      rw [HL.out] at hDl
      have hMb : 1048576 * (k + 1) ≤ 1000000000 := by omega
      obtain ⟨M, hMe⟩ : ∃ M, 1048576 * (k + 1) = M := ⟨_, rfl⟩
      rw [hMe] at hMb HM
      clear hMe
      have HDD := Kp.mk (show runD l ops k = runD l ops k from rfl)
      generalize hD : runD l ops k = D at *
      have HD := Kp.mk hD
      have HDL := Kp.mk hDl
      clear hD hDl HDD
      have hBw : w.heap.size ≤ wr.heap.size := HM.out.bel.size
      go_wp2_with (at_make; refine wpList_mk1 tInts rfl rfl _ _ rfl wr.heap.size n rfl rfl ?d1 (by decide) (Nat.le_refl _) ?d2)
      case d1 => omega
      case d2 =>
      intro ea ec w5 hown5 hb5
      obtain ⟨g, rfl, hg1, hg2⟩ := own_some hown5 (by omega)
      have HE0 := Kp.mk (show w5.ownsRow w.heap.size 3 1 (.slice (some ⟨g, 0, none⟩) n ec) n (ints (D.take 0 ++ List.replicate (n - 0) 0)) from by
        have := own_base (B := w.heap.size) hown5 hBw
        simpa [ints] using this)
      have HT5 := Kp.mk (Turned.of_below (S := []) hb5)
      have HM5 := Kp.mk (HM.out.step HT5.out hBw)
      have HR5 := Kp.mk (HT5.out.own HR.out (by simp))
      clear hown5 hb5
      go_wp2
      go_loopw [81] (fun i wr => ∃ (i' : Nat) (T : SgT), i' ≤ n ∧ i = .int .i64 i' ∧ Kp (wr.ownsRow w.heap.size 3 1 (.slice (some ⟨g, 0, none⟩) n ec) n (ints (D.take i' ++ List.replicate (n - i') 0))) ∧ Kp (wr.ownsRow w.heap.size 204 2 (.slice xa k xc) k (flat repL (repsK l ops k))) ∧ Kp (PlayMem w.heap.size rt M w wr T D)) (fun i _ => n - (intOf i).toNat)
      case atStart => exact ⟨0, T, Nat.zero_le _, rfl, HE0, HR5, HM5⟩
      case round =>
        clear HE0 HR5 HM5 HT5 HR HM
        obtain ⟨i, T, hi, rfl, HE, HR, HM⟩ := hrel
        by_cases hlt : i < n
        · have CA := Kp.mk (apply_any ⟨3, i, i, 0⟩ (Nat.le_succ 3) 0 (Nat.le_refl 0) T 0 (n - 1) M D wr HM.out.mem HM.out.nd HM.out.rep (by omega) (by rw [HDL.out]; omega) (by omega))
          rw [SgT.ptr, HM.out.root, sub_upd_ask _ ⟨show 3 ≠ 1 by decide, show 3 ≠ 2 by decide⟩, sub_at D i (by rw [HDL.out]; exact hlt)] at CA
          have hBw : w.heap.size ≤ wr.heap.size := HM.out.bel.size
          go_wp2_with fail
          rw [E1.out]
          refine CA.out.mono ?_
          rintro e w6 ⟨T', tb, tr, tm, tp, tu, te⟩
          unfold telled at te
          subst te
          have HM6 := Kp.mk (show PlayMem w.heap.size rt M w w6 T' D from ⟨tm, by rw [tb]; exact HM.out.nd, by rw [tb]; exact HM.out.ge, tp, by rw [tr]; exact HM.out.root, HM.out.bel.trans (tu.below hBw HM.out.ge)⟩)
          have HR6 := Kp.mk (own_turned HR.out tu HM.out.mem (by decide))
          have he6 := own_turned HE.out tu HM.out.mem (by decide)
          have c6 := he6.cellAt i (by omega)
          have f6 := he6.frozenAt i
          have hln : (D.take i ++ List.replicate (n - i) 0 : List Int).length = n := by
            rw [List.length_append, List.length_take, List.length_replicate, HDL.out]; omega
          rw [List.getElem?_eq_getElem (by rw [ints_length, hln]; exact hlt)] at c6
          have c6' : ∃ vv, w6.cell? ⟨g, i, none⟩ = some vv := ⟨_, c6⟩
          clear c6
          obtain ⟨vv, c6⟩ := c6'
          have hst := (he6.stored i (.int .i64 (D.getD i 0))).1
          rw [ints_set, show (D.take i ++ List.replicate (n - i) 0 : List Int).set i (D.getD i 0) = D.take (i + 1) ++ List.replicate (n - (i + 1)) 0 from by
            have h1 : (D.take i).length = i := by rw [List.length_take, HDL.out]; omega
            rw [List.set_append_right (h := by omega), h1, Nat.sub_self, show n - i = (n - (i + 1)) + 1 by omega, List.replicate_succ, List.set_cons_zero, List.take_succ_eq_append_getElem (by rw [HDL.out]; exact hlt), List.append_assoc, getD_at _ _ (by rw [HDL.out]; exact hlt)]
            rfl] at hst
          have HE7 := Kp.mk hst
          have HT7 := Kp.mk (show Turned [g] w6 (w6.setCell ⟨g, i, none⟩ (.int .i64 (D.getD i 0))) from (Turned.refl _ _).set g i _ (by simp))
          have hng : g ∉ T'.blocks := own_not he6 tm (by decide) g rfl
          have HM7 := Kp.mk (HM6.out.stepS HT7.out HM6.out.bel.size (fun q hq hm => hng (by rw [← List.mem_singleton.1 hm]; exact hq)) (fun q hq => by rw [List.mem_singleton.1 hq]; omega))
          have HR7 := Kp.mk (HT7.out.own HR6.out (fun q hq hm => by
            rw [List.mem_singleton.1 hm] at hq
            exact own_apart HR6.out he6 (by decide) g hq rfl))
          clear tb tr tm tp tu he6 hst hng hln CA HT7
          generalize D.getD i 0 = x at *
          have hmin : minL [x] = x := rfl
          go_wp2
          go_roundw
          case rel => exact ⟨i + 1, T', by omega, by go_num, HE7, HR7, HM7⟩
          case measure => simp [intOf]; omega
        · obtain rfl : i = n := by omega
          go_wp2
          refine bodyPost_ret (v := .tuple #[.slice xa k xc, .slice (some ⟨g, 0, none⟩) i ec, .int .i64 0]) (by simp [results, Try.results114, go_sem]) rfl ?_
          refine ⟨xa, xc, some ⟨g, 0, none⟩, ec, rfl, ⟨own_slc HR.out⟩, ⟨?_⟩, HM.out.bel⟩
          rw [HD.out]
          have := HE.out
          rw [Nat.sub_self, List.replicate_zero, List.append_nil, List.take_of_length_le (by rw [HDL.out]; exact Nat.le_refl _)] at this
          exact this

end Go.Proofs.Ytlmdlholmlbcbaa
