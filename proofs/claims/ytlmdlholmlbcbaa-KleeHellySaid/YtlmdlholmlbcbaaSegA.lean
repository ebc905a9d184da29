/- Package seg: the walk of apply. -/
import Derived.Test.YtlmdlholmlbcbaaSegT
namespace Go.Proofs.Ytlmdlholmlbcbaa
set_option linter.unusedVariables false
open Go.RowKit

theorem Rep.mid {acc M : Nat} {T : SgT} {D : List Int} (h : Rep acc M T D) (hM : M ≤ 1000000000) (hl : D.length ≤ 900) : T.nd.Mid ∧ -1000000000 ≤ T.nd.tgt ∧ T.nd.tgt ≤ 1000000000 ∧ -1000000000 ≤ T.nd.add ∧ T.nd.add ≤ 1000000000 := by
  obtain ⟨h1, h2, h3⟩ := h.own
  have hm := h.bd _ (minL_mem h.pos)
  have hs := sum_bd (fun x hx => show x.natAbs ≤ M from by have := h.bd x hx; omega)
  have hs2 := Nat.mul_le_mul hM hl
  rw [← h1] at hm
  rw [← h2] at hs
  exact ⟨⟨by omega, by omega, by omega, by omega, by omega, by omega⟩, by omega, by omega, by omega, by omega⟩

/-- What apply tells of the numbers on which it is. -/
def telled (s : List Int) (e : Ending) : Prop := e = .returned (.tuple #[.int .i64 (minL s), .int .i64 s.sum, .bool (!s.isEmpty)])

abbrev opV (o : SOp) : Value := .agg #[.int .i64 o.kind, .int .i64 o.lo, .int .i64 o.hi, .int .i64 o.amt]
abbrev opC (o : SOp) : Array Value := #[.int .i64 o.kind, .int .i64 o.lo, .int .i64 o.hi, .int .i64 o.amt]

set_option maxRecDepth 100000 in
set_option maxHeartbeats 1000000 in
theorem apply_out (o : SOp) (p : Option Addr) (lo hi : Nat) (w : World) (h : o.hi < lo ∨ hi < o.lo) :
    Calls Try.prog 160 #[.pointer p, opV o, .int .i64 lo, .int .i64 hi] w fun e w' => e = .returned (.tuple #[.int .i64 0, .int .i64 0, .bool false]) ∧ w' = w.alloc (.cells (opC o) 159) := by
  obtain ⟨kd, ol, oh, am⟩ := o
  by_cases h1 : oh < lo
  · have h1' : (oh : Int) < lo := by omega
    clear h h1
    go_enter Try.func160, Try.ntmps160
    go_wp2
    refine bodyPost_ret (v := .tuple #[.int .i64 0, .int .i64 0, .bool false]) (by simp [results, Try.results160, go_sem]) rfl ⟨rfl, rfl⟩
  · have h2 : hi < ol := by rcases h with h | h; exact absurd h h1; exact h
    have h1' : (lo : Int) ≤ oh := by omega
    have h2' : (hi : Int) < ol := by omega
    clear h h1 h2
    go_enter Try.func160, Try.ntmps160
    go_wp2
    refine bodyPost_ret (v := .tuple #[.int .i64 0, .int .i64 0, .bool false]) (by simp [results, Try.results160, go_sem]) rfl ⟨rfl, rfl⟩

/-- What the operation makes of a node that is wholly in it. -/
def SOp.node (o : SOp) (v : Nd) (n : Nat) : Nd := if o.kind = 1 then v.addTo o.amt n else if o.kind = 2 then Nd.setTo o.amt n else v

set_option maxRecDepth 100000 in
set_option maxHeartbeats 2000000 in
theorem apply_in (o : SOp) (hk : o.kind ≤ 4) (b n lo hi : Nat) (p q : Option Addr) (v : Nd) (w : World) (hb : Box w b (v.cells p q) 241) (h1 : o.lo ≤ lo) (h2 : hi ≤ o.hi) (hlh : lo ≤ hi) (hn : hi + 1 - lo = n) (hh : hi ≤ 800) (hy : -1000000000 ≤ o.amt ∧ o.amt ≤ 1000000000) (hv : v.Mid) :
    Calls Try.prog 160 #[.pointer (some ⟨b, 0, none⟩), opV o, .int .i64 lo, .int .i64 hi] w fun e w' => e = .returned (.tuple #[.int .i64 (o.node v n).least, .int .i64 (o.node v n).sum, .bool true]) ∧ Box w' b ((o.node v n).cells p q) 241 ∧ Turned [b] w w' := by
  obtain ⟨kd, ol, oh, am⟩ := o
  dsimp only at *
  have q1 : (lo : Int) ≤ oh := by omega
  have q2 : (ol : Int) ≤ hi := by omega
  have q3 : (ol : Int) ≤ lo := by omega
  have q4 : (hi : Int) ≤ oh := by omega
  have q5 : (hi : Int) - lo + 1 = n := by omega
  have hn' : n ≤ 1000 := by omega
  have HB := Kp.mk hb
  have hlt := hb.lt
  have HT := Kp.mk ((Turned.refl [b] w).alloc (.cells (opC ⟨kd, ol, oh, am⟩) 159))
  have HB1 := Kp.mk (hb.alloc (.cells (opC ⟨kd, ol, oh, am⟩) 159))
  clear hb hn h1 h2
  by_cases k1 : kd = 1
  · subst k1
    have HN := Kp.mk (show SOp.node ⟨1, ol, oh, am⟩ v n = v.addTo am n from by simp [SOp.node])
    go_enter Try.func160, Try.ntmps160
    go_wp2_with fail
    refine (do_add b p q v _ _ am n _ HB1.out hy hn' hv.all).mono ?_
    rintro e w2 ⟨rfl, hb2, ht2⟩
    have HT2 := Kp.mk (HT.out.trans ht2)
    have k0 : w2.cell? ⟨b, 0, none⟩ = some (.int .i64 (v.addTo am n).least) := hb2.cell 0 rfl
    have k1 : w2.cell? ⟨b, 1, none⟩ = some (.int .i64 (v.addTo am n).sum) := hb2.cell 1 rfl
    have HB2 := Kp.mk hb2
    rw [← HN.out] at k0 k1
    have HB3 := Kp.mk (show Box w2 b ((SOp.node ⟨1, ol, oh, am⟩ v n).cells p q) 241 from by rw [HN.out]; exact HB2.out)
    clear ht2 hb2
    obtain ⟨u, hu⟩ : ∃ u, SOp.node ⟨1, ol, oh, am⟩ v n = u := ⟨_, rfl⟩
    rw [hu] at k0 k1 HB3
    have HU := Kp.mk hu
    clear hu
    go_wp2
    go_quiet (fail)
    go_wp2
    refine bodyPost_ret (v := .tuple #[.int .i64 u.least, .int .i64 u.sum, .bool true]) (by simp [results, Try.results160, go_sem]) rfl (by rw [HU.out]; exact ⟨rfl, HB3.out, HT2.out.drewN _⟩)
  · by_cases k2 : kd = 2
    · subst k2
      have HN := Kp.mk (show SOp.node ⟨2, ol, oh, am⟩ v n = Nd.setTo am n from by simp [SOp.node])
      clear k1
      go_enter Try.func160, Try.ntmps160
      go_wp2_with fail
      refine (do_set b p q v _ _ am n _ HB1.out hy hn').mono ?_
      rintro e w2 ⟨rfl, hb2, ht2⟩
      have HT2 := Kp.mk (HT.out.trans ht2)
      have k0 : w2.cell? ⟨b, 0, none⟩ = some (.int .i64 (Nd.setTo am n).least) := hb2.cell 0 rfl
      have k1 : w2.cell? ⟨b, 1, none⟩ = some (.int .i64 (Nd.setTo am n).sum) := hb2.cell 1 rfl
      have HB2 := Kp.mk hb2
      rw [← HN.out] at k0 k1
      have HB3 := Kp.mk (show Box w2 b ((SOp.node ⟨2, ol, oh, am⟩ v n).cells p q) 241 from by rw [HN.out]; exact HB2.out)
      clear ht2 hb2
      obtain ⟨u, hu⟩ : ∃ u, SOp.node ⟨2, ol, oh, am⟩ v n = u := ⟨_, rfl⟩
      rw [hu] at k0 k1 HB3
      have HU := Kp.mk hu
      clear hu
      go_wp2
      go_quiet (fail)
      go_wp2
      refine bodyPost_ret (v := .tuple #[.int .i64 u.least, .int .i64 u.sum, .bool true]) (by simp [results, Try.results160, go_sem]) rfl (by rw [HU.out]; exact ⟨rfl, HB3.out, HT2.out.drewN _⟩)
    · have HN := Kp.mk (show SOp.node ⟨kd, ol, oh, am⟩ v n = v from by simp [SOp.node, k1, k2])
      have z1 : ((kd : Int) == 1) = false := by simp only [beq_eq_false_iff_ne]; omega
      have z2 : ((kd : Int) == 2) = false := by simp only [beq_eq_false_iff_ne]; omega
      have HB3 := Kp.mk (show Box (w.alloc (.cells (opC ⟨kd, ol, oh, am⟩) 159)) b ((SOp.node ⟨kd, ol, oh, am⟩ v n).cells p q) 241 from by rw [HN.out]; exact HB1.out)
      have k0 : (w.alloc (.cells (opC ⟨kd, ol, oh, am⟩) 159)).cell? ⟨b, 0, none⟩ = some (.int .i64 (SOp.node ⟨kd, ol, oh, am⟩ v n).least) := HB3.out.cell 0 rfl
      have k1 : (w.alloc (.cells (opC ⟨kd, ol, oh, am⟩) 159)).cell? ⟨b, 1, none⟩ = some (.int .i64 (SOp.node ⟨kd, ol, oh, am⟩ v n).sum) := HB3.out.cell 1 rfl
      clear k2 HN
      generalize SOp.node ⟨kd, ol, oh, am⟩ v n = u at *
      go_enter Try.func160, Try.ntmps160
      go_wp2
      go_quiet (fail)
      go_wp2
      refine bodyPost_ret (v := .tuple #[.int .i64 u.least, .int .i64 u.sum, .bool true]) (by simp [results, Try.results160, go_sem]) rfl ⟨rfl, HB3.out, HT.out.drewN _⟩

/-- What is known of a call of apply: its tree stands for D behind it. -/
def AppPost (M : Nat) (T : SgT) (D s : List Int) (w : World) (e : Ending) (w' : World) : Prop :=
  ∃ T', T'.blocks = T.blocks ∧ T'.root = T.root ∧ InMem w' T' ∧ Rep 0 M T' D ∧ Turned T.blocks w w' ∧ telled s e
theorem sum_small {M n : Nat} {D : List Int} (h : ∀ x ∈ D, x.natAbs ≤ M) (hM : M ≤ 1000000000) (hl : D.length ≤ n) (hn : n ≤ 900) : D.sum.natAbs ≤ 900000000000 := by
  have h1 := sum_bd h
  have h2 := Nat.mul_le_mul hM (Nat.le_trans hl hn)
  omega
theorem box_ptrs {w : World} {b : Nat} {u v : Nd} {p q p' q' : Option Addr} {t : TypeId} (h : Box w b (v.cells p q) t) (h' : Box w b (u.cells p' q') t) : p = p' ∧ q = q' := by
  have e := h.symm.trans h'
  simp [Nd.cells] at e
  exact ⟨e.2.2.2.2.2.1, e.2.2.2.2.2.2⟩
theorem InMem.drew {w : World} {T : SgT} (h : InMem w T) : InMem w.drew T := h.keep (S := []) ((Turned.refl [] w).drew) (by simp)
theorem isEmpty_append' (A B : List Int) : (A ++ B).isEmpty = (A.isEmpty && B.isEmpty) := by cases A <;> simp

set_option maxRecDepth 100000 in
set_option maxHeartbeats 4000000 in
theorem apply_part (o : SOp) (b n1 n2 lo mid hi M : Nat) (v : Nd) (l r : SgT) (A B sa sb : List Int) (w : World) (hM : InMem w (.node b v l r)) (hN : (SgT.node b v l r).blocks.Nodup) (h1 : o.lo ≤ hi) (h2 : lo ≤ o.hi) (h3 : lo < o.lo ∨ o.hi < hi)
    (hm : lo ≤ mid ∧ mid < hi ∧ hi ≤ 800 ∧ mid - lo + 1 = n1 ∧ hi - mid = n2 ∧ mid = (lo + hi) / 2) (ht : -1000000000 ≤ v.tgt ∧ v.tgt ≤ 1000000000) (ha : -1000000000 ≤ v.add ∧ v.add ≤ 1000000000) (ml : l.nd.Mid) (mr : r.nd.Mid)
    (cl : ∀ w1, InMem w1 (l.with (told v l.nd n1)) → Calls Try.prog 160 #[.pointer l.ptr, opV o, .int .i64 lo, .int .i64 mid] w1 (AppPost M (l.with (told v l.nd n1)) A sa w1))
    (cr : ∀ w1, InMem w1 (r.with (told v r.nd n2)) → Calls Try.prog 160 #[.pointer r.ptr, opV o, .int .i64 ((mid : Int) + 1), .int .i64 hi] w1 (AppPost M (r.with (told v r.nd n2)) B sb w1))
    (hMM : M ≤ 1000000000) (hA : A.length = n1) (hB : B.length = n2) (hsa : sa.sum.natAbs ≤ 900000000000) (hsb : sb.sum.natAbs ≤ 900000000000) :
    Calls Try.prog 160 #[.pointer (some ⟨b, 0, none⟩), opV o, .int .i64 lo, .int .i64 hi] w (AppPost M (.node b v l r) (A ++ B) (sa ++ sb) w) := by
  obtain ⟨m1, m2, m3, m4, m5, m6⟩ := hm
  obtain ⟨d1, d2, d3, nl, nr, dl, dr⟩ := hM.ptrs hN
  have lt := hM.lt
  have HM := Kp.mk hM
  obtain ⟨kd, ol, oh, am⟩ := o
  dsimp only at h1 h2 h3
  have b1 := Kp.mk (hM.1.alloc (.cells (opC ⟨kd, ol, oh, am⟩) 159))
  obtain ⟨p1, q1, hl⟩ := hM.2.1.root
  obtain ⟨p2, q2, hr⟩ := hM.2.2.root
  have b2 := Kp.mk (hl.alloc (.cells (opC ⟨kd, ol, oh, am⟩) 159))
  have b3 := Kp.mk (hr.alloc (.cells (opC ⟨kd, ol, oh, am⟩) 159))
  have hblt : b < w.heap.size := lt b (by simp [SgT.blocks])
  have hllt : ∀ k ∈ l.blocks, k < w.heap.size := fun k hk => lt k (by simp [SgT.blocks, hk])
  have hrlt : ∀ k ∈ r.blocks, k < w.heap.size := fun k hk => lt k (by simp [SgT.blocks, hk])
  have hlr := hllt _ l.root_mem
  have hrr := hrlt _ r.root_mem
  have HT0 := Kp.mk ((Turned.refl ([] : List Nat) w).alloc (.cells (opC ⟨kd, ol, oh, am⟩) 159))
  have HO := Kp.mk (Box.new w (opC ⟨kd, ol, oh, am⟩) 159)
  have q1' : (ol : Int) ≤ hi := by omega
  have q2' : (lo : Int) ≤ oh := by omega
  have e6 : ((lo : Int) + hi) / 2 = mid := by omega
  have ew : IntKind.i64.wrap ((mid : Int) + 1) = (mid : Int) + 1 := IntWalk.i64_in _ (by omega)
  have CT := Kp.mk (tell_any b l.root r.root n1 n2 lo mid hi p1 q1 p2 q2 v l.nd r.nd _ b1.out b2.out b3.out d1 d2 d3 ⟨m1, by omega, by omega, m4, m5⟩ ht ha ml mr)
  have CL := Kp.mk cl
  have CR := Kp.mk cr
  have HD := Kp.mk (show (∀ k ∈ l.blocks, k ≠ b ∧ k ∉ r.blocks) ∧ (∀ k ∈ r.blocks, k ≠ b) ∧ l.blocks.Nodup ∧ r.blocks.Nodup from ⟨dl, dr, nl, nr⟩)
  have HLT := Kp.mk (show (∀ k ∈ l.blocks, k < w.heap.size) ∧ (∀ k ∈ r.blocks, k < w.heap.size) from ⟨hllt, hrlt⟩)
  have HSA := Kp.mk hsa
  have HSB := Kp.mk hsb
  have HA := Kp.mk hA
  have HBB := Kp.mk hB
  have M6 := Kp.mk (show n1 + n2 = hi + 1 - lo ∧ n1 = (n1 + n2 + 1) / 2 ∧ n1 + n2 ≤ 801 from by omega)
  clear hM hN hl hr cl cr dl dr nl nr lt hllt hrlt hsa hsb hA hB m4 m5 m6
  have hdec : ((ol : Int) ≤ lo ∧ ¬ (hi : Int) ≤ oh) ∨ ¬ (ol : Int) ≤ lo := by omega
  rcases hdec with ⟨g1, g2⟩ | g1
  all_goals
    go_enter Try.func160, Try.ntmps160
    go_wp2_with fail
    refine CT.out.mono ?_
    rintro e w2 ⟨rfl, t1, t2, t3, tt⟩
    have hl2 : InMem w2 (l.with (told v l.nd n1)) := (HM.out.2.1.keep (S := []) HT0.out (by simp)).with tt HD.out.2.2.1 (fun k hk hne hm => by
      simp only [List.mem_cons, List.not_mem_nil, or_false] at hm
      rcases hm with e | e | e
      · exact (HD.out.1 k hk).1 e
      · exact hne e
      · exact (HD.out.1 k hk).2 (by rw [e]; exact r.root_mem)) (fun p q hb => by
        obtain ⟨e1, e2⟩ := box_ptrs hb b2.out
        rw [e1, e2]; exact t2)
    have hr2 : InMem w2 (r.with (told v r.nd n2)) := (HM.out.2.2.keep (S := []) HT0.out (by simp)).with tt HD.out.2.2.2 (fun k hk hne hm => by
      simp only [List.mem_cons, List.not_mem_nil, or_false] at hm
      rcases hm with e | e | e
      · exact HD.out.2.1 k hk e
      · exact (HD.out.1 l.root l.root_mem).2 (by rw [← e]; exact hk)
      · exact hne e) (fun p q hb => by
        obtain ⟨e1, e2⟩ := box_ptrs hb b3.out
        rw [e1, e2]; exact t3)
    have HT2 := Kp.mk (show Turned (SgT.node b v l r).blocks w w2 from (HT0.out.weak (by simp)).trans (tt.weak (fun k hk => by
      simp only [List.mem_cons, List.not_mem_nil, or_false] at hk
      rcases hk with e | e | e <;> subst e <;> simp [SgT.blocks, SgT.root_mem])))
    have HO2 := Kp.mk (tt.box HO.out (fun hm => by
      simp only [List.mem_cons, List.not_mem_nil, or_false] at hm
      omega))
    have HB2 := Kp.mk t1
    have k5 : w2.cell? ⟨b, 5, none⟩ = some (.pointer l.ptr) := t1.cell 5 rfl
    have o0 : w2.cell? ⟨w.heap.size, 0, none⟩ = some (.int .i64 kd) := HO2.out.cell 0 rfl
    have o1 : w2.cell? ⟨w.heap.size, 1, none⟩ = some (.int .i64 ol) := HO2.out.cell 1 rfl
    have o2 : w2.cell? ⟨w.heap.size, 2, none⟩ = some (.int .i64 oh) := HO2.out.cell 2 rfl
    have o3 : w2.cell? ⟨w.heap.size, 3, none⟩ = some (.int .i64 am) := HO2.out.cell 3 rfl
    have HL2 := Kp.mk hl2
    have HR2 := Kp.mk hr2
    clear t1 t2 t3 tt hl2 hr2
    have C2 := Kp.mk ((CL.out w2.drew HL2.out.drew).mono (R' := fun e w3 => e = .returned (.tuple #[.int .i64 (minL sa), .int .i64 sa.sum, .bool (!sa.isEmpty)]) ∧ (w3.cell? ⟨b, 5, none⟩ = some (.pointer l.ptr) ∧ w3.cell? ⟨w.heap.size, 0, none⟩ = some (.int .i64 kd) ∧ w3.cell? ⟨w.heap.size, 1, none⟩ = some (.int .i64 ol) ∧ w3.cell? ⟨w.heap.size, 2, none⟩ = some (.int .i64 oh) ∧ w3.cell? ⟨w.heap.size, 3, none⟩ = some (.int .i64 am)) ∧
        Kp (∃ T', T'.blocks = l.blocks ∧ T'.root = l.root ∧ InMem w3 T' ∧ Rep 0 M T' A ∧ Turned l.blocks w2 w3)) (fun e w3 h => by
      obtain ⟨T', tb, tr, tm, tp, tu, te⟩ := h
      rw [SgT.with_blocks] at tb tu
      rw [SgT.with_root] at tr
      have tu' : Turned l.blocks w2 w3 := ((Turned.refl _ w2).drew).trans tu
      have hb3 := tu'.box HB2.out (fun hm => (HD.out.1 b hm).1 rfl)
      have ho3 := tu'.box HO2.out (fun hm => by have := HLT.out.1 _ hm; omega)
      exact ⟨te, ⟨hb3.cell 5 rfl, ho3.cell 0 rfl, ho3.cell 1 rfl, ho3.cell 2 rfl, ho3.cell 3 rfl⟩, ⟨T', tb, tr, tm, tp, tu'⟩⟩))
    generalize hga : (!sa.isEmpty) = ba at *
    have HGA := Kp.mk hga
    clear hga
    go_wp2
    go_region_held3 (fun w' => w'.cell? ⟨b, 5, none⟩ = some (.pointer l.ptr) ∧ w'.cell? ⟨w.heap.size, 0, none⟩ = some (.int .i64 kd) ∧ w'.cell? ⟨w.heap.size, 1, none⟩ = some (.int .i64 ol) ∧ w'.cell? ⟨w.heap.size, 2, none⟩ = some (.int .i64 oh) ∧ w'.cell? ⟨w.heap.size, 3, none⟩ = some (.int .i64 am))
      (first | exact ⟨k5, o0, o1, o2, o3⟩ | exact hS3)
      ((go_at_call 160; refine C2.out.mono ?_; rintro e w3 ⟨rfl, hS3, HK3⟩))
    obtain ⟨Tl, tb3, tr3, tm3, tp3, tu3⟩ := HK3.out
    have HB3 := Kp.mk (tu3.box HB2.out (fun hm => (HD.out.1 b hm).1 rfl))
    have HO3 := Kp.mk (tu3.box HO2.out (fun hm => by have := HLT.out.1 _ hm; omega))
    have HR3 := Kp.mk (HR2.out.keep tu3 (fun k hk hm => (HD.out.1 k hm).2 (by rw [SgT.with_blocks] at hk; exact hk)))
    have HT3 := Kp.mk (show Turned (SgT.node b v l r).blocks w w3 from HT2.out.trans (tu3.weak (fun k hk => by simp [SgT.blocks, hk])))
    have k6 : w3.cell? ⟨b, 6, none⟩ = some (.pointer r.ptr) := HB3.out.cell 6 rfl
    have o0' : w3.cell? ⟨w.heap.size, 0, none⟩ = some (.int .i64 kd) := HO3.out.cell 0 rfl
    have o1' : w3.cell? ⟨w.heap.size, 1, none⟩ = some (.int .i64 ol) := HO3.out.cell 1 rfl
    have o2' : w3.cell? ⟨w.heap.size, 2, none⟩ = some (.int .i64 oh) := HO3.out.cell 2 rfl
    have o3' : w3.cell? ⟨w.heap.size, 3, none⟩ = some (.int .i64 am) := HO3.out.cell 3 rfl
    have C3 := Kp.mk ((CR.out w3.drew HR3.out.drew).mono (R' := fun e w4 => e = .returned (.tuple #[.int .i64 (minL sb), .int .i64 sb.sum, .bool (!sb.isEmpty)]) ∧ (w4.cell? ⟨b, 6, none⟩ = some (.pointer r.ptr) ∧ w4.cell? ⟨w.heap.size, 0, none⟩ = some (.int .i64 kd) ∧ w4.cell? ⟨w.heap.size, 1, none⟩ = some (.int .i64 ol) ∧ w4.cell? ⟨w.heap.size, 2, none⟩ = some (.int .i64 oh) ∧ w4.cell? ⟨w.heap.size, 3, none⟩ = some (.int .i64 am)) ∧
        Kp (∃ T', T'.blocks = r.blocks ∧ T'.root = r.root ∧ InMem w4 T' ∧ Rep 0 M T' B ∧ Turned r.blocks w3 w4)) (fun e w4 h => by
      obtain ⟨T', tb, tr, tm, tp, tu, te⟩ := h
      rw [SgT.with_blocks] at tb tu
      rw [SgT.with_root] at tr
      have tu' : Turned r.blocks w3 w4 := ((Turned.refl _ w3).drew).trans tu
      have hb3 := tu'.box HB3.out (fun hm => HD.out.2.1 b hm rfl)
      have ho3 := tu'.box HO3.out (fun hm => by have := HLT.out.2 _ hm; omega)
      exact ⟨te, ⟨hb3.cell 6 rfl, ho3.cell 0 rfl, ho3.cell 1 rfl, ho3.cell 2 rfl, ho3.cell 3 rfl⟩, ⟨T', tb, tr, tm, tp, tu'⟩⟩))
    generalize hgb : (!sb.isEmpty) = bb at *
    have HGB := Kp.mk hgb
    have HTL := Kp.mk (show Tl.blocks = l.blocks ∧ Tl.root = l.root ∧ InMem w3 Tl ∧ Rep 0 M Tl A from ⟨tb3, tr3, tm3, tp3⟩)
    clear hgb hS3 HK3 tb3 tr3 tm3 tp3 tu3 k5 o0 o1 o2 o3 C2
    go_wp2
    go_region_held3 (fun w' => w'.cell? ⟨b, 6, none⟩ = some (.pointer r.ptr) ∧ w'.cell? ⟨w.heap.size, 0, none⟩ = some (.int .i64 kd) ∧ w'.cell? ⟨w.heap.size, 1, none⟩ = some (.int .i64 ol) ∧ w'.cell? ⟨w.heap.size, 2, none⟩ = some (.int .i64 oh) ∧ w'.cell? ⟨w.heap.size, 3, none⟩ = some (.int .i64 am))
      (first | exact ⟨k6, o0', o1', o2', o3'⟩ | exact hS4)
      ((go_at_call 160; refine C3.out.mono ?_; rintro e w4 ⟨rfl, hS4, HK4⟩))
    obtain ⟨Tr, tb4, tr4, tm4, tp4, tu4⟩ := HK4.out
    obtain ⟨lb, lr, lm, lp⟩ := HTL.out
    have lm4 : InMem w4 Tl := lm.keep tu4 (fun k hk => by rw [lb] at hk; exact (HD.out.1 k hk).2)
    obtain ⟨x1, y1, hx1⟩ := lm4.root
    obtain ⟨x2, y2, hx2⟩ := tm4.root
    have hb4 := tu4.box HB3.out (fun hm => HD.out.2.1 b hm rfl)
    have HT4 := Kp.mk (show Turned (SgT.node b v l r).blocks w w4 from HT3.out.trans (tu4.weak (fun k hk => by simp [SgT.blocks, hk])))
    have hs1 := sum_bd (fun x hx => show x.natAbs ≤ M from by have := lp.bd x hx; omega)
    have hs2 := sum_bd (fun x hx => show x.natAbs ≤ M from by have := tp4.bd x hx; omega)
    rw [HA.out] at hs1
    rw [HBB.out] at hs2
    have hs3 := Nat.mul_le_mul hMM (show n1 + n2 ≤ 900 by have := M6.out; omega)
    rw [Nat.mul_add] at hs3
    have hlr' : l.ptr = some ⟨Tl.root, 0, none⟩ := by rw [SgT.ptr, lr]
    have hrr' : r.ptr = some ⟨Tr.root, 0, none⟩ := by rw [SgT.ptr, tr4]
    rw [← lr, ← tr4] at hb4
    have ho1 := lp.own
    have ho2 := tp4.own
    have CG := Kp.mk (gather_any b Tl.root Tr.root x1 y1 x2 y2 _ Tl.nd Tr.nd w4 hb4 hx1 hx2 (by rw [lr]; exact d1) (by rw [tr4]; exact d2) (by rw [ho1.2.1, ho2.2.1]; omega))
    have HP4 := Kp.mk (show Tr.blocks = r.blocks ∧ Tr.root = r.root ∧ InMem w4 Tr ∧ Rep 0 M Tr B ∧ InMem w4 Tl from ⟨tb4, tr4, tm4, tp4, lm4⟩)
    have HLR := Kp.mk hlr'
    have HRR := Kp.mk hrr'
    clear hs1 hs2 hs3 hlr' hrr' ho1 ho2 hb4 hx1 hx2 tb4 tr4 tm4 tp4 lm4 lb lr lm lp tu4 hS4 HK4 C3 k6 o0' o1' o2' o3' ew
    go_wp2_with fail
    refine CG.out.mono ?_
    rintro e w5 ⟨rfl, hb5, ht5⟩
    have HFIN := Kp.mk (show ∃ T', T'.blocks = (SgT.node b v l r).blocks ∧ T'.root = (SgT.node b v l r).root ∧ InMem w5 T' ∧ Rep 0 M T' (A ++ B) ∧ Turned (SgT.node b v l r).blocks w w5 from by
      obtain ⟨rb, rr, rm, rp, lm5⟩ := HP4.out
      obtain ⟨lb, lr, lm, lp⟩ := HTL.out
      refine ⟨.node b (gath Tl.nd Tr.nd) Tl Tr, by simp [SgT.blocks, lb, rb], rfl, ⟨?_, lm5.keep ht5 (fun k hk hm => ?_), rm.keep ht5 (fun k hk hm => ?_)⟩, lp.gath rp (by rw [HA.out, HBB.out]; have := M6.out; omega), HT4.out.trans (ht5.weak (fun k hk => by simp at hk; subst hk; simp [SgT.blocks]))⟩
      · exact hb5
      · rw [lb] at hk; exact (HD.out.1 k hk).1 (List.mem_singleton.1 hm)
      · rw [rb] at hk; exact HD.out.2.1 k hk (List.mem_singleton.1 hm))
    clear hb5 ht5 CG
    have hsa := HSA.out
    have hsb := HSB.out
    by_cases ea : sa = []
    · have hba : ba = false := by rw [← HGA.out, ea]; rfl
      have EA := Kp.mk ea
      clear ea
      subst hba
      go_wp2
      refine bodyPost_ret (v := .tuple #[.int .i64 (minL sb), .int .i64 sb.sum, .bool bb]) (by simp [results, Try.results160, go_sem]) rfl ?_
      obtain ⟨T', g1, g2, g3, g4, g5⟩ := HFIN.out
      exact ⟨T', g1, g2, g3, g4, g5, by unfold telled; rw [EA.out, List.nil_append, HGB.out]⟩
    · have hba : ba = true := by rw [← HGA.out]; simpa using ea
      subst hba
      by_cases eb : sb = []
      · have hbb : bb = false := by rw [← HGB.out, eb]; rfl
        have EA := Kp.mk ea
        have EB := Kp.mk eb
        clear ea eb
        subst hbb
        go_wp2
        refine bodyPost_ret (v := .tuple #[.int .i64 (minL sa), .int .i64 sa.sum, .bool true]) (by simp [results, Try.results160, go_sem]) rfl ?_
        obtain ⟨T', g1, g2, g3, g4, g5⟩ := HFIN.out
        exact ⟨T', g1, g2, g3, g4, g5, by unfold telled; rw [EB.out, List.append_nil, HGA.out]⟩
      · have hbb : bb = true := by rw [← HGB.out]; simpa using eb
        have EM := Kp.mk (minL_append ea eb)
        have EA := Kp.mk ea
        clear ea eb
        subst hbb
        go_wp2
        all_goals
          refine bodyPost_ret (v := .tuple #[.int .i64 (minL (sa ++ sb)), .int .i64 (sa ++ sb).sum, .bool true]) ?_ rfl ?_
          · rw [EM.out, List.sum_append]
            first
              | rw [show min (minL sa) (minL sb) = minL sb by omega]
              | rw [show min (minL sa) (minL sb) = minL sa by omega]
            simp [results, Try.results160, go_sem]
          · obtain ⟨T', g1, g2, g3, g4, g5⟩ := HFIN.out
            exact ⟨T', g1, g2, g3, g4, g5, by unfold telled; rw [isEmpty_append', show (sa.isEmpty && sb.isEmpty) = false by have := HGA.out; revert this; cases sa.isEmpty <;> simp]; rfl⟩

end Go.Proofs.Ytlmdlholmlbcbaa
