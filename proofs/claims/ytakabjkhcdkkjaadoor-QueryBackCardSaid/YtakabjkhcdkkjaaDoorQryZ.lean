/- QueryBack: the walk. -/
import Derived.Test.YtakabjkhcdkkjaaDoorQryY
import Derived.Test.YtakabjkhcdkkjaaDoorQryJ
import Derived.Test.YtakabjkhcdkkjaaDoorNumP
import Derived.OpenShut
namespace Go.Proofs.YtakabjkhcdkkjaaDoor
set_option linter.unusedVariables false
open Go.RowKit Qk

theorem raw_in {w : World} {a : Option Addr} {len cap : Nat} {zs : List Int} (h : IsRow .i64 w a len cap zs) : ∃ l, Raw w a len cap l := by
  obtain ⟨l, hl, hs, hw, _⟩ := row_sl h
  exact ⟨l, hs, hl.symm, fun z hz => wf_bd (hw z hz)⟩
theorem Wide.len {t u : List UInt8} (h : Wide t u) : u.length ≤ 3 * t.length := by
  induction h with
  | nil => simp
  | keep c h ih => simp only [List.length_append, List.length_cons, List.length_nil]; omega
  | more h ih => simp only [List.length_append, List.length_cons, List.length_nil]; omega

set_option maxRecDepth 100000 in
set_option maxHeartbeats 4000000 in
theorem qprint_any (x : Ex) (v : ExV) (w : World) (h : IsEx w x v) (hs : x.small) (hd : x.dep ≤ 8) (hl : x.txt.length ≤ 400) (hT : Tab w) :
    Calls Tryd.prog 6 #[.agg #[.int .i64 v.k, .int .i64 v.a, .int .i64 v.b, .int .i64 v.c, .int .i64 v.d, .int .i64 v.x, .slice v.sa v.n v.cap]] w fun e w' => e = .returned (.tuple #[str x.txt, .int .i64 0]) ∧ Kp (Below w.heap.size w w') := by
  have ha := below_alloc (Nat.le_refl w.heap.size) (.cells #[.int .i64 v.k, .int .i64 v.a, .int .i64 v.b, .int .i64 v.c, .int .i64 v.d, .int .i64 v.x, .slice v.sa v.n v.cap] 27)
  have hx := Box.new w #[.int .i64 v.k, .int .i64 v.a, .int .i64 v.b, .int .i64 v.c, .int .i64 v.d, .int .i64 v.x, .slice v.sa v.n v.cap] 27
  obtain ⟨t1, ht1⟩ : ∃ t1, w.heap.size = t1 := ⟨_, rfl⟩
  obtain ⟨w1, hw1⟩ : ∃ w1, w.alloc (.cells #[.int .i64 v.k, .int .i64 v.a, .int .i64 v.b, .int .i64 v.c, .int .i64 v.d, .int .i64 v.x, .slice v.sa v.n v.cap] 27) = w1 := ⟨_, rfl⟩
  rw [hw1] at ha hx
  rw [ht1] at hx
  have HX := Kp.mk hx
  have HA := Kp.mk ha
  have CC := Kp.mk (qcheck_any x v w1 (h.below ha) hs hd hl (hT.below ha))
  have CT := Kp.mk (fun (W : World) (hW : Below w1.heap.size w1 W) => text_any x v W ((h.below ha).below hW) hs (by omega) ((hT.below ha).below hW))
  have c0 : w1.cell? ⟨t1, 0, none⟩ = some (.int .i64 v.k) := hx.cell 0 rfl
  have c1 : w1.cell? ⟨t1, 1, none⟩ = some (.int .i64 v.a) := hx.cell 1 rfl
  have c2 : w1.cell? ⟨t1, 2, none⟩ = some (.int .i64 v.b) := hx.cell 2 rfl
  have c3 : w1.cell? ⟨t1, 3, none⟩ = some (.int .i64 v.c) := hx.cell 3 rfl
  have c4 : w1.cell? ⟨t1, 4, none⟩ = some (.int .i64 v.d) := hx.cell 4 rfl
  have c5 : w1.cell? ⟨t1, 5, none⟩ = some (.int .i64 v.x) := hx.cell 5 rfl
  have c6 : w1.cell? ⟨t1, 6, none⟩ = some (.slice v.sa v.n v.cap) := hx.cell 6 rfl
  clear h hs hd hl hT ha hx
  generalize x.txt = tx at *
  go_enter Tryd.func6, Tryd.ntmps6
  go_upto_region 1 with (fail)
  clear hw1 ht1
  go_wp2_with fail
  refine CC.out.mono ?_
  rintro e w2 ⟨rfl, hb2⟩
  have HB2 := Kp.mk hb2
  have CT2 := Kp.mk (CT.out w2 hb2)
  have hx2 := HX.out.below hb2
  clear c0 c1 c2 c3 c4 c5 c6 CC CT
  have c0 : w2.cell? ⟨t1, 0, none⟩ = some (.int .i64 v.k) := hx2.cell 0 rfl
  have c1 : w2.cell? ⟨t1, 1, none⟩ = some (.int .i64 v.a) := hx2.cell 1 rfl
  have c2 : w2.cell? ⟨t1, 2, none⟩ = some (.int .i64 v.b) := hx2.cell 2 rfl
  have c3 : w2.cell? ⟨t1, 3, none⟩ = some (.int .i64 v.c) := hx2.cell 3 rfl
  have c4 : w2.cell? ⟨t1, 4, none⟩ = some (.int .i64 v.d) := hx2.cell 4 rfl
  have c5 : w2.cell? ⟨t1, 5, none⟩ = some (.int .i64 v.x) := hx2.cell 5 rfl
  have c6 : w2.cell? ⟨t1, 6, none⟩ = some (.slice v.sa v.n v.cap) := hx2.cell 6 rfl
  clear hx2 hb2
  go_wp2_with fail
  refine CT2.out.mono ?_
  rintro e w3 ⟨rfl, hb3⟩
  have HB3 := Kp.mk (below_step HA.out (HB2.out.trans (hb3.mono HB2.out.size)))
  clear c0 c1 c2 c3 c4 c5 c6 CT2 hb3
  go_wp2
  refine bodyPost_ret (v := .tuple #[str tx, .int .i64 0]) (by simp [results, Tryd.results6, go_sem]) rfl ?_
  exact ⟨rfl, HB3⟩

set_option maxRecDepth 100000 in
set_option maxHeartbeats 32000000 in
theorem walk_QueryBack (a0 : Option Addr) (len0 cap0 : Nat) (z0 : List Int) (a1 : Int) (a2 : Int) (w : World) (w0 : IsRow .i64 w a0 len0 cap0 z0) (w1 : (Lit.int .i64 a1).wf = true) (w2 : (Lit.int .i64 a2).wf = true) (hT : Tab w) :
    Calls Tryd.prog 3 #[.slice a0 len0 cap0, .int .i64 a1, .int .i64 a2] w fun e w' => e = .returned (.bool true) ∧ Below w.heap.size w w' := by
  obtain ⟨l0, r0⟩ := raw_in w0
  obtain ⟨i1, i2⟩ := wf_bd w1
  obtain ⟨vd, ed, gd⟩ := pick_nat a1 3 (by omega)
  have CP := Kp.mk (fun W => picked_any a1 3 W (by omega) (by omega) i1 i2)
  rw [ed] at CP
  obtain ⟨dd, hdd⟩ : ∃ dd : Nat, 1 + vd = dd := ⟨_, rfl⟩
  have e1 : IntKind.i64.wrap (1 + (vd : Int)) = (dd : Int) := by rw [← hdd, Int.natCast_add]; exact IntWalk.i64_in _ (by omega)
  have hd3 : dd ≤ 3 := by omega
  have hd1 : 1 ≤ dd := by omega
  have CE := Kp.mk (show Calls Tryd.prog 4 #[.slice a0 len0 cap0, .int .i64 (dd : Int)] w fun e w' => ∃ (v : ExV) (x : Ex) (la' : Option Addr) (ln' lc' : Nat), e = .returned (.tuple #[.agg #[.int .i64 v.k, .int .i64 v.a, .int .i64 v.b, .int .i64 v.c, .int .i64 v.d, .int .i64 v.x, .slice v.sa v.n v.cap], .slice la' ln' lc']) ∧ Kp (IsEx w' x v) ∧ Kp (x.small ∧ x.dep ≤ 3) ∧ Kp (Below w.heap.size w w') from
    ((exprOf_any dd (by omega)) a0 len0 cap0 l0 w r0).mono fun e w' ⟨v, x, la', ln', lc', l', he, hx, hs, _, hb⟩ => ⟨v, x, la', ln', lc', he, ⟨hx.out.is⟩, ⟨hs.out.1, by have := hs.out.2; omega⟩, hb⟩)
  have HTB := Kp.mk hT
  have HW2 := Kp.mk w2
  clear w0 w1 w2 r0 i1 i2 ed hT hdd
  go_enter Tryd.func3, Tryd.ntmps3
  go_wp2_with (first
    | (go_at_call 5; refine (CP.out _).mono ?_; rintro e w' ⟨rfl, rfl⟩)
    | fail)
  refine CE.out.mono ?_
  rintro e w2 ⟨v, x, la', ln', lc', rfl, HX2, HSD, HB2⟩
  have hal := below_alloc (Nat.le_refl w2.heap.size) (.cells #[.int .i64 v.k, .int .i64 v.a, .int .i64 v.b, .int .i64 v.c, .int .i64 v.d, .int .i64 v.x, .slice v.sa v.n v.cap] 27)
  have hx3 := Box.new w2 #[.int .i64 v.k, .int .i64 v.a, .int .i64 v.b, .int .i64 v.c, .int .i64 v.d, .int .i64 v.x, .slice v.sa v.n v.cap] 27
  obtain ⟨t7, ht7⟩ : ∃ t7, w2.heap.size = t7 := ⟨_, rfl⟩
  obtain ⟨w3, hw3⟩ : ∃ w3, w2.alloc (.cells #[.int .i64 v.k, .int .i64 v.a, .int .i64 v.b, .int .i64 v.c, .int .i64 v.d, .int .i64 v.x, .slice v.sa v.n v.cap] 27) = w3 := ⟨_, rfl⟩
  rw [hw3] at hal hx3
  rw [ht7] at hx3
  have HB3 := Kp.mk (below_step HB2.out hal)
  have HX3 := Kp.mk (HX2.out.below hal)
  have HA3 := Kp.mk hx3
  have htl := Ex.txt_len x 3 HSD.out.1 HSD.out.2
  rw [show Ex.bnd 3 = 174 by decide] at htl
  have CPR := Kp.mk (qprint_any x v w3 HX3.out HSD.out.1 (by have := HSD.out.2; omega) (by omega) (HTB.out.below HB3.out))
  clear CP CE HX2 HB2 hal
  have c0 : w3.cell? ⟨t7, 0, none⟩ = some (.int .i64 v.k) := hx3.cell 0 rfl
  have c1 : w3.cell? ⟨t7, 1, none⟩ = some (.int .i64 v.a) := hx3.cell 1 rfl
  have c2 : w3.cell? ⟨t7, 2, none⟩ = some (.int .i64 v.b) := hx3.cell 2 rfl
  have c3 : w3.cell? ⟨t7, 3, none⟩ = some (.int .i64 v.c) := hx3.cell 3 rfl
  have c4 : w3.cell? ⟨t7, 4, none⟩ = some (.int .i64 v.d) := hx3.cell 4 rfl
  have c5 : w3.cell? ⟨t7, 5, none⟩ = some (.int .i64 v.x) := hx3.cell 5 rfl
  have c6 : w3.cell? ⟨t7, 6, none⟩ = some (.slice v.sa v.n v.cap) := hx3.cell 6 rfl
  clear hx3
  go_upto_region 2 with (fail)
  try rw [hw3]
  try simp only [ht7]
  clear hw3 ht7 e1
  go_wp2_with fail
  refine CPR.out.mono ?_
  rintro e w4 ⟨rfl, HB34⟩
  have HB4 := Kp.mk (below_step HB3.out HB34.out)
  have HX4 := Kp.mk (HX3.out.below HB34.out)
  have HA4 := Kp.mk (HA3.out.below HB34.out)
  obtain ⟨n, hn⟩ : ∃ n, x.txt.length = n := ⟨_, rfl⟩
  have hw := words_txt HSD.out.1
  have CPA := Kp.mk (parse_any x.txt n hn (by omega) x (fun w0 => by rw [hw]; exact (parsed w0 x HSD.out.1).or) HSD.out.1 (by have := HSD.out.2; omega) (by omega) w4 (HTB.out.below HB4.out))
  have CPB := Kp.mk (fun (u : List UInt8) (m : Nat) (hu : Wide x.txt u) (hm : ([32, 32, 40, 32] ++ u ++ [32, 41] : List UInt8).length = m) (hm4 : m ≤ 400) (W : World) (hW : Tab W) => parse_any ([32, 32, 40, 32] ++ u ++ [32, 41]) m hm hm4 x (fun w0 => by rw [words_wide HSD.out.1 hu]; exact parsed_wide w0 x HSD.out.1) HSD.out.1 (by have := HSD.out.2; omega) (by omega) W hW)
  have CSE := Kp.mk (fun (V U : ExV) (W : World) (h : IsEx W x V) (h' : IsEx W x U) => sameEx_any x V U W h h')
  rw [hn] at htl
  have HN := Kp.mk hn
  clear CPR HB3 HX3 HA3 HB34 c0 c1 c2 c3 c4 c5 c6 hw hn
  generalize x.txt = tx at *
  go_upto_region 5 with (fail)
  go_wp2_with fail
  refine CPA.out.mono ?_
  rintro e w5 ⟨v2, rfl, HV5, HB45⟩
  have hal := below_alloc (Nat.le_refl w5.heap.size) (.cells #[.int .i64 v2.k, .int .i64 v2.a, .int .i64 v2.b, .int .i64 v2.c, .int .i64 v2.d, .int .i64 v2.x, .slice v2.sa v2.n v2.cap] 27)
  have hx6 := Box.new w5 #[.int .i64 v2.k, .int .i64 v2.a, .int .i64 v2.b, .int .i64 v2.c, .int .i64 v2.d, .int .i64 v2.x, .slice v2.sa v2.n v2.cap] 27
  obtain ⟨t11, ht11⟩ : ∃ t11, w5.heap.size = t11 := ⟨_, rfl⟩
  obtain ⟨w6, hw6⟩ : ∃ w6, w5.alloc (.cells #[.int .i64 v2.k, .int .i64 v2.a, .int .i64 v2.b, .int .i64 v2.c, .int .i64 v2.d, .int .i64 v2.x, .slice v2.sa v2.n v2.cap] 27) = w6 := ⟨_, rfl⟩
  rw [hw6] at hal hx6
  rw [ht11] at hx6
  have hb46 := HB45.out.trans (hal.mono HB45.out.size)
  have HB6 := Kp.mk (below_step HB4.out hb46)
  have HX6 := Kp.mk (HX4.out.below hb46)
  have HA6 := Kp.mk (HA4.out.below hb46)
  have HV6 := Kp.mk (HV5.out.below hal)
  have ha6 := HA6.out
  have CS := Kp.mk (CSE.out v v2 w6 HX6.out HV6.out)
  have c0 : w6.cell? ⟨t7, 0, none⟩ = some (.int .i64 v.k) := ha6.cell 0 rfl
  have c1 : w6.cell? ⟨t7, 1, none⟩ = some (.int .i64 v.a) := ha6.cell 1 rfl
  have c2 : w6.cell? ⟨t7, 2, none⟩ = some (.int .i64 v.b) := ha6.cell 2 rfl
  have c3 : w6.cell? ⟨t7, 3, none⟩ = some (.int .i64 v.c) := ha6.cell 3 rfl
  have c4 : w6.cell? ⟨t7, 4, none⟩ = some (.int .i64 v.d) := ha6.cell 4 rfl
  have c5 : w6.cell? ⟨t7, 5, none⟩ = some (.int .i64 v.x) := ha6.cell 5 rfl
  have c6 : w6.cell? ⟨t7, 6, none⟩ = some (.slice v.sa v.n v.cap) := ha6.cell 6 rfl
  have d0 : w6.cell? ⟨t11, 0, none⟩ = some (.int .i64 v2.k) := hx6.cell 0 rfl
  have d1 : w6.cell? ⟨t11, 1, none⟩ = some (.int .i64 v2.a) := hx6.cell 1 rfl
  have d2 : w6.cell? ⟨t11, 2, none⟩ = some (.int .i64 v2.b) := hx6.cell 2 rfl
  have d3 : w6.cell? ⟨t11, 3, none⟩ = some (.int .i64 v2.c) := hx6.cell 3 rfl
  have d4 : w6.cell? ⟨t11, 4, none⟩ = some (.int .i64 v2.d) := hx6.cell 4 rfl
  have d5 : w6.cell? ⟨t11, 5, none⟩ = some (.int .i64 v2.x) := hx6.cell 5 rfl
  have d6 : w6.cell? ⟨t11, 6, none⟩ = some (.slice v2.sa v2.n v2.cap) := hx6.cell 6 rfl
  clear CPA HX4 HA4 HB4 hb46 HV5 HB45 hal ha6 hx6 HV6
  go_upto_region 6 with (fail)
  try rw [hw6]
  try simp only [ht11]
  clear hw6 ht11
  go_upto_region 8 with (first
    | (go_at_call 9; refine CS.out.mono ?_; rintro e w7 ⟨rfl, hb7⟩; have HB7 := Kp.mk (below_step HB6.out hb7); have HX7 := Kp.mk (HX6.out.below hb7); have HA7 := Kp.mk (HA6.out.below hb7); clear hb7)
    | fail)
  clear c0 c1 c2 c3 c4 c5 c6 d0 d1 d2 d3 d4 d5 d6 CS HB6 HX6 HA6
  have hsz : (⟨tx.toArray⟩ : ByteArray).size = n := by show tx.toArray.size = n; simpa using HN.out
  go_wp2
  go_loopw [13, 14] (fun sv iv wr => ∃ (k : Nat) (P u : List UInt8), k ≤ n ∧ P.length ≤ 4 + 3 * k ∧ iv = .int .i64 k ∧ sv = str P ∧ Kp (P = [32, 32, 40, 32] ++ u) ∧ Kp (Wide (tx.take k) u) ∧ Kp (Below w7.heap.size w7 wr)) (fun _ iv _ => n - (intOf iv).toNat)
  case atStart => exact ⟨0, [32, 32, 40, 32], [], Nat.zero_le _, by simp, rfl, rfl, ⟨rfl⟩, ⟨Wide.nil⟩, ⟨Below.refl _ _⟩⟩
  case round =>
    obtain ⟨k, P, u, hk, hPl, rfl, rfl, HPE, HWD, HBr⟩ := hrel
    have s0 : (⟨P.toArray⟩ : ByteArray).size ≤ 600 := str_size (by omega)
    by_cases hlt : k < n
    · have hkt : k < tx.length := by rw [HN.out]; exact hlt
      have hidx := str_idx tx k hkt
      have hext := str_ext tx k hkt
      have HTK := Kp.mk (List.take_succ_eq_append_getElem hkt)
      generalize tx[k] = c at *
      have s1 : (⟨#[c]⟩ : ByteArray).size ≤ 1 := by show (#[c] : Array UInt8).size ≤ 1; simp
      have hadd : (⟨P.toArray⟩ : ByteArray) ++ ⟨#[c]⟩ = ⟨(P ++ [c]).toArray⟩ := str_add P [c]
      obtain ⟨P1, hP1⟩ : ∃ P1, P ++ [c] = P1 := ⟨_, rfl⟩
      rw [hP1] at hadd
      have hl1 : P1.length = P.length + 1 := by rw [← hP1]; simp
      have s2 : (⟨P1.toArray⟩ : ByteArray).size ≤ 601 := str_size (by omega)
      have hadd2 : (⟨P1.toArray⟩ : ByteArray) ++ ⟨#[32, 32]⟩ = ⟨(P1 ++ [32, 32]).toArray⟩ := str_add P1 [32, 32]
      obtain ⟨P2, hP2⟩ : ∃ P2, P1 ++ [32, 32] = P2 := ⟨_, rfl⟩
      rw [hP2] at hadd2
      have hl2 : P2.length = P.length + 3 := by rw [← hP2, List.length_append, hl1]; rfl
      have s4 : (⟨P2.toArray⟩ : ByteArray).size ≤ 700 := str_size (by omega)
      have s3 : (⟨#[32, 32]⟩ : ByteArray).size ≤ 2 := by decide
      have HP1 := Kp.mk (show P1 = [32, 32, 40, 32] ++ (u ++ [c]) from by rw [← hP1, HPE.out, List.append_assoc])
      have HW1 := Kp.mk (show Wide (tx.take (k + 1)) (u ++ [c]) from by rw [HTK.out]; exact HWD.out.keep c)
      have HP2 := Kp.mk (show P2 = [32, 32, 40, 32] ++ (u ++ [c] ++ [32, 32]) from by rw [← hP2, HP1.out, List.append_assoc])
      obtain ⟨zz, hzz⟩ : ∃ zz, IntKind.i64.wrap (a2 + (k : Int)) = zz := ⟨_, rfl⟩
      obtain ⟨y1, y2⟩ := wf_bd (by have := wf_wrap .i64 (a2 + (k : Int)); rwa [hzz] at this)
      obtain ⟨q, hq, gq⟩ := pick_nat zz 3 (by omega)
      have CPK := Kp.mk (fun W => picked_any zz 3 W (by omega) (by omega) y1 y2)
      rw [hq] at CPK
      have HWD' := Kp.mk HWD.out.more
      clear hP1 hP2 hkt hq y1 y2 HWD HPE
      by_cases h32 : c = 32
      · have z1 : ((c.toNat : Int) == 32) = true := by rw [h32]; rfl
        have HW2 := Kp.mk (show Wide (tx.take (k + 1)) (u ++ [c] ++ [32, 32]) from by rw [HTK.out, h32]; exact HWD'.out)
        clear h32
        by_cases hq0 : q = 0
        · have hq1 : ((q : Int) == 0) = true := by rw [hq0]; rfl
          clear hq0
          go_wp2_with (first
            | (go_at_call 5; refine (CPK.out _).mono ?_; rintro e w' ⟨rfl, rfl⟩)
            | fail)
          go_roundw
          case rel => exact ⟨k + 1, P2, _, by omega, by omega, by go_num, rfl, HP2, HW2, HBr⟩
          case measure => simp [intOf]; omega
        · have hq1 : ((q : Int) == 0) = false := by rw [beq_eq_false_iff_ne]; omega
          clear hq0
          go_wp2_with (first
            | (go_at_call 5; refine (CPK.out _).mono ?_; rintro e w' ⟨rfl, rfl⟩)
            | fail)
          go_roundw
          case rel => exact ⟨k + 1, P1, _, by omega, by omega, by go_num, rfl, HP1, HW1, HBr⟩
          case measure => simp [intOf]; omega
      · have z1 : ((c.toNat : Int) == 32) = false := by
          rw [beq_eq_false_iff_ne]
          intro e
          exact h32 (UInt8.toNat_inj.1 (by have : c.toNat = 32 := by omega
                                           simpa using this))
        clear h32
        go_wp2
        go_roundw
        case rel => exact ⟨k + 1, P1, _, by omega, by omega, by go_num, rfl, HP1, HW1, HBr⟩
        case measure => simp [intOf]; omega
    · obtain rfl : k = n := by omega
      have HU := Kp.mk (show Wide tx u from by have := HWD.out; rwa [← HN.out, List.take_length] at this)
      have hadd : (⟨P.toArray⟩ : ByteArray) ++ ⟨#[32, 41]⟩ = ⟨(P ++ [32, 41]).toArray⟩ := str_add P [32, 41]
      obtain ⟨P3, hP3⟩ : ∃ P3, P ++ [32, 41] = P3 := ⟨_, rfl⟩
      rw [hP3] at hadd
      obtain ⟨m, hm⟩ : ∃ m, P3.length = m := ⟨_, rfl⟩
      have hPE := HPE.out
      have HP3 := Kp.mk (show [32, 32, 40, 32] ++ u ++ [32, 41] = P3 from by rw [← hP3, hPE])
      have hml : m ≤ 700 := by rw [← hm, ← hP3, List.length_append]; simp only [List.length_cons, List.length_nil]; omega
      have s3 : (⟨#[32, 41]⟩ : ByteArray).size ≤ 2 := by decide
      have hs4 : (⟨P3.toArray⟩ : ByteArray).size = m := by show P3.toArray.size = m; simpa using hm
      have HBw := Kp.mk (below_step HB7.out HBr.out)
      have HXr := Kp.mk (HX7.out.below HBr.out)
      have HAr := Kp.mk (HA7.out.below HBr.out)
      have HM := Kp.mk hm
      clear hP3 hPE HPE HWD HB7 HX7 HA7 HBr hm
      by_cases hm4 : m ≤ 400
      · have hz4 : (m : Int) ≤ 400 := by omega
        have C := Kp.mk (CPB.out u m HU.out (by rw [HP3.out]; exact HM.out) hm4 wr (HTB.out.below HBw.out))
        rw [HP3.out] at C
        go_upto_region 16 with (fail)
        go_wp2_with fail
        refine C.out.mono ?_
        rintro e w8 ⟨v3, rfl, HV8, HB8⟩
        have hal := below_alloc (Nat.le_refl w8.heap.size) (.cells #[.int .i64 v3.k, .int .i64 v3.a, .int .i64 v3.b, .int .i64 v3.c, .int .i64 v3.d, .int .i64 v3.x, .slice v3.sa v3.n v3.cap] 27)
        have hx9 := Box.new w8 #[.int .i64 v3.k, .int .i64 v3.a, .int .i64 v3.b, .int .i64 v3.c, .int .i64 v3.d, .int .i64 v3.x, .slice v3.sa v3.n v3.cap] 27
        obtain ⟨t15, ht15⟩ : ∃ t15, w8.heap.size = t15 := ⟨_, rfl⟩
        obtain ⟨w9, hw9⟩ : ∃ w9, w8.alloc (.cells #[.int .i64 v3.k, .int .i64 v3.a, .int .i64 v3.b, .int .i64 v3.c, .int .i64 v3.d, .int .i64 v3.x, .slice v3.sa v3.n v3.cap] 27) = w9 := ⟨_, rfl⟩
        rw [hw9] at hal hx9
        rw [ht15] at hx9
        have hb89 := HB8.out.trans (hal.mono HB8.out.size)
        have HB9 := Kp.mk (below_step HBw.out hb89)
        have ha9 := HAr.out.below hb89
        have CS := Kp.mk (CSE.out v v3 w9 (HXr.out.below hb89) (HV8.out.below hal))
        have c0 : w9.cell? ⟨t7, 0, none⟩ = some (.int .i64 v.k) := ha9.cell 0 rfl
        have c1 : w9.cell? ⟨t7, 1, none⟩ = some (.int .i64 v.a) := ha9.cell 1 rfl
        have c2 : w9.cell? ⟨t7, 2, none⟩ = some (.int .i64 v.b) := ha9.cell 2 rfl
        have c3 : w9.cell? ⟨t7, 3, none⟩ = some (.int .i64 v.c) := ha9.cell 3 rfl
        have c4 : w9.cell? ⟨t7, 4, none⟩ = some (.int .i64 v.d) := ha9.cell 4 rfl
        have c5 : w9.cell? ⟨t7, 5, none⟩ = some (.int .i64 v.x) := ha9.cell 5 rfl
        have c6 : w9.cell? ⟨t7, 6, none⟩ = some (.slice v.sa v.n v.cap) := ha9.cell 6 rfl
        have d0 : w9.cell? ⟨t15, 0, none⟩ = some (.int .i64 v3.k) := hx9.cell 0 rfl
        have d1 : w9.cell? ⟨t15, 1, none⟩ = some (.int .i64 v3.a) := hx9.cell 1 rfl
        have d2 : w9.cell? ⟨t15, 2, none⟩ = some (.int .i64 v3.b) := hx9.cell 2 rfl
        have d3 : w9.cell? ⟨t15, 3, none⟩ = some (.int .i64 v3.c) := hx9.cell 3 rfl
        have d4 : w9.cell? ⟨t15, 4, none⟩ = some (.int .i64 v3.d) := hx9.cell 4 rfl
        have d5 : w9.cell? ⟨t15, 5, none⟩ = some (.int .i64 v3.x) := hx9.cell 5 rfl
        have d6 : w9.cell? ⟨t15, 6, none⟩ = some (.slice v3.sa v3.n v3.cap) := hx9.cell 6 rfl
        clear C HBw HXr HAr HV8 HB8 hal hb89 ha9 hx9 CPB CSE
        go_upto_region 17 with (fail)
        try rw [hw9]
        try simp only [ht15]
        clear hw9 ht15
        go_wp2_with (first
          | (go_at_call 9; refine CS.out.mono ?_; rintro e w10 ⟨rfl, hb10⟩; have HBF := Kp.mk (below_step HB9.out hb10); clear hb10)
          | fail)
        go_ret
        exact ⟨rfl, HBF.out⟩
      · have hz4 : ¬ (m : Int) ≤ 400 := by omega
        have C := Kp.mk (parse_size P3 m HM.out (by omega) (by omega) wr)
        go_upto_region 16 with (fail)
        go_wp2_with fail
        refine C.out.mono ?_
        rintro e w8 ⟨rfl, HB8⟩
        have hal := below_alloc (Nat.le_refl w8.heap.size) (.cells #[.int .i64 0, .int .i64 0, .int .i64 0, .int .i64 0, .int .i64 0, .int .i64 0, .slice none 0 0] 27)
        have HB9 := Kp.mk (below_step HBw.out (HB8.out.trans (hal.mono HB8.out.size)))
        clear C HBw HXr HAr HB8 hal CPB CSE
        go_wp2
        go_ret
        exact ⟨rfl, HB9.out⟩

end Go.Proofs.YtakabjkhcdkkjaaDoor
