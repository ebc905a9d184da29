/- The walk of FenUndone. -/
import Derived.Test.YtjofajpcchncpaaFen
import Derived.Test.YtjofajpcchncpaaSgn
namespace Go.Proofs.Ytjofajpcchncpaa
set_option linter.unusedVariables false
open Go.RowKit

theorem addT_bd (t : List Int) (p : Nat) (b K L : Int) (h : ∀ x ∈ t, -K ≤ x ∧ x ≤ K) (hb1 : -L ≤ b) (hb2 : b ≤ L) (hL : 0 ≤ L) : ∀ x ∈ addT t p b 300, -(K + L) ≤ x ∧ x ≤ K + L := by
  intro x hx
  obtain ⟨j, hj, rfl⟩ := List.getElem_of_mem hx
  have hjt : j < t.length := by rw [← addT_length t p b 300]; exact hj
  have := h _ (List.getElem_mem hjt)
  rw [addT_get, getD_at _ _ hjt]
  split <;> omega
theorem addT_getD (t : List Int) (p : Nat) (b : Int) (i j : Nat) (h : j < t.length) : (addT t p b i).getD j 0 = t.getD j 0 + if gN j ≤ p ∧ p ≤ j ∧ j < i then b else 0 := by
  rw [getD_at _ _ (by rw [addT_length]; exact h), addT_get]
theorem addT_comm (t : List Int) (p q : Nat) (b c : Int) : addT (addT t p b 300) q c 300 = addT (addT t q c 300) p b 300 := by
  apply List.ext_getElem
  · rw [addT_length, addT_length, addT_length, addT_length]
  · intro j h1 h2
    have hj : j < t.length := by rw [addT_length, addT_length] at h1; exact h1
    rw [addT_get, addT_get, addT_getD _ _ _ _ _ hj, addT_getD _ _ _ _ _ hj]
    omega
theorem addT_back (t : List Int) (p : Nat) (b : Int) : addT (addT t p b 300) p (-b) 300 = t := by
  apply List.ext_getElem
  · rw [addT_length, addT_length]
  · intro j h1 h2
    rw [addT_get, addT_getD _ _ _ _ _ h2, getD_at _ _ h2]
    split <;> omega

theorem sl_len {w : World} {a : Option Addr} {c n : Nat} {l : List Int} (h : SlC w a n c 1 (ints l)) (hn : l.length = n) : SlI w a c l := by subst hn; exact h
theorem own_sl_len {w : World} {B n c : Nat} {a : Option Addr} {l : List Int} (h : w.ownsRow B 3 1 (.slice a n c) n (ints l)) (hn : l.length = n) : SlI w a c l := by subst hn; exact own_slc h

/-- Numbers of a law and one more. -/
theorem app_bd (l : List Int) (M x : Int) (h : ∀ y ∈ l, -M ≤ y ∧ y ≤ M) (h1 : -M ≤ x) (h2 : x ≤ M) : ∀ y ∈ l ++ [x], -M ≤ y ∧ y ≤ M := by
  intro y hy
  rcases List.mem_append.1 hy with hy | hy
  · exact h y hy
  · rw [List.mem_singleton.1 hy]; exact ⟨h1, h2⟩

set_option maxHeartbeats 1000000 in
theorem walk_FenUndone (a0 : Option Addr) (len0 cap0 : Nat) (z0 : List Int) (a1 : Int) (a2 : Int) (a3 : Int) (a4 : Int) (w : World) (w0 : IsRow .i64 w a0 len0 cap0 z0) (w1 : (Lit.int .i64 a1).wf = true) (w2 : (Lit.int .i64 a2).wf = true) (w3 : (Lit.int .i64 a3).wf = true) (w4 : (Lit.int .i64 a4).wf = true) :
    Calls Try.prog 5 #[.slice a0 len0 cap0, .int .i64 a1, .int .i64 a2, .int .i64 a3, .int .i64 a4] w fun e w' => e = .returned (.bool true) ∧ Below w.heap.size w w' := by
  obtain ⟨l, rfl, hl, wl, nl⟩ := row_sl w0
  obtain ⟨b1, b2⟩ := wf_bd w1
  obtain ⟨b3, b4⟩ := wf_bd w2
  obtain ⟨b5, b6⟩ := wf_bd w3
  obtain ⟨b7, b8⟩ := wf_bd w4
  have HL := Kp.mk hl
  have WL := Kp.mk wl
  unfold maxLen at nl
  clear w0 w1 w2 w3 w4 hl wl
  go_enter Try.func5, Try.ntmps5
  go_wp2_with fail
  refine (signed_any a0 cap0 80 1000 l w HL.out (by omega) (by omega) (by omega) (by omega) WL.out).mono ?_
  rintro e wa ⟨sa, sc, rfl, hown, hbel⟩
  have hlen : (sgn l 80 1000).length ≤ 80 := by rw [sgn_length]; omega
  have HBD := Kp.mk (app_bd _ 1000 5 (sgn_bd l 80 1000 (by omega)) (by omega) (by omega))
  generalize sgn l 80 1000 = L at *
  obtain ⟨m, hm⟩ : ∃ m, m = L.length := ⟨_, rfl⟩
  unfold OwnI at hown
  rw [← hm] at hown hlen ⊢
  have HM := Kp.mk hm
  have HO := Kp.mk hown
  have HB := Kp.mk hbel
  have hsz : Kp (w.heap.size ≤ wa.heap.size) := ⟨hbel.size⟩
  clear hm hown hbel
  go_wp2_with (at_builtin; refine wpList_push tInts rfl _ _ rfl w.heap.size _ _ _ _ rfl HO.out 1 1 _ rfl rfl ?c1 (by decide) ?c2 (by decide) hsz.out ?c4)
  case c1 => simp [Value.oneCell']
  case c2 => omega
  case c4 =>
    intro sb cb wb hownb hbelb
    have HN : Kp ((L ++ [5]).length = m + 1) := ⟨by rw [List.length_append, HM.out]; rfl⟩
    have hS : SlI wb sb cb (L ++ [5]) := own_sl_len (by rw [ints_append]; exact hownb) HN.out
    have HBB := Kp.mk (HB.out.trans hbelb)
    generalize L ++ [5] = ns at *
    obtain ⟨n, hn⟩ : ∃ n, n = m + 1 := ⟨_, rfl⟩
    rw [← hn] at HN ⊢
    have hn1 : 1 ≤ n := by omega
    have hn2 : n ≤ 81 := by omega
    have HS := Kp.mk hS
    clear hn hownb hbelb hS HO HB HM hlen
    have hp1 := pick_bd a1 n (by omega)
    have hp2 := pick_bd a2 n (by omega)
    have hp3 := pick_bd a3 2001 (by omega)
    have hp4 := pick_bd a4 2001 (by omega)
    obtain ⟨p, hp⟩ : ∃ q : Nat, pick a1 n = q := ⟨_, (Int.toNat_of_nonneg hp1.1).symm⟩
    obtain ⟨q, hq⟩ : ∃ q : Nat, pick a2 n = q := ⟨_, (Int.toNat_of_nonneg hp2.1).symm⟩
    have hpn : p < n := by omega
    have hqn : q < n := by omega
    have HP := Kp.mk hp
    have HQ := Kp.mk hq
    clear hp hq hp1 hp2
    go_wp2_with fail
    refine (picked_any a1 n _ (by omega) (by omega) b1 b2).mono ?_
    rintro e w' ⟨rfl, rfl⟩
    rw [HP.out]
    go_wp2_with fail
    refine (picked_any a2 n _ (by omega) (by omega) b3 b4).mono ?_
    rintro e w' ⟨rfl, rfl⟩
    rw [HQ.out]
    go_wp2_with fail
    refine (picked_any a3 2001 _ (by omega) (by omega) b5 b6).mono ?_
    rintro e w' ⟨rfl, rfl⟩
    generalize pick a3 2001 = x0 at *
    go_wp2_with fail
    refine (picked_any a4 2001 _ (by omega) (by omega) b7 b8).mono ?_
    rintro e w' ⟨rfl, rfl⟩
    generalize pick a4 2001 = y0 at *
    obtain ⟨x, hx⟩ : ∃ x, x = x0 - 1000 := ⟨_, rfl⟩
    obtain ⟨y, hy⟩ : ∃ y, y = y0 - 1000 := ⟨_, rfl⟩
    have hxb : -1000 ≤ x ∧ x ≤ 1000 := by omega
    have hyb : -1000 ≤ y ∧ y ≤ 1000 := by omega
    have HX := Kp.mk hx
    have HY := Kp.mk hy
    clear hx hy
    have F0 : Facts wb [(sb, cb, ns)] := (Facts.nil _).cons HS.out
    have tb : ∀ x ∈ treeOf ns, -300000 ≤ x ∧ x ≤ 300000 := tree_bd ns 1000 (by omega) HBD.out (by rw [HN.out]; omega)
    have ob := addT_bd _ p x 300000 1000 tb hxb.1 hxb.2 (by omega)
    have wb2 := addT_bd _ q y _ 1000 ob hyb.1 hyb.2 (by omega)
    have thb := addT_bd _ q y 300000 1000 tb hyb.1 hyb.2 (by omega)
    have fb := addT_bd _ p x _ 1000 thb hxb.1 hxb.2 (by omega)
    have bb := addT_bd _ p (-x) _ 1000 ob (by omega) (by omega) (by omega)
    have HTB := Kp.mk tb
    have HOB := Kp.mk ob
    have HWB := Kp.mk wb2
    have HTHB := Kp.mk thb
    have HFB := Kp.mk fb
    have HBK := Kp.mk bb
    have HTL : Kp ((treeOf ns).length = n) := ⟨by rw [treeOf_length]; exact HN.out⟩
    clear tb ob wb2 thb fb bb
    go_wp2_with fail
    refine (copied_n sb cb n _ _ (F0.get 0 rfl) HN.out (by omega)).mono ?_
    rintro e wc ⟨s1, c1, rfl, hS1, hb1⟩
    have F1 := Facts.cons hS1 (F0.below hb1)
    have HB1 := Kp.mk (below_step HBB.out hb1)
    clear F0 hS1 hb1 HBB HS
    go_wp2_with fail
    refine (fmake_any s1 c1 n ns _ (F1.get 0 rfl) HN.out (by omega) 1000 (by omega) (by omega) HBD.out).mono ?_
    rintro e wd ⟨s2, c2, rfl, hO, hb⟩
    have F2 := Facts.cons (own_sl_len hO HTL.out) (F1.below hb)
    have HB2 := Kp.mk (below_step HB1.out hb)
    clear F1 HB1 hO hb
    go_wp2_with fail
    rw [← HX.out, ← HY.out]
    refine (fadd_any s2 c2 n p x _ _ (F2.get 0 rfl) HTL.out (by omega) hpn (by omega) (by omega) (fun z hz => by have := HTB.out z hz; omega) (fun z hz => by have := HOB.out z hz; omega)).mono ?_
    rintro e we ⟨s3, c3, rfl, hO, hb⟩
    have HOL : Kp ((addT (treeOf ns) p x 300).length = n) := ⟨by rw [addT_length]; exact HTL.out⟩
    have F3 := Facts.cons (own_sl_len hO HOL.out) (F2.below hb)
    have HB3 := Kp.mk (below_step HB2.out hb)
    clear F2 HB2 hO hb
    go_wp2_with fail
    refine (fadd_any s3 c3 n q y _ _ (F3.get 0 rfl) HOL.out (by omega) hqn (by omega) (by omega) (fun z hz => by have := HOB.out z hz; omega) (fun z hz => by have := HWB.out z hz; omega)).mono ?_
    rintro e wf ⟨s4, c4, rfl, hO, hb⟩
    have HWL : Kp ((addT (addT (treeOf ns) p x 300) q y 300).length = n) := ⟨by rw [addT_length]; exact HOL.out⟩
    have F4 := Facts.cons (own_sl_len hO HWL.out) (F3.below hb)
    have HB4 := Kp.mk (below_step HB3.out hb)
    clear F3 HB3 hO hb
    go_wp2_with fail
    refine (fadd_any s2 c2 n q y _ _ (F4.get 2 rfl) HTL.out (by omega) hqn (by omega) (by omega) (fun z hz => by have := HTB.out z hz; omega) (fun z hz => by have := HTHB.out z hz; omega)).mono ?_
    rintro e wg ⟨s5, c5, rfl, hO, hb⟩
    have HHL : Kp ((addT (treeOf ns) q y 300).length = n) := ⟨by rw [addT_length]; exact HTL.out⟩
    have F5 := Facts.cons (own_sl_len hO HHL.out) (F4.below hb)
    have HB5 := Kp.mk (below_step HB4.out hb)
    clear F4 HB4 hO hb
    go_wp2_with fail
    refine (fadd_any s5 c5 n p x _ _ (F5.get 0 rfl) HHL.out (by omega) hpn (by omega) (by omega) (fun z hz => by have := HTHB.out z hz; omega) (fun z hz => by have := HFB.out z hz; omega)).mono ?_
    rintro e wh ⟨s6, c6, rfl, hO, hb⟩
    have HFL : Kp ((addT (addT (treeOf ns) q y 300) p x 300).length = n) := ⟨by rw [addT_length]; exact HHL.out⟩
    have F6 := Facts.cons (own_sl_len hO HFL.out) (F5.below hb)
    have HB6 := Kp.mk (below_step HB5.out hb)
    clear F5 HB5 hO hb
    go_wp2_with fail
    refine (fadd_any s3 c3 n p (-x) _ _ (F6.get 3 rfl) HOL.out (by omega) hpn (by omega) (by omega) (fun z hz => by have := HOB.out z hz; omega) (fun z hz => by have := HBK.out z hz; omega)).mono ?_
    rintro e wi ⟨s7, c7, rfl, hO, hb⟩
    have HBL : Kp ((addT (addT (treeOf ns) p x 300) p (-x) 300).length = n) := ⟨by rw [addT_length]; exact HOL.out⟩
    have F7 := Facts.cons (own_sl_len hO HBL.out) (F6.below hb)
    have HB7 := Kp.mk (below_step HB6.out hb)
    clear F6 HB6 hO hb
    have Q1 := Kp.mk (sameInts_same s4 s6 c4 c6 n _ _ wi (F7.get 3 rfl) (F7.get 1 rfl) HWL.out HFL.out (addT_comm _ _ _ _ _) (by omega))
    have F8 := Kp.mk F7
    clear F7
    go_wp2_with fail
    refine Q1.out.mono ?_
    rintro e wj ⟨rfl, hb⟩
    have Q2 := Kp.mk (sameInts_same s7 s2 c7 c2 n _ _ wj ((F8.out.below hb).get 0 rfl) ((F8.out.below hb).get 5 rfl) HBL.out HTL.out (addT_back _ _ _) (by omega))
    have HB8 := Kp.mk (below_step HB7.out hb)
    clear hb Q1 F8 HB7
    go_wp2_with fail
    refine Q2.out.mono ?_
    rintro e wk ⟨rfl, hb⟩
    have HB9 := Kp.mk (below_step HB8.out hb)
    clear hb Q2 HB8
    go_wp2
    go_ret
    exact ⟨rfl, HB9.out⟩

end Go.Proofs.Ytjofajpcchncpaa
