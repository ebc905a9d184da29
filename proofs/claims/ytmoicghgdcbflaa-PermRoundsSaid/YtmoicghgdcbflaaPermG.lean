/- The walk of PermGroup: orders are a group. -/
import Derived.Test.YtmoicghgdcbflaaPermP
namespace Go.Proofs.Ytmoicghgdcbflaa
set_option linter.unusedVariables false
open Go.RowKit

theorem below_step {w w1 w2 : World} (h : Below w.heap.size w w1) (hb : Below w1.heap.size w1 w2) : Below w.heap.size w w2 := h.trans (hb.mono h.size)

theorem shuffle_n (a : Option Addr) (cap n : Nat) (l : List Int) (w : World) (h : SlI w a cap l) (hl : l.length ≤ 9223372036854775807) (hn : n ≤ 1000) (hw : ∀ x ∈ l, (Lit.int .i64 x).wf = true) :
    Calls Try.prog 19 #[.slice a l.length cap, .int .i64 n] w (RetS w n (shuf l n n)) :=
  (shuffle_any a cap n l w h hl hn hw).mono fun e w' ⟨sa, c, h1, h2, h3⟩ => ⟨sa, c, h1, by
    have := own_slc h2
    unfold SlI
    rw [shuf_length]
    exact this, h3⟩

theorem inverse_n (a : Option Addr) (cap n : Nat) (l : List Int) (w : World) (h : SlI w a cap l) (hn : l.length = n) (hl : n ≤ 300) (hp : Order l) :
    Calls Try.prog 24 #[.slice a n cap] w (fun e w' => ∃ sa cap, e = .returned (.tuple #[.slice sa n cap, .int .i64 0]) ∧ SlI w' sa cap (invK l n) ∧ Below w.heap.size w w') := by
  subst hn
  refine (inverse_any a cap l w h hl hp).mono fun e w' ⟨sa, c, h1, h2, h3⟩ => ⟨sa, c, h1, ?_, h3⟩
  have := own_slc h2
  unfold SlI
  rw [invK_length]
  exact this

/-- The law's own 'then'. -/
theorem then_n (a b : Option Addr) (ca cb n : Nat) (p q : List Int) (w : World) (h : SlI w a ca p) (h' : SlI w b cb q) (hp : p.length = n) (hq : q.length = n) (hn : n ≤ 300) (op : Order p) (oq : Order q) :
    Calls Try.prog 25 #[.slice a n ca, .slice b n cb] w (RetS w n (thenL p q)) := by
  have F : Facts w [(a, ca, p), (b, cb, q)] := ((Facts.nil w).cons h').cons h
  have HB : Below w.heap.size w w := Below.refl _ _
  have OP := Lib.hid op
  have OQ := Lib.hid oq
  have HP := Lib.hid hp
  have HQ := Lib.hid hq
  clear h h' op oq hp hq
  go_enter Try.func25, Try.ntmps25
  go_wp2_with fail
  refine (copied_n _ _ n p _ (F.get 0 rfl) HP.out (by omega)).mono ?_
  rintro e w1 ⟨pa, pc, rfl, hs, hb⟩
  replace F := (F.below hb).cons hs
  replace HB := below_step HB hb
  clear hs hb
  go_wp2_with fail
  refine (copied_n _ _ n q _ (F.get 2 rfl) HQ.out (by omega)).mono ?_
  rintro e w2 ⟨qa, qc, rfl, hs, hb⟩
  replace F := (F.below hb).cons hs
  replace HB := below_step HB hb
  clear hs hb
  go_wp2_with fail
  have hT := pthen_any pa qa pc qc p q w2 (F.get 1 rfl) (F.get 0 rfl) (by rw [HP.out]; exact hn) (by rw [HP.out, HQ.out]) OP.out OQ.out
  rw [HP.out, HQ.out] at hT
  refine hT.mono ?_
  rintro e w3 ⟨ra, rc, rfl, hs, hb⟩
  replace HB := below_step HB hb
  have hR : Hid (SlI w3 ra rc (thenL p q)) := by
    have := own_slc hs
    show SlI w3 ra rc (thenL p q)
    unfold SlI
    rw [thenL_length, HP.out]
    exact this
  clear hs hb hT
  go_wp2
  go_ret
  exact ⟨ra, rc, rfl, hR.out, HB⟩

set_option maxHeartbeats 1000000 in
theorem walk_PermGroup (a0 : Option Addr) (len0 cap0 : Nat) (z0 : List Int) (a1 : Option Addr) (len1 cap1 : Nat) (z1 : List Int) (a2 : Option Addr) (len2 cap2 : Nat) (z2 : List Int) (a3 : Int) (w : World) (w0 : IsRow .i64 w a0 len0 cap0 z0) (w1 : IsRow .i64 w a1 len1 cap1 z1) (w2 : IsRow .i64 w a2 len2 cap2 z2) (w3 : (Lit.int .i64 a3).wf = true) :
    Calls Try.prog 7 #[.slice a0 len0 cap0, .slice a1 len1 cap1, .slice a2 len2 cap2, .int .i64 a3] w fun e w' => e = .returned (.bool true) ∧ Below w.heap.size w w' := by
  obtain ⟨l, rfl, hl, wl, nl⟩ := row_sl w0
  obtain ⟨m, rfl, hm, wm, nm⟩ := row_sl w1
  obtain ⟨o, rfl, ho, wo, no⟩ := row_sl w2
  have F : Facts w [(a0, cap0, l), (a1, cap1, m), (a2, cap2, o)] := (((Facts.nil w).cons ho).cons hm).cons hl
  have HB : Below w.heap.size w w := Below.refl _ _
  have WL := Lib.hid wl
  have WM := Lib.hid wm
  have WO := Lib.hid wo
  obtain ⟨b1, b2⟩ := wf_bd w3
  unfold maxLen at nl nm no
  have hpb := pick_bd a3 40 (by omega)
  obtain ⟨q, hq⟩ : ∃ q : Nat, pick a3 40 = q := ⟨_, (Int.toNat_of_nonneg hpb.1).symm⟩
  obtain ⟨n, hn⟩ : ∃ n : Nat, n = 1 + q := ⟨_, rfl⟩
  have HQ := Lib.hid hq
  have hn1 : (1 : Int) + q = n := by omega
  have HN := Lib.hid hn1
  have hnl : n ≤ 40 := by omega
  have hq40 : q < 40 := by omega
  clear w0 w1 w2 w3 hl hm ho wl wm wo hq hpb hn hn1
  go_enter Try.func7, Try.ntmps7
  go_wp2_with fail
  refine (picked_any a3 40 _ (by omega) (by omega) b1 b2).mono ?_
  rintro e w' ⟨rfl, rfl⟩
  rw [HQ.out]
  go_wp2_with fail
  rw [HN.out]
  refine (shuffle_n _ _ n l _ (F.get 0 rfl) nl (by omega) WL.out).mono ?_
  rintro e w1 ⟨pa, pc, rfl, hs, hb⟩
  have op := shuf_order l n n (Nat.le_refl _)
  have lp := shuf_length l n n
  generalize shuf l n n = p at *
  replace F := (F.below hb).cons hs
  replace HB := below_step HB hb
  have OP := Lib.hid op
  have LP := Lib.hid lp
  clear hs hb op lp
  go_wp2_with fail
  refine (shuffle_n _ _ n m _ (F.get 2 rfl) nm (by omega) WM.out).mono ?_
  rintro e w2 ⟨qa, qc, rfl, hs, hb⟩
  have op := shuf_order m n n (Nat.le_refl _)
  have lp := shuf_length m n n
  generalize shuf m n n = q at *
  replace F := (F.below hb).cons hs
  replace HB := below_step HB hb
  have OQ := Lib.hid op
  have LQ := Lib.hid lp
  clear hs hb op lp
  go_wp2_with fail
  refine (shuffle_n _ _ n o _ (F.get 4 rfl) no (by omega) WO.out).mono ?_
  rintro e w3 ⟨ra, rc, rfl, hs, hb⟩
  have op := shuf_order o n n (Nat.le_refl _)
  have lp := shuf_length o n n
  generalize shuf o n n = r at *
  replace F := (F.below hb).cons hs
  replace HB := below_step HB hb
  have OR := Lib.hid op
  have LR := Lib.hid lp
  clear hs hb op lp
  go_wp2_with (at_make; refine wpList_mk1 tInts rfl rfl _ _ rfl w3.heap.size n rfl rfl ?c1 (by decide) (Nat.le_refl _) ?c3)
  case c1 => omega
  case c3 =>
    intro za zc w4 hs hb
    have hz : SlI w4 za zc (List.replicate n 0) := by
      have := own_slc hs
      unfold SlI ints
      rw [List.length_replicate, List.map_replicate]
      exact this
    replace F := (F.below hb).cons hz
    replace HB := below_step HB hb
    clear hs hb hz
    go_wp2_with fail
    have hS := shuffle_n za zc n (List.replicate n 0) w4 (F.get 0 rfl) (by simp; omega) (by omega) (by intro x hx; rw [List.eq_of_mem_replicate hx]; decide)
    rw [List.length_replicate, shuf_zero n n n (Nat.le_refl _) (Nat.le_refl _)] at hS
    refine hS.mono ?_
    rintro e w5 ⟨ia, ic, rfl, hs, hb⟩
    replace F := (F.below hb).cons hs
    replace HB := below_step HB hb
    clear hs hb hS
    -- none, zeros, r, q, p, l, m, o
    go_wp2_with fail
    refine (copied_n _ _ n p _ (F.get 4 rfl) LP.out (by omega)).mono ?_
    rintro e w6 ⟨ca, cc, rfl, hs, hb⟩
    replace F := (F.below hb).cons hs
    replace HB := below_step HB hb
    clear hs hb
    go_wp2_with fail
    refine (inverse_n _ _ n p _ (F.get 0 rfl) LP.out (by omega) OP.out).mono ?_
    rintro e w7 ⟨va, vc, rfl, hs, hb⟩
    have hI : Hid (Order (invK p n)) := by have := invK_order OP.out; rw [LP.out] at this; exact this
    have hLI : Hid ((invK p n).length = n) := by show _ = _; rw [invK_length, LP.out]
    have hTI : Hid (thenL p (invK p n) = iota n) := by have := then_inv OP.out; rw [LP.out] at this; exact this
    have hIT : Hid (thenL (invK p n) p = iota n) := by have := inv_then OP.out; rw [LP.out] at this; exact this
    have hTP : Hid (thenL (iota n) p = p) := by have := iota_then p; rw [LP.out] at this; exact this
    generalize invK p n = v at *
    replace F := (F.below hb).cons hs
    replace HB := below_step HB hb
    clear hs hb
    -- inv, copy, none, zeros, r, q, p, l, m, o
    go_wp2_with fail
    refine (then_n _ _ _ _ n p q _ (F.get 6 rfl) (F.get 5 rfl) LP.out LQ.out (by omega) OP.out OQ.out).mono ?_
    rintro e w8 ⟨ta, tc, rfl, hs, hb⟩
    have hA : Hid (thenL (thenL p q) r = thenL p (thenL q r)) := thenL_assoc p q r OP.out OQ.out (by rw [LP.out, LQ.out]) (by rw [LP.out, LR.out])
    have hO1 : Hid (Order (thenL p q)) := thenL_order OP.out OQ.out (by rw [LP.out, LQ.out])
    have hO2 : Hid (Order (thenL q r)) := thenL_order OQ.out OR.out (by rw [LQ.out, LR.out])
    have hL1 : Hid ((thenL p q).length = n) := by show _ = _; rw [thenL_length, LP.out]
    have hL2 : Hid ((thenL q r).length = n) := by show _ = _; rw [thenL_length, LQ.out]
    generalize thenL p q = s at *
    replace F := (F.below hb).cons hs
    replace HB := below_step HB hb
    clear hs hb
    go_wp2_with fail
    refine (then_n _ _ _ _ n s r _ (F.get 0 rfl) (F.get 5 rfl) hL1.out LR.out (by omega) hO1.out OR.out).mono ?_
    rintro e w9 ⟨xa, xc, rfl, hs, hb⟩
    have hL3 : Hid ((thenL s r).length = n) := by show _ = _; rw [thenL_length, hL1.out]
    generalize thenL s r = x at *
    replace F := (F.below hb).cons hs
    replace HB := below_step HB hb
    clear hs hb
    -- x, s, inv, copy, none, zeros, r, q, p, l, m, o
    go_wp2_with fail
    refine (then_n _ _ _ _ n q r _ (F.get 7 rfl) (F.get 6 rfl) LQ.out LR.out (by omega) OQ.out OR.out).mono ?_
    rintro e w10 ⟨ya, yc, rfl, hs, hb⟩
    generalize thenL q r = y at *
    replace F := (F.below hb).cons hs
    replace HB := below_step HB hb
    clear hs hb
    go_wp2_with fail
    refine (then_n _ _ _ _ n p y _ (F.get 9 rfl) (F.get 0 rfl) LP.out hL2.out (by omega) OP.out hO2.out).mono ?_
    rintro e w11 ⟨ga, gc, rfl, hs, hb⟩
    have hL4 : Hid ((thenL p y).length = n) := by show _ = _; rw [thenL_length, LP.out]
    generalize thenL p y = g at *
    replace F := (F.below hb).cons hs
    replace HB := below_step HB hb
    clear hs hb
    -- g, y, x, s, inv, copy, none, zeros, r, q, p, l, m, o
    go_wp2_with fail
    refine (sameInts_same _ _ _ _ n x g _ (F.get 2 rfl) (F.get 0 rfl) hL3.out hL4.out hA.out (by omega)).mono ?_
    rintro e w12 ⟨rfl, hb⟩
    replace F := F.below hb
    replace HB := below_step HB hb
    clear hb
    go_wp2_with fail
    refine (then_n _ _ _ _ n p v _ (F.get 10 rfl) (F.get 4 rfl) LP.out hLI.out (by omega) OP.out hI.out).mono ?_
    rintro e w13 ⟨ha, hc, rfl, hs, hb⟩
    have hL5 : Hid ((thenL p v).length = n) := by show _ = _; rw [thenL_length, LP.out]
    generalize thenL p v = h1 at *
    replace F := (F.below hb).cons hs
    replace HB := below_step HB hb
    clear hs hb
    go_wp2_with fail
    refine (sameInts_same _ _ _ _ n h1 (iota n) _ (F.get 0 rfl) (F.get 7 rfl) hL5.out (iota_length n) hTI.out (by omega)).mono ?_
    rintro e w14 ⟨rfl, hb⟩
    replace F := F.below hb
    replace HB := below_step HB hb
    clear hb
    -- h1, g, y, x, s, inv, copy, none, zeros, r, q, p, l, m, o
    go_wp2_with fail
    refine (then_n _ _ _ _ n v p _ (F.get 5 rfl) (F.get 11 rfl) hLI.out LP.out (by omega) hI.out OP.out).mono ?_
    rintro e w15 ⟨ja, jc, rfl, hs, hb⟩
    have hL6 : Hid ((thenL v p).length = n) := by show _ = _; rw [thenL_length, hLI.out]
    generalize thenL v p = h2 at *
    replace F := (F.below hb).cons hs
    replace HB := below_step HB hb
    clear hs hb
    go_wp2_with fail
    refine (sameInts_same _ _ _ _ n h2 (iota n) _ (F.get 0 rfl) (F.get 8 rfl) hL6.out (iota_length n) hIT.out (by omega)).mono ?_
    rintro e w16 ⟨rfl, hb⟩
    replace F := F.below hb
    replace HB := below_step HB hb
    clear hb
    -- h2, h1, g, y, x, s, inv, copy, none, zeros, r, q, p, l, m, o
    go_wp2_with fail
    refine (then_n _ _ _ _ n (iota n) p _ (F.get 8 rfl) (F.get 12 rfl) (iota_length n) LP.out (by omega) (iota_order n) OP.out).mono ?_
    rintro e w17 ⟨ka, kc, rfl, hs, hb⟩
    have hL7 : Hid ((thenL (iota n) p).length = n) := by show _ = _; rw [thenL_length, iota_length]
    generalize thenL (iota n) p = h3 at *
    replace F := (F.below hb).cons hs
    replace HB := below_step HB hb
    clear hs hb
    go_wp2_with fail
    refine (sameInts_same _ _ _ _ n h3 p _ (F.get 0 rfl) (F.get 13 rfl) hL7.out LP.out hTP.out (by omega)).mono ?_
    rintro e w18 ⟨rfl, hb⟩
    replace HB := below_step HB hb
    clear hb F
    go_wp2
    go_ret
    exact ⟨rfl, HB⟩

end Go.Proofs.Ytmoicghgdcbflaa
