import Derived.Test.YtedchegejalolaaGreatDoorMs12
import Derived.Test.YtedchegejalolaaGreatDoorMs5
import Derived.Test.YtedchegejalolaaGreatDoorMs6
import Derived.Test.YtedchegejalolaaGreatDoorMs10
import Derived.Test.YtedchegejalolaaGreatDoorMs23
import Derived.Test.YtedchegejalolaaGreatDoorMs28
import Derived.Test.YtedchegejalolaaGreatDoorMs32
import Derived.Test.YtedchegejalolaaGreatDoorMs33
/- The parser goes bad; words left over. -/
namespace Go.Proofs.YtedchegejalolaaGreatDoor
set_option linter.unusedVariables false
open Go.RowKit Qk

/-- A parser that is bad. -/
structure PB (w0 w : World) (pb : Nat) : Prop where
  box : ∃ (la : Option Addr) (n lc : Nat), Box w pb #[.slice la n lc, .bool true] 109
  bel : Below w0.heap.size w0 w
  lo : w0.heap.size ≤ pb
theorem PB.keep {w0 w w' : World} {pb : Nat} {b : Option Nat} (h : PB w0 w pb) (hg : w.grownBy w' b) (hq : ∀ k, b = some k → k ≠ pb ∧ w0.heap.size ≤ k) : PB w0 w' pb := by
  obtain ⟨la, n, lc, hb⟩ := h.box
  exact ⟨⟨la, n, lc, box_grow hb hg (fun e => (hq _ e).1 rfl)⟩, h.bel.trans (below_of_grown hg h.bel.size (fun k e => (hq k e).2)), h.lo⟩
theorem PB.later {w0 w w' : World} {pb : Nat} (h : PB w0 w pb) (hb : Below w.heap.size w w') : PB w0 w' pb := by
  obtain ⟨la, n, lc, hx⟩ := h.box
  exact ⟨⟨la, n, lc, hx.below hb⟩, h.bel.trans (hb.mono h.bel.size), h.lo⟩
end Go.Proofs.YtedchegejalolaaGreatDoor

/- Parse refuses. -/
namespace Go.Proofs.YtedchegejalolaaGreatDoor
set_option linter.unusedVariables false
open Go.RowKit Qk

end Go.Proofs.YtedchegejalolaaGreatDoor

/- The texts that are refused. -/
namespace Go.Proofs.YtedchegejalolaaGreatDoor
set_option linter.unusedVariables false
open Go.RowKit Qk

end Go.Proofs.YtedchegejalolaaGreatDoor

/- desk: the commands. -/
namespace Go.Proofs.YtedchegejalolaaGreatDoor.Dk
set_option linter.unusedVariables false
open Go.RowKit Qk

theorem runs_alone (k : Nat) (c : Cmd) (f : FuncId) (j : Nat) (hf : ∀ db W, (Instr.findKey 9 (str c.t) (aloneM db)).run Tryz.prog W = .ok (some (j, fnV f db)) W) (eg : ∀ args w, (callFunc f args).run Tryz.prog w = .ok (.enter f args) w)
    (C : ∀ (L : List Pt) (B db pc : Nat) (pa : Option Addr) (W : World), Fit k L → DS W B db pa pc L → B ≤ W.heap.size → (∀ W', Below B W W' → Tab W') → Calls Tryz.prog f #[.pointer (some ⟨db, 0, none⟩)] W fun e w' => ∃ (pa' : Option Addr) (pc' : Nat), e = .returned (str (c.ans L)) ∧ Kp (Out B db pa W w' (c.nxt L) pa' pc')) : Runs k c := by
  intro L B db pc pa w hfit hD hB hT hBig
  refine (line_alone db c.t f j (hf db) eg (c.ans L) (fun W w' => ∃ pa' pc', Kp (Out B db pa W w' (c.nxt L) pa' pc')) w (fun W hW => (C L B db pc pa W hfit (hD.below hW) (Nat.le_trans hB hW.size) (fun W2 h2 => hT W2 ((hW.mono hB).trans h2))).mono (fun e w' ⟨pa', pc', he, ho⟩ => ⟨he, pa', pc', ho⟩))).mono ?_
  rintro e w' ⟨rfl, W, hW, pa', pc', HO⟩
  exact ⟨pa', pc', rfl, ⟨HO.out.later hW⟩⟩
theorem runs_with (k : Nat) (c : Cmd) (word args : Wd) (ht : c.t = word ++ 32 :: args) (h32 : (32 : UInt8) ∉ word) (hlen : word.length + args.length ≤ 1000) (f : FuncId) (j : Nat) (hf : ∀ db W, (Instr.findKey 9 (str word) (withM db)).run Tryz.prog W = .ok (some (j, fnV f db)) W) (eg : ∀ args w, (callFunc f args).run Tryz.prog w = .ok (.enter f args) w)
    (C : ∀ (L : List Pt) (B db pc : Nat) (pa : Option Addr) (W : World), Fit k L → DS W B db pa pc L → B ≤ W.heap.size → (∀ W', Below B W W' → Tab W') → Big W → Calls Tryz.prog f #[.pointer (some ⟨db, 0, none⟩), str args] W fun e w' => ∃ (pa' : Option Addr) (pc' : Nat), e = .returned (str (c.ans L)) ∧ Kp (Out B db pa W w' (c.nxt L) pa' pc')) : Runs k c := by
  intro L B db pc pa w hfit hD hB hT hBig
  rw [ht]
  refine (line_with db word args h32 hlen f j (hf db) eg (c.ans L) (fun W w' => ∃ pa' pc', Kp (Out B db pa W w' (c.nxt L) pa' pc')) w (hBig w (Below.refl _ _)) (fun W hW => (C L B db pc pa W hfit (hD.below hW) (Nat.le_trans hB hW.size) (fun W2 h2 => hT W2 ((hW.mono hB).trans h2)) (hBig W (hW.mono hB))).mono (fun e w' ⟨pa', pc', he, ho⟩ => ⟨he, pa', pc', ho⟩))).mono ?_
  rintro e w' ⟨rfl, W, hW, pa', pc', HO⟩
  exact ⟨pa', pc', rfl, ⟨HO.out.later hW⟩⟩
theorem same_of {f : FuncId} {args : Array Value} {B db pc : Nat} {pa : Option Addr} {W : World} {L : List Pt} {s : Wd} (hD : DS W B db pa pc L) (h : Calls Tryz.prog f args W fun e w' => e = .returned (str s) ∧ Kp (Below W.heap.size W w')) : Calls Tryz.prog f args W fun e w' => ∃ (pa' : Option Addr) (pc' : Nat), e = .returned (str s) ∧ Kp (Out B db pa W w' L pa' pc') :=
  h.mono fun e w' ⟨he, hb⟩ => ⟨pa, pc, he, ⟨Out.same hD hb.out⟩⟩
theorem eg_drop : ∀ args w, (callFunc 20 args).run Tryz.prog w = .ok (.enter 20 args) w := enters_of Tryz.func20 (by kernel_rfl) rfl
theorem eg_sky : ∀ args w, (callFunc 21 args).run Tryz.prog w = .ok (.enter 21 args) w := enters_of Tryz.func21 (by kernel_rfl) rfl
theorem eg_area : ∀ args w, (callFunc 22 args).run Tryz.prog w = .ok (.enter 22 args) w := enters_of Tryz.func22 (by kernel_rfl) rfl
theorem eg_save : ∀ args w, (callFunc 23 args).run Tryz.prog w = .ok (.enter 23 args) w := enters_of Tryz.func23 (by kernel_rfl) rfl
theorem eg_put : ∀ args w, (callFunc 25 args).run Tryz.prog w = .ok (.enter 25 args) w := enters_of Tryz.func25 (by kernel_rfl) rfl
theorem eg_ask : ∀ args w, (callFunc 26 args).run Tryz.prog w = .ok (.enter 26 args) w := enters_of Tryz.func26 (by kernel_rfl) rfl
theorem eg_count : ∀ args w, (callFunc 27 args).run Tryz.prog w = .ok (.enter 27 args) w := enters_of Tryz.func27 (by kernel_rfl) rfl
theorem eg_load : ∀ args w, (callFunc 28 args).run Tryz.prog w = .ok (.enter 28 args) w := enters_of Tryz.func28 (by kernel_rfl) rfl
theorem hf_drop : ∀ db W, (Instr.findKey 9 (str dropK) (aloneM db)).run Tryz.prog W = .ok (some (0, fnV 20 db)) W := fun db W => by kernel_rfl
theorem hf_sky : ∀ db W, (Instr.findKey 9 (str skyK) (aloneM db)).run Tryz.prog W = .ok (some (1, fnV 21 db)) W := fun db W => by kernel_rfl
theorem hf_area : ∀ db W, (Instr.findKey 9 (str areaK) (aloneM db)).run Tryz.prog W = .ok (some (2, fnV 22 db)) W := fun db W => by kernel_rfl
theorem hf_save : ∀ db W, (Instr.findKey 9 (str saveK) (aloneM db)).run Tryz.prog W = .ok (some (3, fnV 23 db)) W := fun db W => by kernel_rfl
theorem hf_put : ∀ db W, (Instr.findKey 9 (str putK) (withM db)).run Tryz.prog W = .ok (some (0, fnV 25 db)) W := fun db W => by kernel_rfl
theorem hf_ask : ∀ db W, (Instr.findKey 9 (str askK) (withM db)).run Tryz.prog W = .ok (some (1, fnV 26 db)) W := fun db W => by kernel_rfl
theorem hf_count : ∀ db W, (Instr.findKey 9 (str countK) (withM db)).run Tryz.prog W = .ok (some (2, fnV 27 db)) W := fun db W => by kernel_rfl
theorem hf_load : ∀ db W, (Instr.findKey 9 (str loadK) (withM db)).run Tryz.prog W = .ok (some (3, fnV 28 db)) W := fun db W => by kernel_rfl

theorem Fit.weak {k : Nat} {L : List Pt} (h : Fit k L) : Fit (k + 1) L := ⟨Nat.le_succ_of_le h.1, h.2⟩
theorem Fit.le {k : Nat} {L : List Pt} (h : Fit k L) (hk : k ≤ 60) : L.length ≤ 80 := by have := h.1; omega

/-- put -/
def putC (x y v : Int) : Cmd := ⟨putK ++ 32 :: joinC 32 [Lib.itoa x, Lib.itoa y, Lib.itoa v], fun L => toldT okW [(L.length : Int)], fun L => L ++ [⟨x, y, v⟩]⟩
theorem mem3 {c : UInt8} {a b d : Wd} (h : c ∈ joinC 32 [a, b, d]) : c = 32 ∨ c ∈ a ∨ c ∈ b ∨ c ∈ d := by
  simp only [joinC, List.mem_append, List.mem_cons] at h
  rcases h with h | h | h | h | h
  · exact .inr (.inl h)
  · exact .inl h
  · exact .inr (.inr (.inl h))
  · exact .inl h
  · exact .inr (.inr (.inr h))
theorem put_ok {x y v : Int} (hx : Num3 x) (hy : Num3 y) (hv : Num3 v) : (putC x y v).Ok where
  nl := fun h => by
    rcases List.mem_append.1 h with h | h
    · revert h; decide
    · rcases List.mem_cons.1 h with h | h
      · revert h; decide
      · rcases mem3 h with h | h | h | h
        · revert h; decide
        · exact hx.no10 h
        · exact hy.no10 h
        · exact hv.no10 h
  len := by
    have h1 := hx.len
    have h2 := hy.len
    have h3 := hv.len
    simp only [putC, joinC, putK, List.length_append, List.length_cons, List.length_nil]; omega
  fit := fun k L _ h => ⟨by have := h.1; simp only [putC, List.length_append, List.length_singleton]; omega, fun p hp => by
    rcases List.mem_append.1 hp with hp | hp
    · exact h.2 p hp
    · rw [List.mem_singleton.1 hp]
      have a := hx.near
      have b := hy.near
      have c := hv.near
      unfold Pt.Near
      dsimp only
      omega⟩
  alen := fun k L hk h => by
    have := h.le hk
    refine Nat.le_trans (toldT_len okW _ (fun z hz => by rw [List.mem_singleton.1 hz]; omega)) ?_
    show 2 + 22 * 1 ≤ 10000; omega
  runs := fun k hk => runs_with k _ putK _ rfl (by decide) (by
      have h1 := hx.len
      have h2 := hy.len
      have h3 := hv.len
      simp only [joinC, putK, List.length_append, List.length_cons, List.length_nil]; omega) _ 0 hf_put eg_put (fun L B db pc pa W hfit hD hB hT hBig => by
    have := hfit.le hk
    exact put_any B db pc pa L _ _ _ x y v hx.num hy.num hv.num (fun t ht => by
      simp only [List.mem_cons, List.not_mem_nil, or_false] at ht
      rcases ht with rfl | rfl | rfl
      · exact hx.no32
      · exact hy.no32
      · exact hv.no32) W hD (by omega) hB hT hBig)

/-- drop -/
def dropC : Cmd := ⟨dropK, fun L => if L.length = 0 then noneW else okW, fun L => L.dropLast⟩
theorem drop_ok : dropC.Ok where
  nl := by decide
  len := by decide
  fit := fun k L _ h => ⟨by have := h.1; simp only [dropC, List.length_dropLast]; omega, fun p hp => h.2 p ((List.dropLast_sublist L).subset hp)⟩
  alen := fun k L hk h => by
    simp only [dropC]
    split
    · decide
    · decide
  runs := fun k hk => runs_alone k _ _ 0 hf_drop eg_drop (fun L B db pc pa W hfit hD hB hT => drop_any B db pc pa L W hD)
/-- sky -/
noncomputable def skyC : Cmd := ⟨skyK, fun L => toldT idsW (skyG L), fun L => L⟩
theorem sky_ok : skyC.Ok where
  nl := by show (10 : UInt8) ∉ skyK; decide
  len := by show skyK.length ≤ 400; decide
  fit := fun k L _ h => h.weak
  alen := fun k L hk h => by
    have h1 := h.le hk
    obtain ⟨b1, b2⟩ := skyG_bd L
    refine Nat.le_trans (toldT_len idsW (skyG L) (fun z hz => by have := b2 z hz; omega)) ?_
    show 3 + 22 * (skyG L).length ≤ 10000
    omega
  runs := fun k hk => runs_alone k _ _ 1 hf_sky eg_sky (fun L B db pc pa W hfit hD hB hT => by
    have h1 := hfit.le hk
    exact same_of hD (dsky_any B db pc pa L W hD (by omega) hfit.2 (hT W (Below.refl _ _))))
/-- area -/
noncomputable def areaC : Cmd := ⟨areaK, areaT, fun L => L⟩
theorem area_ok : areaC.Ok where
  nl := by show (10 : UInt8) ∉ areaK; decide
  len := by show areaK.length ≤ 400; decide
  fit := fun k L _ h => h.weak
  alen := fun k L hk h => by
    show (areaT L).length ≤ 10000
    unfold areaT
    split
    · decide
    · have hb := areaG_bd L
      refine Nat.le_trans (toldT_len areaW [areaG L] (fun z hz => by rw [List.mem_singleton.1 hz]; omega)) ?_
      show 4 + 22 * 1 ≤ 10000; omega
  runs := fun k hk => runs_alone k _ _ 2 hf_area eg_area (fun L B db pc pa W hfit hD hB hT => by
    have h1 := hfit.le hk
    exact same_of hD (area_any B db pc pa L W hD (by omega) hfit.2 (hT W (Below.refl _ _))))
/-- save -/
theorem putL_len3 {n : Nat} (h : n < 268435456) : (putL n).length ≤ 4 := by
  by_cases h1 : n < 128
  · rw [putL_small h1]; simp
  · rw [putL_big h1, List.length_cons]
    by_cases h2 : n / 128 < 128
    · rw [putL_small h2]; simp
    · rw [putL_big h2, List.length_cons]
      by_cases h3 : n / 128 / 128 < 128
      · rw [putL_small h3]; simp
      · rw [putL_big h3, List.length_cons, putL_small (by omega)]; simp
theorem saveL_le {L : List Pt} (hN : ∀ p ∈ L, p.Near) (hl : L.length ≤ 100) : (saveL L).length ≤ 1300 := by
  have h1 : ∀ L : List Pt, (∀ p ∈ L, p.Near) → (encN (numsP L)).length ≤ 12 * L.length := by
    intro L
    induction L with
    | nil => intro _; simp [numsP, encN]
    | cons p L ih =>
      intro h
      have e : numsP (p :: L) = [foldN p.x, foldN p.y, foldN p.w] ++ numsP L := by simp [numsP]
      have hp := h p (by simp)
      unfold Pt.Near at hp
      have i1 := ih (fun q hq => h q (by simp [hq]))
      have a := putL_len3 (foldN_lt p.x (by omega) (by omega))
      have b := putL_len3 (foldN_lt p.y (by omega) (by omega))
      have c := putL_len3 (foldN_lt p.w (by omega) (by omega))
      have e2 : encN [foldN p.x, foldN p.y, foldN p.w] = putL (foldN p.x) ++ (putL (foldN p.y) ++ (putL (foldN p.w) ++ [])) := by simp [encN]
      rw [e, encN_append, e2, List.length_append, List.length_append, List.length_append, List.length_append, List.length_cons]
      simp only [List.length_nil]
      omega
  have h2 := h1 L hN
  have h3 := putL_len3 (n := L.length) (by omega)
  have h4 : headL.length = 4 := rfl
  rw [saveL_len, encI_nums, List.length_append, List.length_append]
  omega
def saveC : Cmd := ⟨saveK, saveT, fun L => L⟩
theorem save_ok : saveC.Ok where
  nl := by decide
  len := by decide
  fit := fun k L _ h => h.weak
  alen := fun k L hk h => by
    have h1 := h.le hk
    have h2 := saveL_le h.2 (by omega)
    show (imageW ++ hexT (saveL L)).length ≤ 10000
    rw [List.length_append, hexT_length]
    show 6 + _ ≤ 10000
    omega
  runs := fun k hk => runs_alone k _ _ 3 hf_save eg_save (fun L B db pc pa W hfit hD hB hT => by
    have h1 := hfit.le hk
    exact same_of hD (dsave_any B db pc pa L W hD (by omega) hfit.2))
/-- count -/
def countC (a b c d : Int) : Cmd := ⟨countK ++ 32 :: joinC 32 [Lib.itoa a, Lib.itoa b, Lib.itoa c, Lib.itoa d], fun L => toldT nW [(cntR L a b c d : Int)], fun L => L⟩
theorem mem4 {x : UInt8} {a b c d : Wd} (h : x ∈ joinC 32 [a, b, c, d]) : x = 32 ∨ x ∈ a ∨ x ∈ b ∨ x ∈ c ∨ x ∈ d := by
  simp only [joinC, List.mem_append, List.mem_cons] at h
  rcases h with h | h | h | h | h | h | h
  · exact .inr (.inl h)
  · exact .inl h
  · exact .inr (.inr (.inl h))
  · exact .inl h
  · exact .inr (.inr (.inr (.inl h)))
  · exact .inl h
  · exact .inr (.inr (.inr (.inr h)))
theorem count_ok {a b c d : Int} (ha : Num3 a) (hb : Num3 b) (hc : Num3 c) (hd : Num3 d) : (countC a b c d).Ok where
  nl := fun h => by
    rcases List.mem_append.1 h with h | h
    · revert h; decide
    · rcases List.mem_cons.1 h with h | h
      · revert h; decide
      · rcases mem4 h with h | h | h | h | h
        · revert h; decide
        · exact ha.no10 h
        · exact hb.no10 h
        · exact hc.no10 h
        · exact hd.no10 h
  len := by
    have h1 := ha.len
    have h2 := hb.len
    have h3 := hc.len
    have h4 := hd.len
    simp only [countC, joinC, countK, List.length_append, List.length_cons, List.length_nil]; omega
  fit := fun k L _ h => h.weak
  alen := fun k L hk h => by
    have h1 := h.le hk
    have h2 : cntR L a b c d ≤ L.length := by unfold cntR; exact List.countP_le_length
    refine Nat.le_trans (toldT_len nW _ (fun z hz => by rw [List.mem_singleton.1 hz]; omega)) ?_
    show 1 + 22 * 1 ≤ 10000; omega
  runs := fun k hk => runs_with k _ countK _ rfl (by decide) (by
      have h1 := ha.len
      have h2 := hb.len
      have h3 := hc.len
      have h4 := hd.len
      simp only [joinC, countK, List.length_append, List.length_cons, List.length_nil]; omega) _ 2 hf_count eg_count (fun L B db pc pa W hfit hD hB hT hBig => by
    have h1 := hfit.le hk
    exact same_of hD (count_any B db pc pa L _ _ _ _ a b c d ha.num hb.num hc.num hd.num (fun t ht => by
      simp only [List.mem_cons, List.not_mem_nil, or_false] at ht
      rcases ht with rfl | rfl | rfl | rfl
      · exact ha.no32
      · exact hb.no32
      · exact hc.no32
      · exact hd.no32) W hD (by omega) hfit.2 (hT W (Below.refl _ _)) hBig))
/-- ask -/
def askC (x : Ex) : Cmd := ⟨askK ++ 32 :: x.txt, askT x, fun L => L⟩
theorem ask_ok {x : Ex} (hs : x.small) (hd : x.dep ≤ 2) (hn : (10 : UInt8) ∉ x.txt) : (askC x).Ok where
  nl := fun h => by
    rcases List.mem_append.1 h with h | h
    · revert h; decide
    · rcases List.mem_cons.1 h with h | h
      · revert h; decide
      · exact hn h
  len := by
    have h1 := Ex.txt_len x 2 hs hd
    have e : Ex.bnd 2 = 54 := by decide
    simp only [askC, askK, List.length_append, List.length_cons, List.length_nil]; omega
  fit := fun k L _ h => h.weak
  alen := fun k L hk h => by
    have h1 := h.le hk
    have h2 := evalL_len (x.sem L) L.length
    refine Nat.le_trans (toldT_len idsW _ (fun z hz => by have := eval_bd _ _ z hz; omega)) ?_
    show 3 + 22 * (List.map Int.ofNat (evalL (x.sem L) L.length)).length ≤ 10000
    rw [List.length_map]; omega
  runs := fun k hk => by
    have h1 := Ex.txt_len x 2 hs hd
    have e : Ex.bnd 2 = 54 := by decide
    exact runs_with k _ askK _ rfl (by decide) (by simp only [askK, List.length_cons, List.length_nil]; omega) _ 1 hf_ask eg_ask (fun L B db pc pa W hfit hD hB hT hBig => by
      have h2 := hfit.le hk
      exact same_of hD (ask_any B db pc pa L x.txt x hs (by omega) (by omega) (fun w0 => by rw [words_txt hs]; exact (parsed w0 x hs).or) (by omega) W hD (by omega) hfit.2 (hT W (Below.refl _ _))))
/-- What is bad. -/
def badC (t : Wd) : Cmd := ⟨t, fun _ => bad, fun L => L⟩
theorem bad_ok {t : Wd} (hn : (10 : UInt8) ∉ t) (hl : t.length ≤ 400) (hr : ∀ k, k ≤ 60 → Runs k (badC t)) : (badC t).Ok where
  nl := hn
  len := hl
  fit := fun k L _ h => h.weak
  alen := fun k L hk h => by show bad.length ≤ 10000; decide
  runs := hr
theorem bad_line {t : Wd} (word args : Wd) (b : Bool) (hcut : Lib.cut t [32] = (word, args, b)) (hl : t.length ≤ 400) (hn : (10 : UInt8) ∉ t) (h1 : t ≠ dropK ∧ t ≠ skyK ∧ t ≠ areaK ∧ t ≠ saveK) (h2 : word ≠ putK ∧ word ≠ askK ∧ word ≠ countK ∧ word ≠ loadK) : (badC t).Ok :=
  bad_ok hn hl (fun k hk L B db pc pa w hfit hD hB hT hBig => same_of hD ((line_bad db t word args b hcut (by omega) h1 h2 w (hBig w (Below.refl _ _))).mono fun e w' ⟨he, hb⟩ => ⟨he, ⟨hb⟩⟩))
end Go.Proofs.YtedchegejalolaaGreatDoor.Dk

