import Derived.Test.YtedchegejalolaaGreatDoorMb4
import Derived.Test.YtedchegejalolaaGreatDoorMb1
import Derived.MapKept
/- desk: commands, and what a session tells: a matter of its lines. -/
namespace Go.Proofs.YtedchegejalolaaGreatDoor.Dk
set_option linter.unusedVariables false
open Go.RowKit

/-- A line: its text, what it tells of the points, and the points behind it. -/
structure Cmd where
  t : Wd
  ans : List Pt → Wd
  nxt : List Pt → List Pt
def textOf (A : List Cmd) : Wd := (A.map fun c => c.t ++ [10]).flatten
def tell : List Pt → List Cmd → Wd
  | _, [] => []
  | L, c :: A => c.ans L ++ [10] ++ tell (c.nxt L) A
def after : List Pt → List Cmd → List Pt
  | L, [] => L
  | L, c :: A => after (c.nxt L) A
theorem textOf_append (A B : List Cmd) : textOf (A ++ B) = textOf A ++ textOf B := by simp [textOf]
theorem textOf_cons (c : Cmd) (A : List Cmd) : textOf (c :: A) = c.t ++ [10] ++ textOf A := by simp [textOf]
theorem tell_append : ∀ (A B : List Cmd) (L : List Pt), tell L (A ++ B) = tell L A ++ tell (after L A) B
  | [], B, L => rfl
  | c :: A, B, L => by
    show c.ans L ++ [10] ++ tell (c.nxt L) (A ++ B) = c.ans L ++ [10] ++ tell (c.nxt L) A ++ tell (after (c.nxt L) A) B
    rw [tell_append A B, List.append_assoc (c.ans L ++ [10])]
theorem after_append : ∀ (A B : List Cmd) (L : List Pt), after L (A ++ B) = after (after L A) B
  | [], B, L => rfl
  | c :: A, B, L => after_append A B (c.nxt L)
theorem tell_snoc (A : List Cmd) (L : List Pt) (k : Nat) (h : k < A.length) : tell L (A.take (k + 1)) = tell L (A.take k) ++ (A[k].ans (after L (A.take k)) ++ [10]) := by
  rw [List.take_succ_eq_append_getElem h, tell_append]
  simp [tell]
theorem after_snoc (A : List Cmd) (L : List Pt) (k : Nat) (h : k < A.length) : after L (A.take (k + 1)) = A[k].nxt (after L (A.take k)) := by
  rw [List.take_succ_eq_append_getElem h, after_append]
  rfl
theorem textOf_join : ∀ (A : List Cmd), A ≠ [] → textOf A = joinC 10 (A.map (·.t)) ++ [10]
  | [], h => absurd rfl h
  | [c], _ => by simp [textOf, joinC]
  | c :: d :: A, _ => by
    rw [textOf_cons, textOf_join (d :: A) (by simp)]
    simp [joinC]
/-- The places behind lines. -/
theorem text_cut : ∀ (A : List Cmd), (∀ c ∈ A, (10 : UInt8) ∉ c.t) → ∀ i, (textOf A)[i]? = some 10 → ∃ j, j ≤ A.length ∧ i + 1 = (textOf (A.take j)).length
  | [], _, i, h => by simp [textOf] at h
  | c :: A, hn, i, h => by
    rw [textOf_cons] at h
    by_cases h1 : i < c.t.length
    · rw [List.append_assoc, List.getElem?_append_left h1] at h
      exact absurd (List.mem_of_getElem? h) (hn c (by simp))
    · by_cases h2 : i = c.t.length
      · exact ⟨1, by simp, by simp [textOf, h2]⟩
      · rw [List.getElem?_append_right (by simp; omega)] at h
        obtain ⟨j, hj, e⟩ := text_cut A (fun d hd => hn d (List.mem_cons_of_mem _ hd)) _ h
        refine ⟨j + 1, by simpa using hj, ?_⟩
        rw [List.take_succ_cons, textOf_cons]
        simp only [List.length_append, List.length_singleton] at e ⊢
        omega
/-- The points of a session fit. -/
def Fit (k : Nat) (L : List Pt) : Prop := L.length ≤ 20 + k ∧ ∀ p ∈ L, p.Near
/-- What the code does with a line. -/
def Runs (k : Nat) (c : Cmd) : Prop := ∀ (L : List Pt) (B db pc : Nat) (pa : Option Addr) (w : World), Fit k L → DS w B db pa pc L → B ≤ w.heap.size → (∀ W, Below B w W → Tab W) → (∀ W, Below B w W → Big W) →
  Calls Tryz.prog 15 #[.pointer (some ⟨db, 0, none⟩), str c.t] w fun e w' => ∃ (pa' : Option Addr) (pc' : Nat), e = .returned (str (c.ans L)) ∧ Kp (Out B db pa w w' (c.nxt L) pa' pc')
structure Cmd.Ok (c : Cmd) : Prop where
  nl : (10 : UInt8) ∉ c.t
  len : c.t.length ≤ 400
  fit : ∀ k L, k ≤ 60 → Fit k L → Fit (k + 1) (c.nxt L)
  alen : ∀ k L, k ≤ 60 → Fit k L → (c.ans L).length ≤ 10000
  runs : ∀ k, k ≤ 60 → Runs k c
theorem fit_after (A : List Cmd) (h : ∀ c ∈ A, c.Ok) (hl : A.length ≤ 60) : ∀ k, k ≤ A.length → Fit k (after [] (A.take k)) := by
  intro k
  induction k with
  | zero => intro _; exact ⟨by simp [after], fun p hp => by simp [after] at hp⟩
  | succ k ih =>
    intro hk
    rw [after_snoc A [] k (by omega)]
    exact (h _ (List.getElem_mem _)).fit k _ (by omega) (ih (by omega))
theorem tell_len (A : List Cmd) (h : ∀ c ∈ A, c.Ok) (hl : A.length ≤ 60) : ∀ k, k ≤ A.length → (tell [] (A.take k)).length ≤ 10001 * k := by
  intro k
  induction k with
  | zero => intro _; simp [tell]
  | succ k ih =>
    intro hk
    rw [tell_snoc A [] k (by omega), List.length_append, List.length_append, List.length_singleton]
    have h1 := ih (by omega)
    have h2 := (h A[k] (List.getElem_mem (by omega))).alen k _ (by omega) (fit_after A h hl k (by omega))
    omega
theorem textOf_len : ∀ (A : List Cmd), (∀ c ∈ A, c.Ok) → (textOf A).length ≤ 401 * A.length
  | [], _ => by simp [textOf]
  | c :: A, h => by
    rw [textOf_cons]
    have h1 := textOf_len A (fun d hd => h d (List.mem_cons_of_mem _ hd))
    have h2 := (h c (by simp)).len
    rw [List.length_append, List.length_append, List.length_singleton, List.length_cons]
    omega

end Go.Proofs.YtedchegejalolaaGreatDoor.Dk

/- desk: maps whose keys are words. -/
namespace Go.Proofs.YtedchegejalolaaGreatDoor.Dk
set_option linter.unusedVariables false
open Go.RowKit

theorem find_miss (t : List UInt8) : ∀ (es : List MapEntry) (i : Nat), (∀ e ∈ es, ∃ u : List UInt8, e.key = str u ∧ t ≠ u) → Instr.findNow .string (str t) es i = some none
  | [], i, _ => rfl
  | e :: es, i, h => by
    obtain ⟨u, he, hne⟩ := h e (by simp)
    have hs : Instr.sameNow .string (str t) e.key = some false := by
      rw [he]
      show some ((⟨t.toArray⟩ : ByteArray) == ⟨u.toArray⟩) = some false
      have h3 : (t.toArray == u.toArray) = false := by
        rw [beq_eq_false_iff_ne]
        intro h2
        exact hne (by simpa using congrArg Array.toList h2)
      exact congrArg some h3
    unfold Instr.findNow
    rw [hs]
    exact find_miss t es (i + 1) (fun e he => h e (List.mem_cons_of_mem _ he))
theorem key_miss (t : List UInt8) (es : List MapEntry) (h : ∀ e ∈ es, ∃ u : List UInt8, e.key = str u ∧ t ≠ u) (W : World) : (Instr.findKey 9 (str t) es).run Tryz.prog W = .ok none W := by
  simp [Instr.findKey, run_underlying Tryz.underlying9, find_miss t es 0 h]
theorem word_check (b : Bool) (n : Nat) (s : ByteArray) (W : World) : (Instr.checkKey b (n + 1) 9 (.string s)).run Tryz.prog W = .ok () W := by
  simp [Instr.checkKey, run_underlying Tryz.underlying9]
theorem set_alloc (w : World) (o o' : Obj) : ({ (w.alloc o) with heap := (w.alloc o).heap.setIfInBounds w.heap.size o' } : World) = w.alloc o' := by
  unfold World.alloc
  have h : (w.heap.push o).setIfInBounds w.heap.size o' = w.heap.push o' := by
    apply Array.ext'
    simp
  simp only [h]
theorem put_alloc (T E : TypeId) (hT : Tryz.prog.underlying T = some (.map 9 E)) (w : World) (es : Array MapEntry) (clock : Nat) (t : ByteArray) (v : Value) (hf : ∀ W, (Instr.findKey 9 (.string t) es.toList).run Tryz.prog W = .ok none W) :
    (Instr.mapUpdate T (.map (some w.heap.size)) (.string t) v).run Tryz.prog (w.alloc (.map es clock)) = .ok () (w.alloc (.map (es.push { key := .string t, val := v, born := clock }) (clock + 1))) := by
  have hb : (w.alloc (.map es clock)).heap[w.heap.size]? = some (.map es clock) := heap_alloc_new w _
  have hck : ∀ b W, (Instr.checkKey b 10000 9 (.string t)).run Tryz.prog W = .ok () W := fun b W => word_check b 9999 t W
  have h : (Instr.mapUpdate T (.map (some w.heap.size)) (.string t) v).run Tryz.prog (w.alloc (.map es clock)) = .ok () { (w.alloc (.map es clock)) with heap := (w.alloc (.map es clock)).heap.setIfInBounds w.heap.size (.map (es.push { key := .string t, val := v, born := clock }) (clock + 1)) } := by
    unfold Instr.mapUpdate
    generalize w.alloc (.map es clock) = W at *
    simp [run_underlying hT, MapKept.run_getObj_map hb, MapKept.run_setObj_map _ hb, hck, hf, Result.andThen]
  rw [set_alloc] at h
  exact h
theorem look_hit (T E : TypeId) (hT : Tryz.prog.underlying T = some (.map 9 E)) {W : World} {b : Nat} {es : Array MapEntry} {clock : Nat} (hb : W.heap[b]? = some (.map es clock)) (t : ByteArray) (j : Nat) (v : Value) (hf : ∀ W, (Instr.findKey 9 (.string t) es.toList).run Tryz.prog W = .ok (some (j, v)) W) :
    (Instr.lookup T (.map (some b)) (.string t) true).run Tryz.prog W = .ok (.tuple #[v, .bool true]) W := by
  have hck : ∀ b W, (Instr.checkKey b 10000 9 (.string t)).run Tryz.prog W = .ok () W := fun b W => word_check b 9999 t W
  unfold Instr.lookup
  simp [run_underlying hT, MapKept.run_getObj_map hb, hck, hf, Result.andThen]
theorem look_miss (T E : TypeId) (hT : Tryz.prog.underlying T = some (.map 9 E)) (hz : ∀ W, (zeroValue E).run Tryz.prog W = .ok .nilFunc W) {W : World} {b : Nat} {es : Array MapEntry} {clock : Nat} (hb : W.heap[b]? = some (.map es clock)) (t : ByteArray) (hf : ∀ W, (Instr.findKey 9 (.string t) es.toList).run Tryz.prog W = .ok none W) :
    (Instr.lookup T (.map (some b)) (.string t) true).run Tryz.prog W = .ok (.tuple #[.nilFunc, .bool false]) W := by
  have hck : ∀ b W, (Instr.checkKey b 10000 9 (.string t)).run Tryz.prog W = .ok () W := fun b W => word_check b 9999 t W
  unfold Instr.lookup
  simp [run_underlying hT, MapKept.run_getObj_map hb, hck, hf, hz, Result.andThen]

/-- The two tables of a line. -/
def fnV (f : FuncId) (db : Nat) : Value := .func (.func f) #[.pointer (some ⟨db, 0, none⟩)] #[]
def dropK : List UInt8 := [100, 114, 111, 112]
def skyK : List UInt8 := [115, 107, 121]
def areaK : List UInt8 := [97, 114, 101, 97]
def saveK : List UInt8 := [115, 97, 118, 101]
def putK : List UInt8 := [112, 117, 116]
def askK : List UInt8 := [97, 115, 107]
def countK : List UInt8 := [99, 111, 117, 110, 116]
def loadK : List UInt8 := [108, 111, 97, 100]
def aloneM (db : Nat) : List MapEntry := [⟨str dropK, fnV 20 db, 0⟩, ⟨str skyK, fnV 21 db, 1⟩, ⟨str areaK, fnV 22 db, 2⟩, ⟨str saveK, fnV 23 db, 3⟩]
def withM (db : Nat) : List MapEntry := [⟨str putK, fnV 25 db, 0⟩, ⟨str askK, fnV 26 db, 1⟩, ⟨str countK, fnV 27 db, 2⟩, ⟨str loadK, fnV 28 db, 3⟩]
theorem hTA : Tryz.prog.underlying 55 = some (.map 9 53) := Tryz.underlying55
theorem hTW : Tryz.prog.underlying 59 = some (.map 9 31) := Tryz.underlying59
theorem zA : ∀ W, (zeroValue 53).run Tryz.prog W = .ok .nilFunc W := fun W => by kernel_rfl
theorem zW : ∀ W, (zeroValue 31).run Tryz.prog W = .ok .nilFunc W := fun W => by kernel_rfl
theorem alone_miss (db : Nat) (t : List UInt8) (h : t ≠ dropK ∧ t ≠ skyK ∧ t ≠ areaK ∧ t ≠ saveK) (W : World) : (Instr.findKey 9 (str t) (aloneM db)).run Tryz.prog W = .ok none W :=
  key_miss t _ (fun e he => by
    simp only [aloneM, List.mem_cons, List.not_mem_nil, or_false] at he
    rcases he with rfl | rfl | rfl | rfl
    · exact ⟨_, rfl, h.1⟩
    · exact ⟨_, rfl, h.2.1⟩
    · exact ⟨_, rfl, h.2.2.1⟩
    · exact ⟨_, rfl, h.2.2.2⟩) W
theorem with_miss (db : Nat) (t : List UInt8) (h : t ≠ putK ∧ t ≠ askK ∧ t ≠ countK ∧ t ≠ loadK) (W : World) : (Instr.findKey 9 (str t) (withM db)).run Tryz.prog W = .ok none W :=
  key_miss t _ (fun e he => by
    simp only [withM, List.mem_cons, List.not_mem_nil, or_false] at he
    rcases he with rfl | rfl | rfl | rfl
    · exact ⟨_, rfl, h.1⟩
    · exact ⟨_, rfl, h.2.1⟩
    · exact ⟨_, rfl, h.2.2.1⟩
    · exact ⟨_, rfl, h.2.2.2⟩) W

end Go.Proofs.YtedchegejalolaaGreatDoor.Dk

/- desk: the texts of lines. -/
namespace Go.Proofs.YtedchegejalolaaGreatDoor.Dk
set_option linter.unusedVariables false
open Go.RowKit

def decT (i : Nat) : Wd := if i < 10 then [UInt8.ofNat (48 + i)] else [UInt8.ofNat (48 + i / 10), UInt8.ofNat (48 + i % 10)]
theorem decT_eq {u : Nat} (h : u < 100) : Lib.decDigits u = decT u := by
  unfold decT
  by_cases h1 : u < 10
  · rw [if_pos h1, Lib.decDigits_one h1]
  · rw [if_neg h1, Lib.decDigits_two h1 h]
theorem decT_all : ∀ i : Fin 100, Lib.atoi (decT i.val) = some (i.val : Int) ∧ (1 ≤ i.val → Lib.atoi (45 :: decT i.val) = some (-(i.val : Int))) ∧ ∀ c ∈ decT i.val, c ≠ 10 ∧ c ≠ 32 := by decide
theorem decT_len (i : Nat) : 1 ≤ (decT i).length ∧ (decT i).length ≤ 2 := by
  unfold decT; split <;> simp
/-- A number of a line. -/
structure Num3 (x : Int) : Prop where
  num : IsNum (Lib.itoa x) x
  clean : ∀ c ∈ Lib.itoa x, c ≠ 10 ∧ c ≠ 32
  len : (Lib.itoa x).length ≤ 3
  pos : 1 ≤ (Lib.itoa x).length
theorem num3 {x : Int} (h1 : -100 < x) (h2 : x < 100) : Num3 x := by
  rcases Int.lt_or_le x 0 with h | h
  · obtain ⟨u, rfl⟩ : ∃ u : Nat, x = -(u : Int) := ⟨x.natAbs, by omega⟩
    have e : Lib.itoa (-(u : Int)) = 45 :: decT u := by rw [Lib.itoa_neg u (by omega), decT_eq (by omega)]
    obtain ⟨a1, a2, a3⟩ := decT_all ⟨u, by omega⟩
    obtain ⟨l1, l2⟩ := decT_len u
    refine ⟨⟨rfl, ?_, by omega, by rw [e, List.length_cons]; omega⟩, fun c hc => ?_, by rw [e, List.length_cons]; omega, by rw [e, List.length_cons]; omega⟩
    · rw [e]; exact a2 (by show 1 ≤ u; omega)
    · rw [e] at hc
      rcases List.mem_cons.1 hc with rfl | hc
      · exact ⟨by decide, by decide⟩
      · exact a3 c hc
  · obtain ⟨u, rfl⟩ : ∃ u : Nat, x = (u : Int) := ⟨x.toNat, by omega⟩
    have e : Lib.itoa (u : Int) = decT u := by rw [Lib.itoa_nonneg, decT_eq (by omega)]
    obtain ⟨a1, a2, a3⟩ := decT_all ⟨u, by omega⟩
    obtain ⟨l1, l2⟩ := decT_len u
    exact ⟨⟨rfl, by rw [e]; exact a1, by omega, by rw [e]; omega⟩, fun c hc => a3 c (by rw [e] at hc; exact hc), by rw [e]; omega, by rw [e]; omega⟩
theorem Num3.no32 {x : Int} (h : Num3 x) : (32 : UInt8) ∉ Lib.itoa x := fun hc => (h.clean _ hc).2 rfl
theorem Num3.no10 {x : Int} (h : Num3 x) : (10 : UInt8) ∉ Lib.itoa x := fun hc => (h.clean _ hc).1 rfl
theorem Num3.near {x : Int} (h : Num3 x) : -1048576 ≤ x ∧ x ≤ 1048576 := h.num.near
theorem toldT_len (word : Wd) (l : List Int) (h : ∀ x ∈ l, -9223372036854775808 ≤ x ∧ x ≤ 9223372036854775807) : (toldT word l).length ≤ word.length + 22 * l.length := by
  unfold toldT
  rw [List.length_append]
  have : ∀ l : List Int, (∀ x ∈ l, -9223372036854775808 ≤ x ∧ x ≤ 9223372036854775807) → ((l.map Ex.num).flatten).length ≤ 22 * l.length := by
    intro l
    induction l with
    | nil => intro _; simp
    | cons x l ih =>
      intro h
      have h1 := ih (fun y hy => h y (by simp [hy]))
      obtain ⟨a, b⟩ := h x (by simp)
      have h2 := Lib.itoa_length_le x a b
      have h3 : (Ex.num x).length = (Lib.itoa x).length + 1 := rfl
      rw [List.map_cons, List.flatten_cons, List.length_append, List.length_cons]
      omega
  have := this l h
  omega
/-- What a line's call leaves is what it leaves of the world ahead. -/
theorem Out.later {B db pc' : Nat} {pa pa' : Option Addr} {w W w' : World} {L' : List Pt} (h : Out B db pa W w' L' pa' pc') (hb : Below w.heap.size w W) : Out B db pa w w' L' pa' pc' :=
  ⟨h.ds, (Chg.of_below hb).same h.chg, fun k e => (h.new k e).imp id (fun e => Nat.le_trans hb.size e)⟩

end Go.Proofs.YtedchegejalolaaGreatDoor.Dk

/- desk: put and count at words that are no numbers, or too few. -/
namespace Go.Proofs.YtedchegejalolaaGreatDoor.Dk
set_option linter.unusedVariables false
open Go.RowKit

/-- What 'numbers' says of words. -/
def NumBad (T : List Wd) (many : Int) : Prop := ∀ (W : World) (b : Nat), Tab W → SlC W (some ⟨b, 0, none⟩) T.length T.length 1 (strs T) → Calls Tryz.prog 41 #[.slice (some ⟨b, 0, none⟩) T.length T.length, .int .i64 many] W fun e w' => ∃ (oa : Option Addr) (n oc : Nat), e = .returned (.tuple #[.slice oa n oc, .bool false]) ∧ Kp (Below W.heap.size W w')
theorem numBad_few (T : List Wd) (N : List Int) (many : Int) (hN : N.length = T.length) (hI : ∀ i (h : i < T.length), IsNum T[i] (N.getD i 0)) (hl : T.length ≤ 1000) (hne : (T.length : Int) ≠ many) : NumBad T many := fun W b hT hs => by
  refine (numbers_any T N hN hI (some ⟨b, 0, none⟩) T.length T.length many W hs rfl hl hT).mono ?_
  rintro e w' ⟨oa, oc, rfl, _, HB⟩
  exact ⟨oa, T.length, oc, by rw [show ((T.length : Int) == many) = false from by rw [beq_eq_false_iff_ne]; exact hne], HB⟩
theorem numBad_odd (t : Wd) (n : Int) (R : List Wd) (many : Int) (hb : Lib.atoi t = some n) (hne : Lib.itoa n ≠ t) (hn : -1048576 ≤ n ∧ n ≤ 1048576) (hl : t.length ≤ 18) (hm : R.length ≤ 900) : NumBad (t :: R) many := fun W b hT hs => by
  refine (numbers_odd t n R hb hne hn hl (some ⟨b, 0, none⟩) _ _ many W hs rfl (by rw [List.length_cons]; omega) hT).mono ?_
  rintro e w' ⟨rfl, HB⟩
  exact ⟨none, 0, 0, rfl, HB⟩

set_option maxRecDepth 100000 in
set_option maxHeartbeats 4000000 in
theorem put_bad (db : Nat) (T : List Wd) (h0 : T ≠ []) (h32 : ∀ t ∈ T, (32 : UInt8) ∉ t) (hjl : (joinC 32 T).length ≤ 1000) (hl : T.length ≤ 1000) (hNB : NumBad T 3) (w : World) (hT : Tab w) (hBig : Big w) :
    Calls Tryz.prog 25 #[.pointer (some ⟨db, 0, none⟩), str (joinC 32 T)] w fun e w' => e = .returned (str bad) ∧ Below w.heap.size w w' := by
  have CS := Kp.mk (split_any 32 T h0 h32 (by omega) w hBig)
  have HT := Kp.mk hT
  have HNB := Kp.mk hNB
  generalize joinC 32 T = txt at *
  obtain ⟨m, hm⟩ : ∃ m, T.length = m := ⟨_, rfl⟩
  have HM := Kp.mk hm
  unfold NumBad at HNB
  rw [hm] at CS HNB hl
  clear h0 h32 hT hBig hNB hm hjl
  go_enter Tryz.func25, Tryz.ntmps25
  go_wp2_with fail
  refine CS.out.mono ?_
  rintro e w1 ⟨rfl, hw1⟩
  have hal := below_alloc (Nat.le_refl w.heap.size) (.cells (strs T).toArray 9)
  rw [← hw1] at hal
  have CN := Kp.mk (HNB.out w1 w.heap.size (HT.out.below hal) (by
    rw [hw1]
    exact own_slc (B := 0) (e := 9) ⟨by rw [strs_length, HM.out, Nat.mul_one], .inr ⟨w.heap.size, m, (strs T).toArray, rfl, Nat.zero_le _, heap_alloc_new w _, Nat.le_refl _, by unfold maxLen; omega, by simp [strs_length, HM.out], by simp [List.take_of_length_le, strs_length, HM.out]⟩⟩))
  have HA := Kp.mk hal
  clear CS hw1 hal HNB
  go_wp2_with fail
  refine CN.out.mono ?_
  rintro e w3 ⟨oa, n, oc, rfl, HB3⟩
  have HW3 := Kp.mk (below_step HA.out HB3.out)
  clear CN
  go_wp2
  go_ret
  exact ⟨rfl, HW3.out⟩

set_option maxRecDepth 100000 in
set_option maxHeartbeats 4000000 in
theorem count_bad (db : Nat) (T : List Wd) (h0 : T ≠ []) (h32 : ∀ t ∈ T, (32 : UInt8) ∉ t) (hjl : (joinC 32 T).length ≤ 1000) (hl : T.length ≤ 1000) (hNB : NumBad T 4) (w : World) (hT : Tab w) (hBig : Big w) :
    Calls Tryz.prog 27 #[.pointer (some ⟨db, 0, none⟩), str (joinC 32 T)] w fun e w' => e = .returned (str bad) ∧ Below w.heap.size w w' := by
  have CS := Kp.mk (split_any 32 T h0 h32 (by omega) w hBig)
  have HT := Kp.mk hT
  have HNB := Kp.mk hNB
  generalize joinC 32 T = txt at *
  obtain ⟨m, hm⟩ : ∃ m, T.length = m := ⟨_, rfl⟩
  have HM := Kp.mk hm
  unfold NumBad at HNB
  rw [hm] at CS HNB hl
  clear h0 h32 hT hBig hNB hm hjl
  go_enter Tryz.func27, Tryz.ntmps27
  go_wp2_with fail
  refine CS.out.mono ?_
  rintro e w1 ⟨rfl, hw1⟩
  have hal := below_alloc (Nat.le_refl w.heap.size) (.cells (strs T).toArray 9)
  rw [← hw1] at hal
  have CN := Kp.mk (HNB.out w1 w.heap.size (HT.out.below hal) (by
    rw [hw1]
    exact own_slc (B := 0) (e := 9) ⟨by rw [strs_length, HM.out, Nat.mul_one], .inr ⟨w.heap.size, m, (strs T).toArray, rfl, Nat.zero_le _, heap_alloc_new w _, Nat.le_refl _, by unfold maxLen; omega, by simp [strs_length, HM.out], by simp [List.take_of_length_le, strs_length, HM.out]⟩⟩))
  have HA := Kp.mk hal
  clear CS hw1 hal HNB
  go_wp2_with fail
  refine CN.out.mono ?_
  rintro e w3 ⟨oa, n, oc, rfl, HB3⟩
  have HW3 := Kp.mk (below_step HA.out HB3.out)
  clear CN
  go_wp2
  go_ret
  exact ⟨rfl, HW3.out⟩

end Go.Proofs.YtedchegejalolaaGreatDoor.Dk

