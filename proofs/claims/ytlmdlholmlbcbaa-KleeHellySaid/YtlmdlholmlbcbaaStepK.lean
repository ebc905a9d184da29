/- append as a step of a region that draws; the old slice still reads as it did. -/
import Derived.Test.YtlmdlholmlbcbaaMem
import Derived.ArgAppend
namespace Go.Proofs.Ytlmdlholmlbcbaa
set_option linter.unusedVariables false
open Go.RowKit

theorem slc_setCells {w : World} {b off cap n size : Nat} {xs : List Value} (h : SlC w (some ⟨b, off, none⟩) n cap size xs) (vs : List Value) : SlC (w.setCells b (off + n * size) vs) (some ⟨b, off, none⟩) n cap size xs :=
  ⟨h.hlen, h.le, h.capm, (fun e => by cases e), fun i hi => by
    obtain ⟨b', off', e, hc⟩ := h.cell i hi
    simp only [Option.some.injEq, Addr.mk.injEq, and_true] at e
    obtain ⟨rfl, rfl⟩ := e
    refine ⟨b, off, rfl, ?_⟩
    rw [World.cell?_setCells_out b vs (off + n * size) w ⟨b, off + i, none⟩ (fun _ _ => .inl (by have := h.hlen; show off + i < _; omega))]
    exact hc⟩

theorem run_append_keeps {P : Program} {t e ty : TypeId} {size bytes : Nat} {z : Value} (T : ElemTy P t e size bytes z) {w w' : World} {v' : Value}
    (B : Nat) (sa : Option Addr) (n cap : Nat) (xs : List Value) (hown : w.ownsRow B e size (.slice sa n cap) n xs)
    (ad : Addr) (m c : Nat) (news : List Value) (hl : news.length = m * size) (hnews : ∀ j u, news[j]? = some u → w.cell? (ad.add j) = some u) (h1 : ∀ u ∈ news, u.oneCell' = true)
    (h63 : n + m ≤ maxLen) (hbytes : (n + m) * bytes ≤ 140737488355328)
    (hr : (Builtin.append_ #[t, t] ty #[.slice sa n cap, .slice (some ad) m c]).run P w = .ok v' w') : SlC w' sa n cap size xs := by
  obtain ⟨i, hi, hz, hsz, hby⟩ := T.info
  have hs := own_slc hown
  by_cases hn : n = 0
  · subst hn
    obtain rfl : xs = [] := List.eq_nil_of_length_eq_zero (by simpa using hs.hlen)
    exact ⟨by simp, hs.le, hs.capm, hs.nil, fun i hi => by simp at hi⟩
  obtain ⟨g, rfl, _, hg⟩ := own_some hown (by omega)
  by_cases hroom : n + m ≤ cap
  · rcases hown.2 with ⟨_, h0⟩ | ⟨g', cap', cur, hv, _, hgb, _, _, hsize, _⟩
    · omega
    simp only [Value.slice.injEq, Option.some.injEq, Addr.mk.injEq, and_true, true_and] at hv
    obtain ⟨rfl, rfl⟩ := hv
    have hcs : ∀ j, j < news.length → (w.cell? ⟨g, 0 + n * i.size + j, none⟩).isSome = true := fun j hj => by
      rw [cell_of_row w g _ cur e (0, 0) hgb]
      rw [Array.getElem?_eq_getElem (by
        rw [hsize, hsz, Nat.zero_add]
        rw [hl] at hj
        calc n * size + j < n * size + m * size := by omega
          _ = (n + m) * size := (Nat.add_mul _ _ _).symm
          _ ≤ cap * size := Nat.mul_le_mul_right _ hroom)]
      rfl
    have hfr : ∀ j, j < news.length → w.frozen? ⟨g, 0 + n * i.size + j, none⟩ = false := fun j hj => by
      exact frozen_of_row w g _ cur e hgb
    have hrun := run_append_room_cells (P := P) w t ty e i T.und hi g 0 n cap ad m c news (by rw [hsz]; exact hl) hnews h1 hroom hcs hfr
    rw [hrun] at hr
    simp only [Result.ok.injEq] at hr
    rw [← hr.2, hsz]
    exact slc_setCells hs _
  · obtain ⟨v2, w2, hrun, _, hgr⟩ := run_append_arg_grows (P := P) w t ty e i z size bytes T.und hi hz hsz hby T.zs T.pos ⟨g, 0, none⟩ n cap xs hs.hlen (hs.news) ad m c news hl hnews (by omega) h63 hbytes
    rw [hrun] at hr
    simp only [Result.ok.injEq] at hr
    rw [← hr.2]
    exact hs.keep hgr (fun k hk => by cases hk)

/-- 'append(s, x..)' inside a region that draws: the new elements lie in a block that is known whole; the old slice still reads as it did. -/
theorem step_pushK {P : Program} {t e : TypeId} {size bytes : Nat} {z : Value} (T : ElemTy P t e size bytes z)
    {ops : Array Oper} {o : Oper} {a : Act} {K : Act → World → Prop} {Q : Exit → Act → World → Prop} {E : Prop} {W : World} (hgd : o.guard = none) (s x : Operand)
    (ho : o.op = .call { callee := .builtin .append, args := #[s, x], argTypes := #[t, t] })
    (B : Nat) (sa : Option Addr) (n cap : Nat) (xs : List Value) (hs : a.eval s = .slice sa n cap) (hown : W.ownsRow B e size (.slice sa n cap) n xs)
    (m H : Nat) (cs : Array Value) (hH : W.heap[H]? = some (.cells cs e (0, 0))) (hx : a.eval x = .slice (some ⟨H, 0, none⟩) m m) (hl : cs.size = m * size) (h1 : ∀ u ∈ cs.toList, u.oneCell' = true)
    (hm : 0 < m) (hbytes : (n + m) * bytes ≤ 140737488355328) (hbp : 0 < bytes) (hB : B ≤ W.heap.size)
    (h : ∀ sa' cap' w', w'.ownsRow B e size (.slice sa' (n + m) cap') (n + m) (xs ++ cs.toList) → W.grownBy w' (blk sa) → NewOr W sa sa' → SlC w' sa n cap size xs → K (a.put o.dst (.slice sa' (n + m) cap')) w') :
    if Region.wanted o (yielded ops a.tmps) = true then Oper.wp P o a W K Q else E := by
  obtain ⟨i, hi, hz, hsz, hby⟩ := T.info
  have hnm : n + m ≤ maxLen := by
    have : n + m ≤ (n + m) * bytes := Nat.le_mul_of_pos_right _ hbp
    simp only [maxLen]; omega
  have hnews : ∀ j u, cs.toList[j]? = some u → W.cell? ((⟨H, 0, none⟩ : Addr).add j) = some u := by
    intro j u hu
    rw [add_none, Nat.zero_add, cell_of_row W H j cs e (0, 0) hH]
    simpa using hu
  have hw : Region.wanted o (yielded ops a.tmps) = true := by simp [Region.wanted, hgd]
  rw [if_pos hw]
  obtain ⟨g, cap', w', hr, h2, h3, h4, h5⟩ := run_append_lies (P := P) W t o.type B e i z size bytes T.und hi hz hsz hby T.zs T.pos _ n xs hown ⟨H, 0, none⟩ m m cs.toList (by simpa using hl) hnews h1 hm hnm hbytes hB W.heap.size rfl
  have hk := run_append_keeps T B sa n cap xs hown ⟨H, 0, none⟩ m m cs.toList (by simpa using hl) hnews h1 hnm hbytes hr
  unfold Oper.wp execOp
  simp only [ho, resolve, invoke, builtin, Sem.run_bind, Sem.run_pure, Result.andThen_ok, List.map_toArray, List.map_cons, List.map_nil, hs, hx, hr]
  rw [ownBlock_blk] at h3 h4
  refine h (some ⟨g, 0, none⟩) cap' w' h2 h3 ?_ hk
  rcases h4 with e | e
  · exact .inl (by rw [e]; rfl)
  · exact .inr ⟨g, rfl, by omega⟩

end Go.Proofs.Ytlmdlholmlbcbaa
