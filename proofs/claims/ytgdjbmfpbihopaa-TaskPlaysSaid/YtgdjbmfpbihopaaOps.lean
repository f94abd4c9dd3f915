/-
  Slices of operations: laid anew by append, read as a list. No conditions.
-/
import Derived.Test.YtgdjbmfpbihopaaAll
namespace Go.Proofs.Ytgdjbmfpbihopaa
open Go.RowKit Go.MapKept
set_option linter.unusedVariables false
set_option linter.unusedSimpArgs false

/-- In a region that draws its order: append to a row of the call's own. -/
theorem step_append_own {P : Program} (w : World) {ops : Array Oper} {o : Oper} {a : Act} {K : Act → World → Prop} {Q : Exit → Act → World → Prop} {E : Prop} (hgd : o.guard = none) (s x : Operand) (t : TypeId)
    (ho : o.op = .call { callee := .builtin .append, args := #[s, x], argTypes := #[t, t] })
    (base : Nat) (e : TypeId) (i : TypeInfo) (z : Value) (size bytes : Nat) (ht : P.underlying t = some (.slice e)) (hi : P.info? e = some i) (hz : i.zero = some z)
    (hsize : i.size = size) (hby : i.bytes = bytes) (hzs : z.cells.size = size) (hsz : 0 < size)
    (v : Value) (n : Nat) (xs : List Value) (hs : a.eval s = v) (hown : w.ownsRow base e size v n xs)
    (ad : Addr) (m c : Nat) (news : List Value) (hx : a.eval x = .slice (some ad) m c) (hl : news.length = m * size) (hnews : ∀ j u, news[j]? = some u → w.cell? (ad.add j) = some u) (h1 : ∀ u ∈ news, u.oneCell' = true)
    (h63 : n + m ≤ maxLen) (hbytes : (n + m) * bytes ≤ 140737488355328) (hbase : base ≤ w.heap.size)
    (h : ∀ v' w', w'.ownsRow base e size v' (n + m) (xs ++ news) → w.grownBy w' v.ownBlock → K (a.put o.dst v') w') :
    if Region.wanted o (yielded ops a.tmps) = true then Oper.wp P o a w K Q else E := by
  have hw : Region.wanted o (yielded ops a.tmps) = true := by simp [Region.wanted, hgd]
  rw [if_pos hw]
  exact wp_append_own w s x t ho base e i z size bytes ht hi hz hsize hby hzs hsz v n xs hs hown ad m c news hx hl hnews h1 h63 hbytes hbase fun v' w' h2 h3 _ => h v' w' h2 h3
/-- .. of nothing. -/
theorem step_append_none {P : Program} (w : World) {ops : Array Oper} {o : Oper} {a : Act} {K : Act → World → Prop} {Q : Exit → Act → World → Prop} {E : Prop} (hgd : o.guard = none) (s x : Operand) (t : TypeId)
    (ho : o.op = .call { callee := .builtin .append, args := #[s, x], argTypes := #[t, t] })
    (base : Nat) (e : TypeId) (i : TypeInfo) (size : Nat) (ht : P.underlying t = some (.slice e)) (hi : P.info? e = some i)
    (v : Value) (n : Nat) (xs : List Value) (hs : a.eval s = v) (hown : w.ownsRow base e size v n xs) (hx : a.eval x = .slice none 0 0)
    (h : K (a.put o.dst v) w) :
    if Region.wanted o (yielded ops a.tmps) = true then Oper.wp P o a w K Q else E := by
  have hw : Region.wanted o (yielded ops a.tmps) = true := by simp [Region.wanted, hgd]
  rw [if_pos hw]
  have hrun := run_append_owned_none (P := P) (w := w) base t o.type e i size ht hi v n xs hown
  unfold Oper.wp
  simp [execOp, ho, resolve, invoke, builtin, hs, hx, hrun, Result.andThen]
  exact h
theorem step_append_none2 {P : Program} (w : World) {ops : Array Oper} {o : Oper} {a : Act} {K : Act → World → Prop} {Q : Exit → Act → World → Prop} {E : Prop} (hgd : o.guard = none) (s x : Operand) (t : TypeId)
    (ho : o.op = .call { callee := .builtin .append, args := #[s, x], argTypes := #[t, t] })
    (base : Nat) (e : TypeId) (i : TypeInfo) (size : Nat) (ht : P.underlying t = some (.slice e)) (hi : P.info? e = some i)
    (v : Value) (n : Nat) (xs : List Value) (hs : a.eval s = v) (hown : w.ownsRow base e size v n xs) (hx : a.eval x = .slice none 0 0)
    (h : ∀ w', w' = w → K (a.put o.dst v) w') :
    if Region.wanted o (yielded ops a.tmps) = true then Oper.wp P o a w K Q else E :=
  step_append_none w hgd s x t ho base e i size ht hi v n xs hs hown hx (h w rfl)
theorem opsl_empty {w : World} {g : Nat} (h : w.heap[g]? = some (.cells #[] 41 (0, 0))) : OpSl w (some ⟨g, 0, none⟩) 0 0 [] :=
  ⟨rfl, Nat.le_refl _, by unfold maxLen; omega, (fun e => nomatch e), fun a ha => by
    obtain rfl := Option.some.inj ha
    exact ⟨g, 0, #[], rfl, h, fun i o ho => by simp at ho⟩⟩
def opsF (l : List Op3) : List Value := l.flatMap opCells
theorem opsF_len : ∀ l : List Op3, (opsF l).length = l.length * 3
  | [] => rfl
  | x :: l => by
    have := opsF_len l
    simp only [opsF, List.flatMap_cons, List.length_append, List.length_cons] at this ⊢
    rw [this]
    simp [opCells]
    omega
theorem opsF_at : ∀ {l : List Op3} {i : Nat} {o : Op3}, l[i]? = some o → ∀ j, j < 3 → (opsF l)[i * 3 + j]? = (opCells o)[j]?
  | [], i, y, h, _, _ => by simp at h
  | x :: l, 0, y, h, j, hj => by
    simp only [List.getElem?_cons_zero, Option.some.injEq] at h
    subst h
    rw [Nat.zero_mul, Nat.zero_add]
    simp only [opsF, List.flatMap_cons]
    rw [List.getElem?_append_left (by simp [opCells]; exact hj)]
  | x :: l, i + 1, y, h, j, hj => by
    have := opsF_at (l := l) (i := i) h j hj
    simp only [opsF, List.flatMap_cons] at this ⊢
    rw [List.getElem?_append_right (by simp [opCells]; omega), show (i + 1) * 3 + j - (opCells x).length = i * 3 + j by simp [opCells]; omega]
    exact this
theorem opsF_one (l : List Op3) : ∀ u ∈ opsF l, u.oneCell' = true := by
  intro u hu
  obtain ⟨o, _, hu⟩ := List.mem_flatMap.1 hu
  simp only [opCells, List.mem_cons, List.not_mem_nil, or_false] at hu
  rcases hu with rfl | rfl | rfl <;> rfl
theorem opsF_app (l m : List Op3) : opsF (l ++ m) = opsF l ++ opsF m := by simp [opsF]
/-- A row of the call's own reads as these operations. -/
theorem own_opsl {w : World} {base n : Nat} {v : Value} {l : List Op3} (h : w.ownsRow base 41 3 v n (opsF l)) (hl : l.length = n) : ∃ A c, v = .slice A n c ∧ OpSl w A n c l := by
  obtain ⟨h1, ⟨rfl, h2⟩ | ⟨g, cap, cur, rfl, h4, h5, h6, h7, h8, h9⟩⟩ := h
  · subst h2
    have : l = [] := List.eq_nil_of_length_eq_zero hl
    subst this
    exact ⟨none, 0, rfl, OpSl.nil w⟩
  · refine ⟨some ⟨g, 0, none⟩, cap, rfl, hl, h6, h7, (fun e => nomatch e), fun a ha => ?_⟩
    obtain rfl := Option.some.inj ha
    refine ⟨g, 0, cur, rfl, h5, fun i o ho j hj => ?_⟩
    have hi := (List.getElem?_eq_some_iff.1 ho).1
    rw [Nat.zero_add, ← opsF_at ho j hj, ← h9, List.getElem?_take, if_pos (by omega), Array.getElem?_toList]
theorem OpSl.rd {w : World} {A : Option Addr} {n c : Nat} {l : List Op3} (h : OpSl w A n c l) : OpRd w A n c l := by
  obtain ⟨h1, h2, h3, h4, h5⟩ := h
  refine ⟨h1, h2, h3, h4, fun h0 => ?_⟩
  cases A with
  | none => have := (h4 rfl).1; omega
  | some a =>
    obtain ⟨g, off, cur, rfl, hb, hc⟩ := h5 a rfl
    exact ⟨g, off, rfl, lt_of_heap hb, fun i o ho j hj => by rw [blk_cell hb, ← Nat.add_assoc]; exact hc i o ho j hj⟩
theorem OpRd.news {w : World} {ad : Addr} {n c : Nat} {l : List Op3} (h : OpRd w (some ad) n c l) : ∀ j u, (opsF l)[j]? = some u → w.cell? (ad.add j) = some u := fun j u hu => by
  have hj := (List.getElem?_eq_some_iff.1 hu).1
  rw [opsF_len, h.len] at hj
  obtain ⟨b', off', e, _, hc⟩ := h.src (by omega)
  obtain rfl := Option.some.inj e
  obtain ⟨o, ho⟩ : ∃ o, l[j / 3]? = some o := ⟨_, List.getElem?_eq_getElem (by rw [h.len]; omega)⟩
  have e2 : j = j / 3 * 3 + j % 3 := by omega
  rw [e2, opsF_at ho _ (by omega)] at hu
  have := hc (j / 3) o ho (j % 3) (by omega)
  rw [Addr.add_lit, e2, this, hu]
theorem own_empty {w : World} {g : Nat} {e : TypeId} {base size : Nat} (h : w.heap[g]? = some (.cells #[] e (0, 0))) (hb : base ≤ g) : w.ownsRow base e size (.slice (some ⟨g, 0, none⟩) 0 0) 0 [] :=
  ⟨by simp, .inr ⟨g, 0, #[], rfl, hb, h, Nat.le_refl _, by unfold maxLen; omega, by simp, by simp⟩⟩
theorem news_blk {w : World} {g : Nat} {a b : Value} {e : TypeId} (h : w.heap[g]? = some (.cells #[a, b] e (0, 0))) : ∀ (j : Nat) (u : Value), [a, b][j]? = some u → w.cell? ((⟨g, 0, none⟩ : Addr).add j) = some u := fun j u hu => by
  rw [Addr.add_lit, blk_cell h, Nat.zero_add]
  simpa using hu
theorem grown_fresh {W0 w w' : World} {g : Nat} (h : Quiet W0 w) (hg : w.grownBy w' (some g)) (hb : W0.heap.size ≤ g) : Quiet W0 w' :=
  h.over ((Only.refl (fun k => k = g) w).of_grown hg (fun k hk _ => (Option.some.inj hk).symm)) (fun i hi q => by omega)
end Go.Proofs.Ytgdjbmfpbihopaa
