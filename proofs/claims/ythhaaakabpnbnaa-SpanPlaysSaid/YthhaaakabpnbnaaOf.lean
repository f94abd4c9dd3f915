/-
  The reference's of: the program's sets, by places. No conditions.
-/
import Derived.Test.YthhaaakabpnbnaaEndsAt
import Derived.Test.YthhaaakabpnbnaaGaps
namespace Go.Proofs.Ythhaaakabpnbnaa
open Go.RowKit
set_option linter.unusedVariables false
set_option linter.unusedSimpArgs false

theorem step_append_own {P : Program} (w : World) {ops : Array Oper} {o : Oper} {a : Act} {K : Act → World → Prop} {Q : Exit → Act → World → Prop} {E : Prop} (hgd : o.guard = none) (s x : Operand) (t : TypeId)
    (ho : o.op = .call { callee := .builtin .append, args := #[s, x], argTypes := #[t, t] })
    (base : Nat) (e : TypeId) (i : TypeInfo) (z : Value) (size bytes : Nat) (ht : P.underlying t = some (.slice e)) (hi : P.info? e = some i) (hz : i.zero = some z)
    (hsize : i.size = size) (hby : i.bytes = bytes) (hzs : z.cells.size = size) (hsz : 0 < size)
    (v : Value) (n : Nat) (xs : List Value) (hs : a.eval s = v) (hown : w.ownsRow base e size v n xs)
    (ad : Addr) (m c : Nat) (news : List Value) (hx : a.eval x = .slice (some ad) m c) (hl : news.length = m * size) (hnews : ∀ j u, news[j]? = some u → w.cell? (ad.add j) = some u) (h1 : ∀ u ∈ news, u.oneCell' = true)
    (h63 : n + m ≤ maxLen) (hbytes : (n + m) * bytes ≤ 140737488355328) (hbase : base ≤ w.heap.size)
    (h : ∀ v' w', w'.ownsRow base e size v' (n + m) (xs ++ news) → w.grownBy w' v.ownBlock → K (a.put o.dst v') w') :
    if Region.wanted o (yielded ops a.tmps) = true then Oper.wp P o a w K Q else E := by
  have hw : Region.wanted o (yielded ops a.tmps) = true := by simp [Region.wanted, hgd]
  rw [if_pos hw]
  exact wp_append_own w s x t ho base e i z size bytes ht hi hz hsize hby hzs hsz v n xs hs hown ad m c news hx hl hnews h1 h63 hbytes hbase fun v' w' h2 h3 _ => h v' w' h2 h3
theorem last_split {L : List Sp} {y : Sp} (h : L.getLast? = some y) : L.dropLast ++ [y] = L := by
  have hne : L ≠ [] := by intro q; rw [q] at h; cases h
  have := List.dropLast_concat_getLast hne
  rw [List.getLast?_eq_some_getLast hne] at h
  rw [← Option.some.inj h]
  exact this
theorem Gath.last {base : Nat} {w W : World} {g cap m : Nat} {L : List Sp} {y : Sp} (hb : w.heap.size ≤ base) (h : Gath base w W (.slice (some ⟨g, 0, none⟩) (m + 1) cap) L) (hl : L.length = m + 1) (hy : L.getLast? = some y) (b : Int) :
    Gath base w (W.setCell ⟨g, m * 2 + 1, none⟩ (.int .i64 b)) (.slice (some ⟨g, 0, none⟩) (m + 1) cap) (L.dropLast ++ [(y.1, b)]) := by
  have ho := h.own
  rw [hl] at ho
  have hg : base ≤ g := (ho.lt g rfl).1
  have hs := last_split hy
  have hd : L.dropLast.length = m := by rw [List.length_dropLast, hl]; rfl
  refine ⟨?_, h.q.setCell (fun q => absurd q (by show ¬ g < w.heap.size; omega)) _⟩
  have h2 := (ho.stored (m * 2 + 1) (.int .i64 b)).1
  rw [show (L.dropLast ++ [(y.1, b)]).length = m + 1 by rw [List.length_append, hd]; rfl]
  have e : flat (L.dropLast ++ [(y.1, b)]) = (flat L).set (m * 2 + 1) (.int .i64 b) := by
    conv => rhs; rw [← hs]
    rw [flat_app, flat_app, List.set_append, if_neg (by rw [flat_len, hd]; omega), flat_len, hd, show m * 2 + 1 - m * 2 = 1 by omega]
    rfl
  rw [e]
  exact h2
theorem Gath.same {base : Nat} {w W W' : World} {v : Value} {L : List Sp} (h : Gath base w W v L) (hq : Quiet W W') : Gath base w W' v L := by
  refine ⟨?_, h.q.trans hq⟩
  obtain ⟨h1, h2⟩ := h.own
  refine ⟨h1, h2.imp_right ?_⟩
  rintro ⟨g, cap, cur, h3, h4, h5, h6⟩
  exact ⟨g, cap, cur, h3, h4, hq.keep h5 (fun x => x), h6⟩
theorem Gath.tail {base : Nat} {w W : World} {v : Value} {L : List Sp} (h : Gath base w W v L) {m : Nat} (hl : L.length = m + 1) {y : Sp} (hy : L.getLast? = some y) :
    ∃ g cap, v = .slice (some ⟨g, 0, none⟩) (m + 1) cap ∧ W.cell? ⟨g, m * 2 + 1, none⟩ = some (.int .i64 y.2) ∧ W.frozen? ⟨g, m * 2 + 1, none⟩ = false ∧ g < W.heap.size := by
  have ho := h.own
  rw [hl] at ho
  obtain ⟨g, cap, rfl⟩ := row_slice ho
  refine ⟨g, cap, rfl, ?_, ho.frozenAt _, (ho.lt g rfl).2⟩
  rw [ho.cellAt (m * 2 + 1) (by omega)]
  exact (flat_at (show L[m]? = some y by rw [← hy, List.getLast?_eq_getElem?, hl]; rfl)).2
theorem ends_bound {l : List Sp} {s : Sp} (hg : Good l) (hs : isSp s = true) {z : Int} (hz : z ∈ ends l s) : 0 ≤ z ∧ z ≤ 1048576 := by
  have hs := isSp_iff.1 hs
  unfold ends at hz
  rcases List.mem_append.1 hz with hz | hz
  · obtain ⟨x, hx, hz⟩ := List.mem_flatMap.1 hz
    have := hg.ok x hx
    unfold Ok1 at this
    simp only [List.mem_cons, List.not_mem_nil, or_false] at hz
    rcases hz with rfl | rfl <;> omega
  · simp only [List.mem_cons, List.not_mem_nil, or_false] at hz
    rcases hz with rfl | rfl <;> omega
theorem ends_in {l : List Sp} {s : Sp} {E : List Int} (h : ∀ z, z ∈ E ↔ z ∈ ends l s) : (∀ x ∈ l, x.1 ∈ E ∧ x.2 ∈ E) ∧ ∀ x ∈ [s], x.1 ∈ E ∧ x.2 ∈ E := by
  constructor
  · intro x hx
    rw [h, h]
    exact ⟨List.mem_append.2 (.inl (List.mem_flatMap.2 ⟨x, hx, by simp⟩)), List.mem_append.2 (.inl (List.mem_flatMap.2 ⟨x, hx, by simp⟩))⟩
  · intro x hx
    simp only [List.mem_cons, List.not_mem_nil, or_false] at hx
    subst hx
    rw [h, h]
    exact ⟨List.mem_append.2 (.inr (by simp)), List.mem_append.2 (.inr (by simp))⟩
/-- One more place. -/
theorem of_step {l : List Sp} {s : Sp} {what : Int} {E : List Int} (hg : Good l) (hs : isSp s = true) (hE : Rising E) (hm : ∀ z, z ∈ E ↔ z ∈ ends l s) {i : Nat} {lo a b : Int} (h0 : E[0]? = some lo) (ha : E[i]? = some a) (hb : E[i + 1]? = some b) {L : List Sp} (h : OfInv lo a (fun p => okP what (inn l p) (inn [s] p)) L) :
    OfInv lo b (fun p => okP what (inn l p) (inn [s] p)) (stepOf (okP what (inn l a) (inn [s] a)) L a b) := by
  have pw := List.pairwise_iff_getElem.1 hE
  obtain ⟨h0L, rfl⟩ := List.getElem?_eq_some_iff.1 h0
  obtain ⟨haL, rfl⟩ := List.getElem?_eq_some_iff.1 ha
  obtain ⟨hbL, rfl⟩ := List.getElem?_eq_some_iff.1 hb
  have b1 := ends_bound hg hs ((hm _).1 (List.getElem_mem haL))
  have b2 := ends_bound hg hs ((hm _).1 (List.getElem_mem hbL))
  obtain ⟨e1, e2⟩ := ends_in hm
  refine h.step ?_ (pw i (i + 1) haL hbL (by omega)) b1.1 b2.2 fun p h1 h2 => ?_
  · rcases Nat.eq_zero_or_pos i with rfl | q
    · exact Int.le_refl _
    · exact pw 0 i h0L haL q
  · rw [inn_const hE ha hb e1 h1 h2, inn_const hE ha hb e2 h1 h2]
theorem stepOf_eq {okb : Bool} {L : List Sp} {a : Int} : stepOf okb L a a = L := by unfold stepOf; rw [if_pos (.inl rfl)]
theorem stepOf_no {L : List Sp} {a b : Int} : stepOf false L a b = L := by unfold stepOf; rw [if_pos (.inr rfl)]
theorem stepOf_nil {a b : Int} (h : a ≠ b) : stepOf true [] a b = [] ++ [(a, b)] := by unfold stepOf; rw [if_neg (by simp [h])]; rfl
theorem stepOf_grow {L : List Sp} {y : Sp} {a b : Int} (h : a ≠ b) (hl : L.getLast? = some y) (hy : y.2 = a) : stepOf true L a b = L.dropLast ++ [(y.1, b)] := by unfold stepOf; rw [if_neg (by simp [h]), hl]; simp [hy]
theorem stepOf_new {L : List Sp} {y : Sp} {a b : Int} (h : a ≠ b) (hl : L.getLast? = some y) (hy : y.2 ≠ a) : stepOf true L a b = L ++ [(a, b)] := by unfold stepOf; rw [if_neg (by simp [h]), hl]; simp [hy]
theorem box_at' (w : World) (s : Sp) : ∀ W, Quiet (w.alloc (.cells #[.int .i64 s.1, .int .i64 s.2] 28)) W → W.cell? ⟨w.heap.size, 0, none⟩ = some (.int .i64 s.1) ∧ W.cell? ⟨w.heap.size, 1, none⟩ = some (.int .i64 s.2) ∧ w.heap.size < W.heap.size := fun W hW =>
  have b0 := blk_new w (.cells #[.int .i64 s.1, .int .i64 s.2] 28)
  ⟨blk_cell (hW.keep b0 (fun x => x)) 0, blk_cell (hW.keep b0 (fun x => x)) 1, lt_of_heap (hW.keep b0 (fun x => x))⟩
end Go.Proofs.Ythhaaakabpnbnaa
