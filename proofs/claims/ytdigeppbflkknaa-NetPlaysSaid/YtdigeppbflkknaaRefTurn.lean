/-
  A wire of the reference's turned. No conditions.
-/
import Derived.Test.YtdigeppbflkknaaRefGets
namespace Go.Proofs.Ytdigeppbflkknaa
open Go.RowKit
set_option linter.unusedVariables false
set_option linter.unusedSimpArgs false

theorem Only.over {S T : Nat → Prop} {a b c : World} (h : Only S a b) (k : Only T b c) (hT : ∀ i, i < a.heap.size → T i → S i) : Only S a c :=
  ⟨k.os.trans h.os, k.tape.trans h.tape, k.output.trans h.output, Nat.le_trans h.size k.size, fun i hi hs => (k.block i (Nat.lt_of_lt_of_le hi h.size) (fun q => hs (hT i hi q))).trans (h.block i hi hs)⟩
/-- The blocks that a call of the reference's may turn. -/
def RSide (w : World) (k : Nat) : Prop := ∃ cur e, w.heap[k]? = some (.cells cur e (0, 0)) ∧ (e = 44 ∨ e = 71)
/-- The rows of bytes. -/
def RB (ys : List (RW × Wire)) (k : Nat) : Prop := ∃ y ∈ ys, RowOf y.1.A0 k ∨ RowOf y.1.A1 k
structure RStep (wr w' : World) (ys ys' : List (RW × Wire)) : Prop where
  only : Only (RSide wr) wr w'
  grow : ∀ k, RB ys' k → RB ys k ∨ wr.heap.size ≤ k
theorem RStep.quiet {wr w' : World} {ys : List (RW × Wire)} (h : Quiet wr w') : RStep wr w' ys ys := ⟨h.mono (fun _ _ x => x.elim), fun k hk => .inl hk⟩
theorem own_set {W : World} {base g cap n j : Nat} {xs : List Value} (h : W.ownsRow base 71 5 (.slice (some ⟨g, 0, none⟩) n cap) n xs) (hj : j < n * 5) (c : Value) :
    (W.setCell ⟨g, j, none⟩ c).ownsRow base 71 5 (.slice (some ⟨g, 0, none⟩) n cap) n (xs.set j c) := by
  obtain ⟨h1, ⟨h2, _⟩ | ⟨g', cap', cur, h3, h4, h5, h6, h7, h8, h9⟩⟩ := h
  · cases h2
  · simp only [Value.slice.injEq, Option.some.injEq, Addr.mk.injEq] at h3
    obtain ⟨⟨rfl, _⟩, _, rfl⟩ := h3
    refine ⟨by simpa using h1, .inr ⟨g, cap, _, rfl, h4, blk_set h5 j c, h6, h7, by simpa using h8, ?_⟩⟩
    rw [← h9, Array.toList_setIfInBounds, List.take_set]
theorem rflat_set1 : ∀ {ys : List (RW × Wire)} {i : Nat} {y : RW × Wire}, ys[i]? = some y → ∀ (y' : RW × Wire) (j : Nat) (c : Value), j < 5 → rcells y' = (rcells y).set j c → (rflat ys).set (i * 5 + j) c = rflat (ys.set i y')
  | [], i, y, h, _, _, _, _, _ => by simp at h
  | x :: l, 0, y, h, y', j, c, hj, e => by
    simp only [List.getElem?_cons_zero, Option.some.injEq] at h
    subst h
    simp only [rflat, List.flatMap_cons, List.set_cons_zero]
    rw [e, Nat.zero_mul, Nat.zero_add, List.set_append_left _ _ (by simp [rcells]; exact hj)]
  | x :: l, i + 1, y, h, y', j, c, hj, e => by
    have := rflat_set1 (ys := l) (i := i) h y' j c hj e
    simp only [rflat, List.flatMap_cons, List.set_cons_succ] at this ⊢
    rw [List.set_append_right _ _ (by simp [rcells]; omega), show (i + 1) * 5 + j - (rcells x).length = i * 5 + j by simp [rcells]; omega, this]
theorem rflat_set5 : ∀ {ys : List (RW × Wire)} {i : Nat} {y : RW × Wire}, ys[i]? = some y → ∀ (y' : RW × Wire) (c0 c1 c2 c3 c4 : Value), rcells y' = [c0, c1, c2, c3, c4] →
    (((((rflat ys).set (i * 5) c0).set (i * 5 + 1) c1).set (i * 5 + 2) c2).set (i * 5 + 3) c3).set (i * 5 + 4) c4 = rflat (ys.set i y')
  | [], i, y, h, _, _, _, _, _, _, _ => by simp at h
  | x :: l, 0, y, h, y', c0, c1, c2, c3, c4, e => by
    simp only [rflat, List.flatMap_cons, List.set_cons_zero]
    rw [e]
    simp [rcells]
  | x :: l, i + 1, y, h, y', c0, c1, c2, c3, c4, e => by
    have := rflat_set5 (ys := l) (i := i) h y' c0 c1 c2 c3 c4 e
    simp only [rflat, List.flatMap_cons, List.set_cons_succ] at this ⊢
    rw [← this, show (i + 1) * 5 = i * 5 + 5 by omega]
    simp [rcells, Nat.add_right_comm]
theorem rb_at {ys : List (RW × Wire)} {i : Nat} {y : RW × Wire} (hy : ys[i]? = some y) {k : Nat} (h : RowOf y.1.A0 k ∨ RowOf y.1.A1 k) : RB ys k := ⟨y, List.mem_of_getElem? hy, h⟩
/-- One wire turned. -/
theorem RNet.turn {base : Nat} {w wr w' : World} {p g cap : Nat} {ys : List (RW × Wire)} (h : RNet base w wr p (.slice (some ⟨g, 0, none⟩) ys.length cap) ys) {i : Nat} {y y' : RW × Wire} (hy : ys[i]? = some y) (ho : Only (· = g) wr w')
    (own : w'.ownsRow base 71 5 (.slice (some ⟨g, 0, none⟩) ys.length cap) ys.length (rflat (ys.set i y'))) (hs : Sl wr 5 y'.1.A0 y'.2.q0.length y'.1.c0 (bytes y'.2.q0) ∧ Sl wr 5 y'.1.A1 y'.2.q1.length y'.1.c1 (bytes y'.2.q1))
    (hg : y'.2.lost = true → y'.2 = lostWire) : RNet base w w' p (.slice (some ⟨g, 0, none⟩) ys.length cap) (ys.set i y') := by
  obtain ⟨_, ⟨h2, _⟩ | ⟨g', cap', cur, h3, h4, h5, h6, h7, h8, h9⟩⟩ := h.own
  · cases h2
  · simp only [Value.slice.injEq, Option.some.injEq, Addr.mk.injEq] at h3
    obtain ⟨⟨rfl, _⟩, _, rfl⟩ := h3
    have far : ∀ {A : Option Addr} {n c : Nat} {xs : List Value}, Sl wr 5 A n c xs → Sl w' 5 A n c xs := fun hS => hS.only ho (fun k hk e => by
      obtain ⟨cu, hc⟩ := hS.type hk
      subst e
      exact blk_ne hc h5 (by decide) rfl)
    refine ⟨ho.keep h.net (fun e => blk_ne h.net h5 (by decide) e), by simpa using own, h.lo, h.q.over ho (fun k hk e => by have := h.lo.1; omega), fun z hz => ?_, by simpa using h.small, fun z hz => ?_⟩
    · rcases List.mem_or_eq_of_mem_set hz with hz | rfl
      · exact ⟨far (h.sl z hz).1, far (h.sl z hz).2⟩
      · exact ⟨far hs.1, far hs.2⟩
    · rcases List.mem_or_eq_of_mem_set hz with hz | rfl
      · exact h.gone z hz
      · exact hg
theorem RNet.gside {base : Nat} {w wr : World} {p g n cap : Nat} {ys : List (RW × Wire)} (h : RNet base w wr p (.slice (some ⟨g, 0, none⟩) n cap) ys) : RSide wr g ∧ (∃ cur, wr.heap[g]? = some (.cells cur 71 (0, 0))) := by
  obtain ⟨_, ⟨h2, _⟩ | ⟨g', cap', cur, h3, h4, h5, _⟩⟩ := h.own
  · cases h2
  · simp only [Value.slice.injEq, Option.some.injEq, Addr.mk.injEq] at h3
    obtain ⟨⟨rfl, _⟩, _, rfl⟩ := h3
    exact ⟨⟨cur, 71, h5, .inr rfl⟩, cur, h5⟩
theorem rb_set {ys : List (RW × Wire)} {i : Nat} {y' : RW × Wire} {b k : Nat} (hr : ∀ k, (RowOf y'.1.A0 k ∨ RowOf y'.1.A1 k) → RB ys k ∨ b ≤ k) (h : RB (ys.set i y') k) : RB ys k ∨ b ≤ k := by
  obtain ⟨z, hz, h⟩ := h
  rcases List.mem_or_eq_of_mem_set hz with hz | rfl
  · exact .inl ⟨z, hz, h⟩
  · exact hr k h
theorem wires_set (ys : List (RW × Wire)) (i : Nat) (y : RW × Wire) : wires (ys.set i y) = (wires ys).set i y.2 := by simp [wires, List.map_set]
/-- One cell of one wire turned, behind quiet steps. -/
theorem RNet.turn1 {base : Nat} {w wr W : World} {p g cap : Nat} {ys : List (RW × Wire)} (h : RNet base w wr p (.slice (some ⟨g, 0, none⟩) ys.length cap) ys) (hq : Quiet wr W) {i : Nat} {y : RW × Wire} (hy : ys[i]? = some y) (y' : RW × Wire) (j : Nat) (c : Value) (hj : j < 5)
    (e : rcells y' = (rcells y).set j c) (hs : Sl W 5 y'.1.A0 y'.2.q0.length y'.1.c0 (bytes y'.2.q0) ∧ Sl W 5 y'.1.A1 y'.2.q1.length y'.1.c1 (bytes y'.2.q1)) (hg : y'.2.lost = true → y'.2 = lostWire)
    (hr : ∀ k, (RowOf y'.1.A0 k ∨ RowOf y'.1.A1 k) → RB ys k ∨ wr.heap.size ≤ k) :
    RNet base w (W.setCell ⟨g, i * 5 + j, none⟩ c) p (.slice (some ⟨g, 0, none⟩) ys.length cap) (ys.set i y') ∧ wires (ys.set i y') = (wires ys).set i y'.2 ∧ RStep wr (W.setCell ⟨g, i * 5 + j, none⟩ c) ys (ys.set i y') := by
  have h2 := h.quiet hq
  have hi : i < ys.length := (List.getElem?_eq_some_iff.1 hy).1
  have ho : Only (· = g) W (W.setCell ⟨g, i * 5 + j, none⟩ c) := Only.setCell (S := (· = g)) (Only.refl _ _) (fun _ => rfl) _
  refine ⟨h2.turn hy ho ?_ hs hg, wires_set _ _ _, ⟨?_, fun k hk => rb_set hr hk⟩⟩
  · rw [← rflat_set1 hy y' j c hj e]
    exact own_set h2.own (by omega) c
  · exact (hq.mono (fun _ _ x => x.elim)).trans (ho.mono fun k hk e => by subst e; exact h.gside.1)
def set5 (W : World) (g o : Nat) (c0 c1 c2 c3 c4 : Value) : World := ((((W.setCell ⟨g, o, none⟩ c0).setCell ⟨g, o + 1, none⟩ c1).setCell ⟨g, o + 2, none⟩ c2).setCell ⟨g, o + 3, none⟩ c3).setCell ⟨g, o + 4, none⟩ c4
/-- All cells of one wire turned, behind quiet steps. -/
theorem RNet.turn5 {base : Nat} {w wr W : World} {p g cap : Nat} {ys : List (RW × Wire)} (h : RNet base w wr p (.slice (some ⟨g, 0, none⟩) ys.length cap) ys) (hq : Quiet wr W) {i : Nat} {y : RW × Wire} (hy : ys[i]? = some y) (y' : RW × Wire) (c0 c1 c2 c3 c4 : Value)
    (e : rcells y' = [c0, c1, c2, c3, c4]) (hs : Sl W 5 y'.1.A0 y'.2.q0.length y'.1.c0 (bytes y'.2.q0) ∧ Sl W 5 y'.1.A1 y'.2.q1.length y'.1.c1 (bytes y'.2.q1)) (hg : y'.2.lost = true → y'.2 = lostWire)
    (hr : ∀ k, (RowOf y'.1.A0 k ∨ RowOf y'.1.A1 k) → RB ys k ∨ wr.heap.size ≤ k) :
    RNet base w (set5 W g (i * 5) c0 c1 c2 c3 c4) p (.slice (some ⟨g, 0, none⟩) ys.length cap) (ys.set i y') ∧ wires (ys.set i y') = (wires ys).set i y'.2 ∧ RStep wr (set5 W g (i * 5) c0 c1 c2 c3 c4) ys (ys.set i y') := by
  have h2 := h.quiet hq
  have hi : i < ys.length := (List.getElem?_eq_some_iff.1 hy).1
  have st : ∀ (X : World) (o : Nat) (c : Value), Only (· = g) W X → Only (· = g) W (X.setCell ⟨g, o, none⟩ c) := fun X o c h => Only.setCell (S := (· = g)) h (fun _ => rfl) _
  have ho : Only (· = g) W (set5 W g (i * 5) c0 c1 c2 c3 c4) := st _ _ _ (st _ _ _ (st _ _ _ (st _ _ _ (st _ _ _ (Only.refl _ _)))))
  refine ⟨h2.turn hy ho ?_ hs hg, wires_set _ _ _, ⟨?_, fun k hk => rb_set hr hk⟩⟩
  · rw [← rflat_set5 hy y' c0 c1 c2 c3 c4 e]
    exact own_set (own_set (own_set (own_set (own_set h2.own (by omega) _) (by omega) _) (by omega) _) (by omega) _) (by omega) _
  · exact (hq.mono (fun _ _ x => x.elim)).trans (ho.mono fun k hk e => by subst e; exact h.gside.1)
end Go.Proofs.Ytdigeppbflkknaa
