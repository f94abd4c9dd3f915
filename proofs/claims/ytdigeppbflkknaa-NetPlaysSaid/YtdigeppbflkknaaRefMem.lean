/-
  The reference's net in memory: a block that holds a slice of wires, five cells each, in a row of its own; what waits on a wire is never written in place. No conditions.
-/
import Derived.Test.YtdigeppbflkknaaBoxes
namespace Go.Proofs.Ytdigeppbflkknaa
open Go.RowKit
set_option linter.unusedVariables false
set_option linter.unusedSimpArgs false

structure RW where
  A0 : Option Addr
  c0 : Nat
  A1 : Option Addr
  c1 : Nat
def rcells (y : RW × Wire) : List Value := [.slice y.1.A0 y.2.q0.length y.1.c0, .slice y.1.A1 y.2.q1.length y.1.c1, .bool y.2.s1, .bool y.2.s0, .bool y.2.lost]
def rflat (ys : List (RW × Wire)) : List Value := ys.flatMap rcells
theorem rflat_len : ∀ ys : List (RW × Wire), (rflat ys).length = ys.length * 5
  | [] => rfl
  | x :: l => by
    have := rflat_len l
    simp only [rflat, List.flatMap_cons, List.length_append, List.length_cons] at this ⊢
    rw [this]
    simp [rcells]
    omega
theorem rflat_at : ∀ {ys : List (RW × Wire)} {i : Nat} {y : RW × Wire}, ys[i]? = some y → ∀ j, j < 5 → (rflat ys)[i * 5 + j]? = (rcells y)[j]?
  | [], i, y, h, _, _ => by simp at h
  | x :: l, 0, y, h, j, hj => by
    simp only [List.getElem?_cons_zero, Option.some.injEq] at h
    subst h
    rw [Nat.zero_mul, Nat.zero_add]
    simp only [rflat, List.flatMap_cons]
    rw [List.getElem?_append_left (by simp [rcells]; exact hj)]
  | x :: l, i + 1, y, h, j, hj => by
    have := rflat_at (ys := l) (i := i) h j hj
    simp only [rflat, List.flatMap_cons] at this ⊢
    rw [List.getElem?_append_right (by simp [rcells]; omega), show (i + 1) * 5 + j - (rcells x).length = i * 5 + j by simp [rcells]; omega]
    exact this
structure RNet (base : Nat) (w wr : World) (p : Nat) (v : Value) (ys : List (RW × Wire)) : Prop where
  net : wr.heap[p]? = some (.cells #[v] 44 (0, 0))
  own : wr.ownsRow base 71 5 v ys.length (rflat ys)
  lo : w.heap.size ≤ base ∧ w.heap.size ≤ p
  q : Quiet w wr
  sl : ∀ y ∈ ys, Sl wr 5 y.1.A0 y.2.q0.length y.1.c0 (bytes y.2.q0) ∧ Sl wr 5 y.1.A1 y.2.q1.length y.1.c1 (bytes y.2.q1)
  small : ys.length ≤ 256
  gone : ∀ y ∈ ys, y.2.lost = true → y.2 = lostWire
def wires (ys : List (RW × Wire)) : List Wire := ys.map (·.2)
theorem RNet.quiet {base : Nat} {w wr W : World} {p : Nat} {v : Value} {ys : List (RW × Wire)} (h : RNet base w wr p v ys) (hq : Quiet wr W) : RNet base w W p v ys := by
  refine ⟨hq.keep h.net (fun x => x), ?_, h.lo, h.q.trans hq, fun y hy => ⟨(h.sl y hy).1.only hq (fun _ _ x => x), (h.sl y hy).2.only hq (fun _ _ x => x)⟩, h.small, h.gone⟩
  obtain ⟨h1, h2⟩ := h.own
  refine ⟨h1, h2.imp_right ?_⟩
  rintro ⟨g, cap, cur, h3, h4, h5, h6⟩
  exact ⟨g, cap, cur, h3, h4, hq.keep h5 (fun x => x), h6⟩
/-- A wire's cells. -/
theorem RNet.cells {base : Nat} {w wr : World} {p : Nat} {v : Value} {ys : List (RW × Wire)} (h : RNet base w wr p v ys) {i : Nat} {y : RW × Wire} (hy : ys[i]? = some y) :
    ∃ g cap, v = .slice (some ⟨g, 0, none⟩) ys.length cap ∧ ys.length ≤ cap ∧ cap ≤ maxLen ∧ g < wr.heap.size ∧ base ≤ g ∧ ∀ j, j < 5 → wr.cell? ⟨g, i * 5 + j, none⟩ = (rcells y)[j]? := by
  have hi : i < ys.length := (List.getElem?_eq_some_iff.1 hy).1
  obtain ⟨h1, ⟨_, h2⟩ | ⟨g, cap, cur, rfl, h4, h5, h6, h7, h8, h9⟩⟩ := h.own
  · omega
  · refine ⟨g, cap, rfl, h6, h7, lt_of_heap h5, h4, fun j hj => ?_⟩
    rw [blk_cell h5, ← rflat_at hy j hj, ← h9, List.getElem?_take, if_pos (by omega), Array.getElem?_toList]
theorem RNet.shape {base : Nat} {w wr : World} {p : Nat} {v : Value} {ys : List (RW × Wire)} (h : RNet base w wr p v ys) : ∃ A cap, v = .slice A ys.length cap ∧ cap ≤ maxLen := by
  obtain ⟨h1, ⟨rfl, h2⟩ | ⟨g, cap, cur, rfl, h4, h5, h6, h7, h8, h9⟩⟩ := h.own
  · exact ⟨none, 0, by rw [h2], by unfold maxLen; omega⟩
  · exact ⟨_, cap, rfl, h7⟩
set_option maxHeartbeats 4000000 in
theorem wrong_bad {base : Nat} {w wr : World} {p : Nat} {v : Value} {ys : List (RW × Wire)} (h : RNet base w wr p v ys) (k side : Int) (hb : k < 1 ∨ (ys.length : Int) < k ∨ (side ≠ 0 ∧ side ≠ 1)) :
    Calls Try.prog 28 #[.pointer (some ⟨p, 0, none⟩), .int .i64 k, .int .i64 side] wr fun e w' => e = .returned (.int .i64 2) ∧ Quiet wr w' := by
  have c0 := blk_cell h.net 0
  simp only [List.getElem?_toArray, List.getElem?_cons_zero] at c0
  have ps := lt_of_heap h.net
  obtain ⟨A, cap, rfl, hcm⟩ := h.shape
  obtain ⟨N, hN⟩ : ∃ N, N = ys.length := ⟨_, rfl⟩
  rw [← hN] at c0 hb
  clear hN h hcm
  by_cases h1 : k < 1
  · have d1 : decide (k < 1) = true := decide_eq_true h1
    go_enter Try.func28, Try.ntmps28
    go_wp2
    go_ret
    exact ⟨rfl, by repeat (first | exact Only.refl _ _ | refine Only.drewN ?_ _ | refine Only.drew ?_)⟩
  · have d1 : decide (k < 1) = false := decide_eq_false h1
    by_cases h2 : (N : Int) < k
    · have d2 : decide ((N : Int) < k) = true := decide_eq_true h2
      go_enter Try.func28, Try.ntmps28
      go_wp2
      go_ret
      exact ⟨rfl, by repeat (first | exact Only.refl _ _ | refine Only.drewN ?_ _ | refine Only.drew ?_)⟩
    · have d2 : decide ((N : Int) < k) = false := decide_eq_false h2
      have h3 : side ≠ 0 ∧ side ≠ 1 := by omega
      have d3 : (side != 0) = true := by simp; omega
      have d4 : (side != 1) = true := by simp; omega
      clear hb h3
      go_enter Try.func28, Try.ntmps28
      go_wp2
      go_ret
      exact ⟨rfl, by repeat (first | exact Only.refl _ _ | refine Only.drewN ?_ _ | refine Only.drew ?_)⟩
set_option maxHeartbeats 4000000 in
theorem wrong_there {base : Nat} {w wr : World} {p : Nat} {v : Value} {ys : List (RW × Wire)} (h : RNet base w wr p v ys) {i : Nat} {y : RW × Wire} (hy : ys[i]? = some y) (side : Int) (hs : side = 0 ∨ side = 1) :
    Calls Try.prog 28 #[.pointer (some ⟨p, 0, none⟩), .int .i64 ((i : Int) + 1), .int .i64 side] wr fun e w' => e = .returned (.int .i64 (if y.2.lost then 20 else 0)) ∧ Quiet wr w' := by
  have c0 := blk_cell h.net 0
  simp only [List.getElem?_toArray, List.getElem?_cons_zero] at c0
  have ps := lt_of_heap h.net
  have hsm := h.small
  obtain ⟨g, cap, rfl, hcap, hcm, gs, _, hc⟩ := h.cells hy
  have c4 : wr.cell? ⟨g, i * 5 + 4, none⟩ = some (.bool y.2.lost) := hc 4 (by omega)
  have hi : i < ys.length := (List.getElem?_eq_some_iff.1 hy).1
  unfold maxLen at hcm
  obtain ⟨N, hN⟩ : ∃ N, N = ys.length := ⟨_, rfl⟩
  rw [← hN] at c0 hi hsm hcap
  obtain ⟨t, ht⟩ : ∃ t, t = y.2.lost := ⟨_, rfl⟩
  rw [← ht] at c4 ⊢
  clear hN h hc hy ht
  have d1 : decide ((i : Int) + 1 < 1) = false := by simp; omega
  have d2 : decide ((N : Int) < (i : Int) + 1) = false := by simp; omega
  have i0 : (0 : Int) ≤ (i : Int) := by omega
  have i1 : (i : Int) < (N : Int) := by omega
  rcases hs with rfl | rfl <;> cases t
  all_goals
    go_enter Try.func28, Try.ntmps28
    go_wp2
    go_ret
    exact ⟨by simp, by repeat (first | exact Only.refl _ _ | refine Only.drewN ?_ _ | refine Only.drew ?_)⟩
theorem wires_at {ys : List (RW × Wire)} {i : Nat} {y : RW × Wire} (hy : ys[i]? = some y) : (wires ys)[i]? = some y.2 := by simp [wires, hy]
/-- 'wrong', at whatever place. -/
theorem wrong_at {base : Nat} {w wr : World} {p : Nat} {v : Value} {ys : List (RW × Wire)} (h : RNet base w wr p v ys) (k side : Int) :
    Calls Try.prog 28 #[.pointer (some ⟨p, 0, none⟩), .int .i64 k, .int .i64 side] wr fun e w' => e = .returned (.int .i64 (at_ (wires ys) k side).1) ∧ Quiet wr w' := by
  have hl : (wires ys).length = ys.length := by simp [wires]
  by_cases hb : k < 1 ∨ (ys.length : Int) < k ∨ (side ≠ 0 ∧ side ≠ 1)
  · rw [at_bad (by rw [hl]; omega)]
    exact wrong_bad h k side hb
  · obtain ⟨i, rfl⟩ : ∃ i : Nat, k = (i : Int) + 1 := ⟨(k - 1).toNat, by omega⟩
    obtain ⟨y, hy⟩ : ∃ y, ys[i]? = some y := ⟨_, List.getElem?_eq_getElem (by omega)⟩
    rw [at_ok (wires_at hy) (by omega)]
    exact wrong_there h hy side (by omega)
end Go.Proofs.Ytdigeppbflkknaa
