/-
  NetOrder in plain words: one wire, what was sent and what was got. No program here. No conditions.
-/
import Derived.Test.YtdigeppbflkknaaModel
namespace Go.Proofs.Ytdigeppbflkknaa
set_option linter.unusedVariables false
set_option linter.unusedSimpArgs false

theorem open_one : openF [] = (1, 0, [newWire]) := rfl
theorem one_at (x : Wire) (side : Int) (hs : side = 0 ∨ side = 1) : at_ [x] 1 side = (if x.lost then 20 else 0, x) := at_ok (xs := [x]) (i := 0) rfl hs
/-- The wire: Q y is what side y sent and nobody took yet; the sides below s have shut. -/
def wireQ (Q : Nat → List UInt8) (s : Nat) : Wire := ⟨Q 1, Q 0, decide (1 < s), decide (0 < s), false⟩
def upQ (Q : Nat → List UInt8) (y : Nat) (l : List UInt8) : Nat → List UInt8 := fun j => if j = y then l else Q j
theorem two {y : Nat} (h : y < 2) : y = 0 ∨ y = 1 := by omega
theorem wq_new : [newWire] = [wireQ (fun _ => []) 0] := rfl
theorem wq_send {Q : Nat → List UInt8} {y : Nat} {l : List UInt8} (hy : y < 2) (h : (l.length : Int) ≤ 1048576 - (Q y).length) : sendF [wireQ Q 0] 1 y l = (0, [wireQ (upQ Q y (Q y ++ l)) 0]) := by
  rcases two hy with rfl | rfl
  · have h' : ¬ (1048576 - ((Q 0).length : Int) < l.length) := by omega
    simp [sendF, one_at _ 0 (.inl rfl), wireQ, upQ, Wire.s, Wire.q, Wire.setQ, h']
  · have h' : ¬ (1048576 - ((Q 1).length : Int) < l.length) := by omega
    simp [sendF, one_at _ 1 (.inr rfl), wireQ, upQ, Wire.s, Wire.q, Wire.setQ, h']
theorem wq_take {Q : Nat → List UInt8} {y s : Nat} (t : Int) (ht : t = 1 - (y : Int)) (hy : y < 2) (m : Nat) : takeF [wireQ Q s] 1 t m = (0, (Q y).take m, [wireQ (upQ Q y ((Q y).drop m)) s]) := by
  rcases two hy with rfl | rfl
  · obtain rfl : t = 1 := by omega
    simp only [takeF, one_at _ _ (.inr rfl), wireQ, upQ, Wire.q, Wire.setQ]
    rw [if_neg (by omega)]
    simp
  · obtain rfl : t = 0 := by omega
    simp only [takeF, one_at _ _ (.inl rfl), wireQ, upQ, Wire.q, Wire.setQ]
    rw [if_neg (by omega)]
    simp
theorem wq_shut {Q : Nat → List UInt8} {s : Nat} (hs : s < 2) : shutF [wireQ Q s] 1 s = (0, [wireQ Q (s + 1)]) := by
  rcases two hs with rfl | rfl
  · simp only [shutF, one_at _ _ (.inl rfl), wireQ, Wire.s, Wire.setS]
    simp [one_at _ 0 (.inl rfl), one_at _ 1 (.inr rfl)]
  · simp only [shutF, one_at _ _ (.inr rfl), wireQ, Wire.s, Wire.setS]
    simp [one_at _ 0 (.inl rfl), one_at _ 1 (.inr rfl)]
theorem wq_send_shut {Q : Nat → List UInt8} {s : Nat} {l : List UInt8} (hs : s < 2) : sendF [wireQ Q (s + 1)] 1 s l = (16, [wireQ Q (s + 1)]) := by
  rcases two hs with rfl | rfl
  · simp only [sendF, one_at _ _ (.inl rfl), wireQ, Wire.s]
    simp [one_at _ 0 (.inl rfl), one_at _ 1 (.inr rfl)]
  · simp only [sendF, one_at _ _ (.inr rfl), wireQ, Wire.s]
    simp [one_at _ 0 (.inl rfl), one_at _ 1 (.inr rfl)]
theorem wq_ended {Q : Nat → List UInt8} {s : Nat} (t : Int) (ht : t = 1 - (s : Int)) (hs : s < 2) : endedF [wireQ Q (s + 1)] 1 t = decide ((Q s).length = 0) := by
  rcases two hs with rfl | rfl
  · obtain rfl : t = 1 := by omega
    simp only [endedF, one_at _ _ (.inr rfl), wireQ, Wire.s, Wire.q]
    simp
  · obtain rfl : t = 0 := by omega
    simp only [endedF, one_at _ _ (.inl rfl), wireQ, Wire.s, Wire.q]
    simp
theorem wq_waiting {Q : Nat → List UInt8} {s k : Nat} (t : Int) (ht : t = 1 - (s : Int)) (hs : s < 2) : waitingF [wireQ Q k] 1 t = (Q s).length := by
  rcases two hs with rfl | rfl
  · obtain rfl : t = 1 := by omega
    simp only [waitingF, one_at _ _ (.inr rfl), wireQ, Wire.q]
    simp
  · obtain rfl : t = 0 := by omega
    simp only [waitingF, one_at _ _ (.inl rfl), wireQ, Wire.q]
    simp
theorem wq_reset {Q : Nat → List UInt8} {s : Nat} : resetF [wireQ Q s] 1 = (0, [lostWire]) := by
  simp only [resetF, one_at _ 0 (.inl rfl), wireQ]
  simp
theorem one_reset_lost : resetF [lostWire] 1 = (20, [lostWire]) := by
  simp only [resetF, one_at _ 0 (.inl rfl)]
  simp [lostWire]
/-- What was sent is what was got and what waits. -/
def jA (y : Nat) : Fin 4 := if y = 0 then 0 else 1
def jG (y : Nat) : Fin 4 := if y = 0 then 2 else 3
def putL (f : Fin 4 → List UInt8) (j : Fin 4) (l : List UInt8) : Fin 4 → List UInt8 := fun i => if i = j then l else f i
def OInv (L : Fin 4 → List UInt8) (Q : Nat → List UInt8) (b : Nat) : Prop := L 0 = L 2 ++ Q 0 ∧ L 1 = L 3 ++ Q 1 ∧ (L 0).length ≤ b ∧ (L 1).length ≤ b
theorem OInv.at_ {L : Fin 4 → List UInt8} {Q : Nat → List UInt8} {b : Nat} (h : OInv L Q b) {y : Nat} (hy : y < 2) : L (jA y) = L (jG y) ++ Q y ∧ (L (jA y)).length ≤ b := by
  rcases two hy with rfl | rfl
  · exact ⟨h.1, h.2.2.1⟩
  · exact ⟨h.2.1, h.2.2.2⟩
theorem OInv.send {L : Fin 4 → List UInt8} {Q : Nat → List UInt8} {b : Nat} (h : OInv L Q b) {y : Nat} (hy : y < 2) {l : List UInt8} {b' : Nat} (hb : b + l.length ≤ b') : OInv (putL L (jA y) (L (jA y) ++ l)) (upQ Q y (Q y ++ l)) b' := by
  obtain ⟨h1, h2, h3, h4⟩ := h
  rcases two hy with rfl | rfl
  · refine ⟨by simp [putL, jA, upQ, h1], by simp [putL, jA, upQ, h2], by simp [putL, jA]; omega, by simp [putL, jA]; omega⟩
  · refine ⟨by simp [putL, jA, upQ, h1], by simp [putL, jA, upQ, h2], by simp [putL, jA]; omega, by simp [putL, jA]; omega⟩
theorem OInv.take {L : Fin 4 → List UInt8} {Q : Nat → List UInt8} {b : Nat} (h : OInv L Q b) {y : Nat} (hy : y < 2) (m : Nat) : OInv (putL L (jG y) (L (jG y) ++ (Q y).take m)) (upQ Q y ((Q y).drop m)) b := by
  obtain ⟨h1, h2, h3, h4⟩ := h
  rcases two hy with rfl | rfl
  · exact ⟨by simp [putL, jG, upQ, h1], by simp [putL, jG, upQ, h2], by simpa [putL, jG] using h3, by simpa [putL, jG] using h4⟩
  · exact ⟨by simp [putL, jG, upQ, h1], by simp [putL, jG, upQ, h2], by simpa [putL, jG] using h3, by simpa [putL, jG] using h4⟩
theorem OInv.mono {L : Fin 4 → List UInt8} {Q : Nat → List UInt8} {b b' : Nat} (h : OInv L Q b) (hb : b ≤ b') : OInv L Q b' := ⟨h.1, h.2.1, by have := h.2.2.1; omega, by have := h.2.2.2; omega⟩
end Go.Proofs.Ytdigeppbflkknaa
