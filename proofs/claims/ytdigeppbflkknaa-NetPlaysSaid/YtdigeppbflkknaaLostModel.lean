/-
  NetLost in plain words: what the wires hold, stage by stage. No program here. No conditions.
-/
import Derived.Test.YtdigeppbflkknaaModel
namespace Go.Proofs.Ytdigeppbflkknaa

def fullWire (b : List UInt8) : Wire := ⟨b, b, false, false, false⟩
/-- Wires 1 to 3; wire k is broken off; of the others those before wire v are taken empty, wire v's sides before s too. -/
def stageWire (k : Int) (b : List UInt8) (v s i : Nat) : Wire :=
  if (i : Int) + 1 = k then lostWire else
    ⟨if i + 1 < v ∨ (i + 1 = v ∧ 0 < s) then [] else b, if i + 1 < v ∨ (i + 1 = v ∧ 1 < s) then [] else b, false, false, false⟩
def stage (k : Int) (b : List UInt8) (v s : Nat) : List Wire := [stageWire k b v s 0, stageWire k b v s 1, stageWire k b v s 2]

theorem send_new {b : List UInt8} (hb : b.length ≤ 1000) (i : Nat) (hi : i ≤ 3) : sendF (List.replicate i (fullWire b) ++ [newWire]) ((i : Int) + 1) 0 b = (0, List.replicate i (fullWire b) ++ [⟨[], b, false, false, false⟩]) := by
  have hx : (List.replicate i (fullWire b) ++ [newWire])[i]? = some newWire := by rw [List.getElem?_append_right (by simp)]; simp
  simp only [sendF, at_ok hx (side := 0) (.inl rfl)]
  simp only [newWire, Wire.s, Wire.q, Wire.setQ]
  rw [show ((i : Int) + 1 - 1).toNat = i by omega]
  simp
  omega
theorem send_half {b : List UInt8} (hb : b.length ≤ 1000) (i : Nat) (hi : i ≤ 3) : sendF (List.replicate i (fullWire b) ++ [⟨[], b, false, false, false⟩]) ((i : Int) + 1) 1 b = (0, List.replicate (i + 1) (fullWire b)) := by
  have hx : (List.replicate i (fullWire b) ++ [(⟨[], b, false, false, false⟩ : Wire)])[i]? = some ⟨[], b, false, false, false⟩ := by rw [List.getElem?_append_right (by simp)]; simp
  simp only [sendF, at_ok hx (side := 1) (.inr rfl), Wire.s, Wire.q, Wire.setQ]
  rw [show ((i : Int) + 1 - 1).toNat = i by omega]
  simp
  rw [if_neg (by omega)]
  simp [List.set_append, List.replicate_succ', fullWire]
theorem open_new {b : List UInt8} {i : Nat} (hi : i ≤ 3) : openF (List.replicate i (fullWire b)) = ((i : Int) + 1, 0, List.replicate i (fullWire b) ++ [newWire]) := by
  unfold openF
  rw [if_neg (by simp; omega)]
  simp
theorem reset_stage {b : List UInt8} {k : Int} (h1 : 1 ≤ k) (h3 : k ≤ 3) : resetF (List.replicate 3 (fullWire b)) k = (0, stage k b 1 0) := by
  rcases (show k = 1 ∨ k = 2 ∨ k = 3 by omega) with rfl | rfl | rfl <;> rfl
theorem take_lost {b : List UInt8} {k : Int} {v s : Nat} (h1 : 1 ≤ k) (h3 : k ≤ 3) (hv : (v : Int) = k) (hs : s < 2) (hb : b.length ≤ 1000) : takeF (stage k b v s) v s b.length = (20, [], stage k b v (s + 1)) := by
  subst hv
  rcases (show v = 1 ∨ v = 2 ∨ v = 3 by omega) with rfl | rfl | rfl <;> rcases (show s = 0 ∨ s = 1 by omega) with rfl | rfl <;>
    (simp only [takeF]; rw [if_neg (by omega)]; rfl)
theorem take_other {b : List UInt8} {k : Int} {v s : Nat} (h1 : 1 ≤ k) (h3 : k ≤ 3) (hv : (v : Int) ≠ k) (hv1 : 1 ≤ v) (hv3 : v ≤ 3) (hs : s < 2) (hb : b.length ≤ 1000) : takeF (stage k b v s) v s b.length = (0, b, stage k b v (s + 1)) := by
  rcases (show k = 1 ∨ k = 2 ∨ k = 3 by omega) with rfl | rfl | rfl <;> rcases (show v = 1 ∨ v = 2 ∨ v = 3 by omega) with rfl | rfl | rfl <;> first | (exfalso; omega) | skip <;>
    rcases (show s = 0 ∨ s = 1 by omega) with rfl | rfl <;>
    simp [takeF, at_, stage, stageWire, Wire.q, Wire.setQ, lostWire]
theorem next_wire {b : List UInt8} {k : Int} {v : Nat} (hv1 : 1 ≤ v) (hv3 : v ≤ 3) : stage k b v 2 = stage k b (v + 1) 0 := by
  rcases (show v = 1 ∨ v = 2 ∨ v = 3 by omega) with rfl | rfl | rfl <;> simp [stage, stageWire]
theorem waiting_lost {b : List UInt8} {k : Int} {v s t : Nat} (h1 : 1 ≤ k) (h3 : k ≤ 3) (hv : (v : Int) = k) (hs : s < 2) : waitingF (stage k b v t) v s = 0 := by
  subst hv
  rcases (show v = 1 ∨ v = 2 ∨ v = 3 by omega) with rfl | rfl | rfl <;> rcases (show s = 0 ∨ s = 1 by omega) with rfl | rfl <;> rfl
theorem ended_lost {b : List UInt8} {k : Int} {v s t : Nat} (h1 : 1 ≤ k) (h3 : k ≤ 3) (hv : (v : Int) = k) (hs : s < 2) : endedF (stage k b v t) v s = true := by
  subst hv
  rcases (show v = 1 ∨ v = 2 ∨ v = 3 by omega) with rfl | rfl | rfl <;> rcases (show s = 0 ∨ s = 1 by omega) with rfl | rfl <;> rfl
theorem shut_lost {b : List UInt8} {k : Int} {v s t : Nat} (h1 : 1 ≤ k) (h3 : k ≤ 3) (hv : (v : Int) = k) (hs : s < 2) : shutF (stage k b v t) v s = (20, stage k b v t) := by
  subst hv
  rcases (show v = 1 ∨ v = 2 ∨ v = 3 by omega) with rfl | rfl | rfl <;> rcases (show s = 0 ∨ s = 1 by omega) with rfl | rfl <;> rfl
theorem ended_other {b : List UInt8} {k : Int} {v s t : Nat} (h1 : 1 ≤ k) (h3 : k ≤ 3) (hv : (v : Int) ≠ k) (hv1 : 1 ≤ v) (hv3 : v ≤ 3) (hs : s < 2) : endedF (stage k b v t) v s = false := by
  rcases (show k = 1 ∨ k = 2 ∨ k = 3 by omega) with rfl | rfl | rfl <;> rcases (show v = 1 ∨ v = 2 ∨ v = 3 by omega) with rfl | rfl | rfl <;> first | (exfalso; omega) | skip <;>
    rcases (show s = 0 ∨ s = 1 by omega) with rfl | rfl <;> rfl
end Go.Proofs.Ytdigeppbflkknaa
