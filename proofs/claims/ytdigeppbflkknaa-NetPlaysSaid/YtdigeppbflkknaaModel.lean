/-
  A net's wires as plain lists of bytes, and what each call does to them. No program here. No conditions.
-/
namespace Go.Proofs.Ytdigeppbflkknaa
/-- What waits for each side, whether no more is sent to it, and whether the wire is broken off. -/
structure Wire where
  q0 : List UInt8
  q1 : List UInt8
  s0 : Bool
  s1 : Bool
  lost : Bool
def Wire.q (x : Wire) (side : Int) : List UInt8 := if side = 0 then x.q0 else x.q1
def Wire.s (x : Wire) (side : Int) : Bool := if side = 0 then x.s0 else x.s1
def Wire.setQ (x : Wire) (side : Int) (l : List UInt8) : Wire := if side = 0 then { x with q0 := l } else { x with q1 := l }
def Wire.setS (x : Wire) (side : Int) : Wire := if side = 0 then { x with s0 := true } else { x with s1 := true }
def newWire : Wire := ⟨[], [], false, false, false⟩
def lostWire : Wire := ⟨[], [], false, false, true⟩

/-- Which wire is meant, if the place is right and it is not broken off; else the code. -/
def at_ (xs : List Wire) (k side : Int) : Int × Wire :=
  if k < 1 ∨ (xs.length : Int) < k ∨ side < 0 ∨ 1 < side then (2, lostWire) else
  match xs[(k - 1).toNat]? with
  | none => (2, lostWire)
  | some x => if x.lost then (20, x) else (0, x)
def sendF (xs : List Wire) (k side : Int) (b : List UInt8) : Int × List Wire :=
  let r := at_ xs k side
  if r.1 ≠ 0 then (r.1, xs)
  else if r.2.s (1 - side) then (16, xs)
  else if 1048576 - ((r.2.q (1 - side)).length : Int) < b.length then (14, xs)
  else (0, xs.set (k - 1).toNat (r.2.setQ (1 - side) (r.2.q (1 - side) ++ b)))
def takeF (xs : List Wire) (k side most : Int) : Int × List UInt8 × List Wire :=
  if most < 0 then (2, [], xs) else
  let r := at_ xs k side
  if r.1 ≠ 0 then (r.1, [], xs)
  else (0, (r.2.q side).take most.toNat, xs.set (k - 1).toNat (r.2.setQ side ((r.2.q side).drop most.toNat)))
def shutF (xs : List Wire) (k side : Int) : Int × List Wire :=
  let r := at_ xs k side
  if r.1 ≠ 0 then (r.1, xs)
  else if r.2.s (1 - side) then (16, xs)
  else (0, xs.set (k - 1).toNat (r.2.setS (1 - side)))
def resetF (xs : List Wire) (k : Int) : Int × List Wire :=
  let r := at_ xs k 0
  if r.1 ≠ 0 then (r.1, xs) else (0, xs.set (k - 1).toNat lostWire)
def waitingF (xs : List Wire) (k side : Int) : Int :=
  let r := at_ xs k side
  if r.1 = 2 then 0 else (r.2.q side).length
def endedF (xs : List Wire) (k side : Int) : Bool :=
  let r := at_ xs k side
  decide (r.1 ≠ 0) || (r.2.s side && decide ((r.2.q side).length = 0))
def openF (xs : List Wire) : Int × Int × List Wire := if xs.length = 256 then (0, 14, xs) else ((xs.length : Int) + 1, 0, xs ++ [newWire])

theorem at_ok {xs : List Wire} {i : Nat} {x : Wire} {side : Int} (h : xs[i]? = some x) (hs : side = 0 ∨ side = 1) : at_ xs ((i : Int) + 1) side = (if x.lost then 20 else 0, x) := by
  have hi := (List.getElem?_eq_some_iff.1 h).1
  unfold at_
  rw [if_neg (by omega), show ((i : Int) + 1 - 1).toNat = i by omega, h]
  simp only []
  split <;> rfl
theorem at_bad {xs : List Wire} {k side : Int} (h : k < 1 ∨ (xs.length : Int) < k ∨ side < 0 ∨ 1 < side) : at_ xs k side = (2, lostWire) := by unfold at_; rw [if_pos h]
end Go.Proofs.Ytdigeppbflkknaa
