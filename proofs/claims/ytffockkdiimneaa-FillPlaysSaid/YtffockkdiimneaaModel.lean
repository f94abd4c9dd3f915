/-
  A desk's fills as a plain list, and what each call does to it. No program here. No conditions.
-/
namespace Go.Proofs.Ytffockkdiimneaa
structure Job where
  name : ByteArray
  bytes : List UInt8
  state : Nat
  part : Nat
/-- The fills that are kept, in the order in which they were begun, each under its number; and the last number given. -/
structure Desk where
  js : List (Nat × Job)
  last : Nat
def newDesk : Desk := ⟨[], 0⟩
/-- Where the fill of a number is. -/
def findJ (id : Int) : List (Nat × Job) → Option Nat
  | [] => none
  | e :: r => if (e.1 : Int) = id then some 0 else (findJ id r).map (· + 1)
open Classical in
/-- Where the fill that runs of a name is. -/
noncomputable def findN (name : ByteArray) : List (Nat × Job) → Option Nat
  | [] => none
  | e :: r => if e.2.name = name ∧ e.2.state = 0 then some 0 else (findN name r).map (· + 1)
def runs (js : List (Nat × Job)) : List (Nat × Job) := js.filter fun e => e.2.state == 0
def upd (js : List (Nat × Job)) (i : Nat) (f : Job → Job) : List (Nat × Job) := js.modify i fun e => (e.1, f e.2)
/-- A fill that runs no more, and that nobody takes part in, is kept no more. -/
def tidy (js : List (Nat × Job)) (i : Nat) : List (Nat × Job) :=
  match js[i]? with
  | none => js
  | some e => if e.2.state ≠ 0 ∧ e.2.part = 0 then js.eraseIdx i else js
noncomputable def beginF (d : Desk) (name : ByteArray) : Int × Bool × Int × Desk :=
  if 1024 < name.size then (0, false, 3, d) else
  match findN name d.js with
  | some i => (((d.js[i]?).map (fun e => (e.1 : Int))).getD 0, false, 0, { d with js := upd d.js i fun j => { j with part := j.part + 1 } })
  | none => if 1024 ≤ d.js.length then (0, false, 14, d) else ((d.last : Int) + 1, true, 0, ⟨d.js ++ [(d.last + 1, ⟨name, [], 0, 1⟩)], d.last + 1⟩)
def appendF (d : Desk) (id : Int) (b : List UInt8) : Int × Desk :=
  match findJ id d.js with
  | none => (12, d)
  | some i => match d.js[i]? with
    | none => (12, d)
    | some e => if e.2.state ≠ 0 then (16, d)
      else if 1048576 - (e.2.bytes.length : Int) < b.length then (3, d)
      else (0, { d with js := upd d.js i fun j => { j with bytes := j.bytes ++ b } })
def endF (d : Desk) (id : Int) (whole : Bool) : Int × Desk :=
  match findJ id d.js with
  | none => (12, d)
  | some i => match d.js[i]? with
    | none => (12, d)
    | some e => if e.2.state ≠ 0 then (16, d)
      else (0, { d with js := tidy (upd d.js i fun j => { j with state := if whole then 1 else 2 }) i })
def leaveF (d : Desk) (id : Int) : Int × Desk :=
  match findJ id d.js with
  | none => (12, d)
  | some i => match d.js[i]? with
    | none => (12, d)
    | some e => if e.2.part = 0 then (17, d)
      else (0, { d with js := tidy (upd d.js i fun j => { j with part := j.part - 1 }) i })
def readF (d : Desk) (id at_ n : Int) : List UInt8 × Int × Int :=
  match findJ id d.js with
  | none => ([], 0, 12)
  | some i => match d.js[i]? with
    | none => ([], 0, 12)
    | some e => if at_ < 0 ∨ n < 0 ∨ (e.2.bytes.length : Int) < at_ then ([], 0, 2)
      else ((e.2.bytes.drop at_.toNat).take n.toNat, e.2.state, 0)
def partF (d : Desk) (id : Int) : Int :=
  match findJ id d.js with
  | none => 0
  | some i => ((d.js[i]?).map (fun e => (e.2.part : Int))).getD 0
def runningF (d : Desk) : Int := (runs d.js).length
end Go.Proofs.Ytffockkdiimneaa
