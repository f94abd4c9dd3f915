/-
  A world of tasks in plain words, and what each call does to it. No program here. No conditions.
-/
namespace Go.Proofs.Ytgdjbmfpbihopaa
set_option linter.unusedVariables false

structure Op3 where
  kind : Int
  a : Int
  b : Int
structure Thr where
  left : List Op3
  has : Int
structure Pipe where
  l : List Int
  size : Int
structure Wd where
  locks : Int
  holds : Int → Option Int
  words : List Int
  pipes : List Pipe
  tasks : List Thr
/-- A number as 32 bits hold it. -/
def w32 (x : Int) : Int := (x + 2147483648) % 4294967296 - 2147483648
def mayB (W : Wd) (o : Op3) : Bool :=
  if o.kind = 1 ∨ o.kind = 2 then decide (0 ≤ o.a ∧ o.a < W.locks)
  else if o.kind = 3 ∨ o.kind = 4 then decide (0 ≤ o.a ∧ o.a < W.pipes.length)
  else if o.kind = 5 ∨ o.kind = 6 then decide (0 ≤ o.a ∧ o.a < W.words.length)
  else false
def waitsB (W : Wd) (o : Op3) : Bool :=
  if o.kind = 1 then (W.holds o.a).isSome
  else if o.kind = 3 then match W.pipes[o.a.toNat]? with
    | some p => decide (p.size ≤ p.l.length)
    | none => false
  else if o.kind = 4 then match W.pipes[o.a.toNat]? with
    | some p => decide (p.l.length = 0)
    | none => false
  else false
def stateT (W : Wd) (t : Thr) : Int := match t.left with
  | [] => 3
  | o :: _ => if waitsB W o then 2 else 1
def stateF (W : Wd) (k : Int) : Int :=
  if k < 0 then 0 else match W.tasks[k.toNat]? with
  | none => 0
  | some t => stateT W t
def setT (W : Wd) (k : Nat) (t : Thr) : Wd := { W with tasks := W.tasks.set k t }
def setP (W : Wd) (k : Nat) (p : Pipe) : Wd := { W with pipes := W.pipes.set k p }
/-- What one operation does that need not wait; its task is t already, without it. -/
def doF (W : Wd) (k : Nat) (t : Thr) (o : Op3) : Int × Wd :=
  if o.kind = 1 then (0, { W with holds := fun x => if x = o.a then some (k : Int) else W.holds x })
  else if o.kind = 2 then
    (if W.holds o.a = some (k : Int) then (0, { W with holds := fun x => if x = o.a then none else W.holds x })
    else (19, setT W k { t with left := [] }))
  else if o.kind = 3 then match W.pipes[o.a.toNat]? with
    | some p => (0, setP W o.a.toNat { p with l := p.l ++ [w32 o.b] })
    | none => (0, W)
  else if o.kind = 4 then match W.pipes[o.a.toNat]? with
    | some p => (0, setP (setT W k { t with has := w32 (t.has + p.l.headD 0) }) o.a.toNat { p with l := p.l.tail })
    | none => (0, W)
  else if o.kind = 5 then (0, { W with words := W.words.set o.a.toNat (w32 (W.words.getD o.a.toNat 0 + w32 o.b)) })
  else if o.kind = 6 then (0, setT W k { t with has := w32 (t.has + W.words.getD o.a.toNat 0) })
  else (0, W)
/-- A step: the state behind it, the code, the world behind it. -/
def stepF (W : Wd) (k : Int) : Int × Int × Wd :=
  if k < 0 then (0, 12, W) else match W.tasks[k.toNat]? with
  | none => (0, 12, W)
  | some t => match t.left with
    | [] => (3, 16, W)
    | o :: r => if waitsB W o then (2, 0, W) else
      let t1 : Thr := { t with left := r }
      let x := doF (setT W k.toNat t1) k.toNat t1 o
      (stateF x.2 k, x.1, x.2)
def startF (W : Wd) (l : List Op3) : Int × Int × Wd :=
  if W.tasks.length = 64 then (0, 14, W)
  else if l.all (mayB W) = false then (0, 2, W)
  else if 1000 < l.length then (0, 3, W)
  else (W.tasks.length, 0, { W with tasks := W.tasks ++ [⟨l, 0⟩] })
def hasF (W : Wd) (k : Int) : Int := if k < 0 then 0 else match W.tasks[k.toNat]? with
  | none => 0
  | some t => t.has
def wordF (W : Wd) (k : Int) : Int := if k < 0 then 0 else W.words.getD k.toNat 0
/-- How many of the first n tasks are in this state. -/
def countF (W : Wd) : Nat → Int → Nat
  | 0, _ => 0
  | n + 1, s => countF W n s + if stateF W n = s then 1 else 0
def stuckF (W : Wd) : Bool := decide (0 < countF W W.tasks.length 2) && decide (countF W W.tasks.length 1 = 0)
/-- What a new world is, or why there is none. -/
def newCode (locks words : Int) (sizes : List Int) : Int :=
  if locks < 0 ∨ 64 < locks ∨ words < 0 ∨ 64 < words ∨ 16 < sizes.length then 2
  else if sizes.all (fun n => decide (1 ≤ n ∧ n ≤ 64)) then 0 else 2
def newW (locks words : Int) (sizes : List Int) : Wd := ⟨locks, fun _ => none, List.replicate words.toNat 0, sizes.map (fun n => ⟨[], n⟩), []⟩

theorem w32_id {x : Int} (h1 : -2147483648 ≤ x) (h2 : x ≤ 2147483647) : w32 x = x := by unfold w32; omega
theorem w32_in (x : Int) : -2147483648 ≤ w32 x ∧ w32 x ≤ 2147483647 := by unfold w32; omega
theorem stateF_at {W : Wd} {k : Nat} {t : Thr} (h : W.tasks[k]? = some t) : stateF W k = stateT W t := by
  unfold stateF
  rw [if_neg (by omega), Int.toNat_natCast, h]
theorem stateF_no {W : Wd} {k : Int} (h : k < 0 ∨ (W.tasks.length : Int) ≤ k) : stateF W k = 0 := by
  unfold stateF
  by_cases hk : k < 0
  · rw [if_pos hk]
  · rw [if_neg hk, List.getElem?_eq_none (by omega)]
theorem stateT_cases (W : Wd) (t : Thr) : (t.left = [] ∧ stateT W t = 3) ∨ (∃ o r, t.left = o :: r ∧ waitsB W o = true ∧ stateT W t = 2) ∨ (∃ o r, t.left = o :: r ∧ waitsB W o = false ∧ stateT W t = 1) := by
  unfold stateT
  cases h : t.left with
  | nil => exact .inl ⟨rfl, rfl⟩
  | cons o r =>
    cases hw : waitsB W o with
    | true => exact .inr (.inl ⟨o, r, rfl, hw, by simp [hw]⟩)
    | false => exact .inr (.inr ⟨o, r, rfl, hw, by simp [hw]⟩)
end Go.Proofs.Ytgdjbmfpbihopaa
