/-
  What each function of the program's spans answers, on plain lists. No program here. No conditions.
-/
namespace Go.Proofs.Ythhaaakabpnbnaa
abbrev Sp := Int × Int
def isSp (s : Sp) : Bool := decide (0 ≤ s.1) && decide (s.1 ≤ s.2) && decide (s.2 ≤ 1048576)
def okFrom (last : Int) : List Sp → Bool
  | [] => true
  | s :: r => isSp s && !(decide (s.1 = s.2)) && decide (last < s.1) && okFrom s.2 r
def validF (l : List Sp) : Bool := okFrom (-1) l && decide (l.length ≤ 32)
def early (s x : Sp) : Bool := decide (x.2 < s.1)
def soon (s x : Sp) : Bool := decide (x.1 ≤ s.2)
def aheadF (l : List Sp) (s : Sp) : List Sp := l.takeWhile (early s)
def restF (l : List Sp) (s : Sp) : List Sp := l.dropWhile (early s)
def ownF (l : List Sp) (s : Sp) : List Sp := (restF l s).takeWhile (soon s)
def behindF (l : List Sp) (s : Sp) : List Sp := (restF l s).dropWhile (soon s)
def joinF (a b c : List Sp) : List Sp × Int := if 32 < a.length + b.length + c.length then ([], 14) else (a ++ b ++ c, 0)
def coverF (own : List Sp) (s : Sp) : Sp :=
  match own.head?, own.getLast? with
  | some a, some b => (min s.1 a.1, max s.2 b.2)
  | _, _ => s
def okF (l : List Sp) (s : Sp) : Bool := validF l && isSp s
def addF (l : List Sp) (s : Sp) : List Sp × Int :=
  if okF l s = false then ([], 2) else
  if s.1 = s.2 then joinF l [] [] else joinF (aheadF l s) [coverF (ownF l s) s] (behindF l s)
def pieces (s x : Sp) : List Sp := (if x.1 < s.1 then [(x.1, min x.2 s.1)] else []) ++ (if s.2 < x.2 then [(max x.1 s.2, x.2)] else [])
def removeF (l : List Sp) (s : Sp) : List Sp × Int :=
  if okF l s = false then ([], 2) else
  if s.1 = s.2 then joinF l [] [] else joinF (aheadF l s) ((ownF l s).flatMap (pieces s)) (behindF l s)
def gap (f t : Int) : List Sp := if f < t then [(f, t)] else []
def gapsG (t : Int) : Int → List Sp → List Sp
  | f, [] => gap f t
  | f, x :: r => gap f (min x.1 t) ++ gapsG t (min (max f x.2) t) r
def gapsF (l : List Sp) (s : Sp) : List Sp := if okF l s = false then [] else gapsG s.2 s.1 (ownF l s)
def clip (s x : Sp) : List Sp := if max x.1 s.1 < min x.2 s.2 then [(max x.1 s.1, min x.2 s.2)] else []
def cutF (l : List Sp) (s : Sp) : List Sp := if okF l s = false then [] else (ownF l s).flatMap (clip s)
def hasF (l : List Sp) (s : Sp) : Bool := okF l s && decide ((gapsF l s).length = 0)
def sumF : List Sp → Int
  | [] => 0
  | x :: r => (x.2 - x.1) + sumF r
def sizeF (l : List Sp) : Int := if validF l then sumF l else 0
def inn (l : List Sp) (p : Int) : Bool := l.any fun x => decide (x.1 ≤ p) && decide (p < x.2)
end Go.Proofs.Ythhaaakabpnbnaa
