/-
  TaskCross in plain words. No program here. No conditions.
-/
import Derived.Test.YtgdjbmfpbihopaaFit
namespace Go.Proofs.Ytgdjbmfpbihopaa
/-- Behind n steps of one task. -/
def steps (k : Int) : Nat → Wd → Wd
  | 0, W => W
  | n + 1, W => (stepF (steps k n W) k).2.2
def bothL (a b : Int) : List Op3 := [⟨1, a, 0⟩, ⟨1, b, 0⟩, ⟨2, b, 0⟩, ⟨2, a, 0⟩]
def cross0 : Wd := newW 2 0 []
def cross1 : Wd := { cross0 with tasks := [⟨bothL 0 1, 0⟩] }
def cross2 : Wd := { cross0 with tasks := [⟨bothL 0 1, 0⟩, ⟨bothL 1 0, 0⟩] }
theorem cross_start0 : startF cross0 (bothL 0 1) = (0, 0, cross1) := rfl
theorem cross_start1 : startF cross1 (bothL 1 0) = (1, 0, cross2) := rfl
theorem cross_stuck : ∀ a b : Fin 4, stuckF (steps 1 b.val (steps 0 a.val cross2)) = (decide (a.val = 1) && decide (1 ≤ b.val)) := by decide
def lone0 : Wd := newW 1 0 []
def lone1 : Wd := { lone0 with tasks := [⟨[⟨1, 0, 0⟩, ⟨1, 0, 0⟩], 0⟩] }
theorem lone_start : startF lone0 [⟨1, 0, 0⟩, ⟨1, 0, 0⟩] = (0, 0, lone1) := rfl
theorem lone_step : (stepF lone1 0).1 = 2 ∧ (stepF lone1 0).2.1 = 0 ∧ stuckF (stepF lone1 0).2.2 = true := ⟨rfl, rfl, by decide⟩
theorem cross_code : newCode 2 0 [] = 0 ∧ newCode 1 0 [] = 0 := by decide
end Go.Proofs.Ytgdjbmfpbihopaa
