/-
  An argument that is a slice of slices of bytes. No conditions.
-/
import Derived.Test.YtdigeppbflkknaaLost
namespace Go.Proofs.Ytdigeppbflkknaa
open Go.RowKit Go.ChangeShapes Go.WideShapes Go.Deep

theorem tr_slice_one {H : Type} {enc : TypeId × Value → H} {P : Program} {w : World} {t e : TypeId} {cs : List Value} (ht : P.underlying t = some (.slice e)) (h : Tr enc P w t cs) : ∃ v, cs = [v] := by
  obtain ⟨fuel, x, h⟩ := h
  rcases open_slice ht h with ⟨h1, _⟩ | ⟨a, len, cap, m, n, D, Pl, h1, _⟩
  · exact ⟨_, h1⟩
  · exact ⟨_, h1⟩
/-- An argument that is a slice of slices of bytes: its elements. -/
def bbCells (x : Option Addr × Nat × Nat × List UInt8) : List Value := [.slice x.1 x.2.1 x.2.2.1]
def BbAt (w : World) (x : Option Addr × Nat × Nat × List UInt8) : Prop := Bts w x.1 x.2.1 x.2.2.1 x.2.2.2
theorem open_bb {H : Type} {enc : TypeId × Value → H} {w : World} {v : Value} (h : Tr enc Try.prog w 54 [v]) :
    ∃ A n c l, v = .slice A n c ∧ n ≤ c ∧ c ≤ maxLen ∧ (A = none → n = 0 ∧ c = 0) ∧ StructsArg bbCells 1 w A n l ∧ ∀ x ∈ l, BbAt w x := by
  refine open_structs' (cells := bbCells) (R := BbAt) Try.underlying54 (by kernel_rfl) (by omega) (fun cs hcs => ?_) h
  obtain ⟨v, rfl⟩ := tr_slice_one Try.underlying22 hcs
  obtain ⟨A, n, c, l, rfl, hnc, hcm, hnl, arg⟩ := open_ints' (k := .u8) Try.underlying22 Try.underlying5 (by kernel_rfl) hcs
  exact ⟨(A, n, c, _), rfl, Bts.of_arg hnc hcm hnl arg⟩
end Go.Proofs.Ytdigeppbflkknaa
