/-
  An argument that is a slice of acts, opened to its cells. No conditions.
-/
import Derived.Test.YtnkiibdmpldkmaaRows
import Derived.Test.YtnkiibdmpldkmaaArgs
namespace Go.Proofs.Ytnkiibdmpldkmaa
open Go.RowKit
/-- An act's cells. -/
def actCells (a : Int × Int × Int) : List Value := [.int .i64 a.1, .int .i64 a.2.1, .int .i64 a.2.2]
theorem cells39 : Try.prog.cellsOf 39 = 3 := by kernel_rfl
theorem cells32 : Try.prog.cellsOf 3 = 1 := by kernel_rfl
def ActWf (_ : World) (a : Int × Int × Int) : Prop := (Lit.int .i64 a.1).wf = true ∧ (Lit.int .i64 a.2.1).wf = true ∧ (Lit.int .i64 a.2.2).wf = true
/-- An argument that is a slice of acts. -/
theorem open_acts {H : Type} {enc : TypeId × Value → H} {w : World} {v : Value} (h : Tr enc Try.prog w 32 [v]) :
    ∃ A n c l, v = .slice A n c ∧ n ≤ c ∧ c ≤ maxLen ∧ (A = none → n = 0 ∧ c = 0) ∧ StructsArg actCells 3 w A n l ∧ ∀ x ∈ l, ActWf w x := by
  refine open_structs' (cells := actCells) (R := ActWf) Try.underlying32 cells39 (by omega) (fun cs hcs => ?_) h
  have h1 := (tr_struct Try.underlying39 hcs).1
  rw [cells39] at h1
  obtain ⟨x, e1, w1⟩ := tr_int Try.underlying3 (tr_field Try.underlying39 hcs 0 3 0 1 rfl cells32)
  obtain ⟨y, e2, w2⟩ := tr_int Try.underlying3 (tr_field Try.underlying39 hcs 1 3 1 1 rfl cells32)
  obtain ⟨z, e3, w3⟩ := tr_int Try.underlying3 (tr_field Try.underlying39 hcs 2 3 2 1 rfl cells32)
  match cs, h1 with
  | [c0, c1, c2], _ =>
    simp at e1 e2 e3
    subst e1 e2 e3
    exact ⟨(x, y, z), rfl, w1, w2, w3⟩
end Go.Proofs.Ytnkiibdmpldkmaa
