/-
  The statements' arguments: a slice of spans; a span. No conditions.
-/
import Derived.Test.YthhaaakabpnbnaaSps
import Derived.Test.YthhaaakabpnbnaaChecked
import Derived.Test.YthhaaakabpnbnaaRows
namespace Go.Proofs.Ythhaaakabpnbnaa
open Go.RowKit Go.ChangeShapes Go.WideShapes Go.Deep
set_option linter.unusedVariables false

theorem cells28 : Try.prog.cellsOf 28 = 2 := by kernel_rfl
theorem cells3 : Try.prog.cellsOf 3 = 1 := by kernel_rfl
def SpWf (w : World) (x : Sp) : Prop := (Lit.int .i64 x.1).wf = true ∧ (Lit.int .i64 x.2).wf = true
theorem sp_cells {H : Type} {enc : TypeId × Value → H} {w : World} {cs : List Value} (hcs : Tr enc Try.prog w 28 cs) : ∃ x : Sp, cs = spCells x ∧ SpWf w x := by
  have h1 := (tr_struct Try.underlying28 hcs).1
  rw [cells28] at h1
  obtain ⟨x, e1, w1⟩ := tr_int Try.underlying3 (tr_field Try.underlying28 hcs 0 3 0 1 rfl cells3)
  obtain ⟨y, e2, w2⟩ := tr_int Try.underlying3 (tr_field Try.underlying28 hcs 1 3 1 1 rfl cells3)
  match cs, h1 with
  | [c0, c1], _ =>
    simp at e1 e2
    subst e1 e2
    exact ⟨(x, y), rfl, w1, w2⟩
theorem open_sps {H : Type} {enc : TypeId × Value → H} {w : World} {v : Value} (h : Tr enc Try.prog w 22 [v]) :
    ∃ A n c l, v = .slice A n c ∧ n ≤ c ∧ c ≤ maxLen ∧ (A = none → n = 0 ∧ c = 0) ∧ StructsArg spCells 2 w A n l ∧ ∀ x ∈ l, SpWf w x :=
  open_structs' (cells := spCells) (R := SpWf) Try.underlying22 cells28 (by omega) (fun cs hcs => sp_cells hcs) h
theorem open_sp {H : Type} {enc : TypeId × Value → H} {r : Reach} {b0 : Nat} {w : World} {v : Value} {d : DataW H} {ps : List MemPlace} (hval : Value.okWide Try.prog w r b0 28 v) (hd : DataW.Trod enc Try.prog w 0 (fun _ => true) true 28 v d ps) :
    ∃ s : Sp, v = .agg #[.int .i64 s.1, .int .i64 s.2] ∧ SpWf w s := by
  obtain ⟨cs, rfl, hsz⟩ := okWide_struct Try.underlying28 hval
  obtain ⟨fuel, hf⟩ := hd
  obtain ⟨x, e1, hx⟩ := sp_cells (enc := enc) (w := w) (cs := (Value.agg cs).cells.toList) ⟨fuel, _, hf⟩
  refine ⟨x, ?_, hx⟩
  have : cs.toList = spCells x := e1
  rw [show cs = (spCells x).toArray by rw [← this]]
  rfl
end Go.Proofs.Ythhaaakabpnbnaa
