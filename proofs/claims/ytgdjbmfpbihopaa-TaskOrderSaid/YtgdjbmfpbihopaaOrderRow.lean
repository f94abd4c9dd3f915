/-
  THE STATEMENT TaskOrder: the program's own text, called with whatever arguments, returns true and leaves the arguments as they were. No conditions.
-/
import Derived.Test.YtgdjbmfpbihopaaOrder
import Derived.Test.YtgdjbmfpbihopaaArgs
import Derived.WalkKit
import Derived.ProofKit
import Derived.OpenShut
import Derived.ChangeOld
import Derived.Below
namespace Go.Proofs.Ytgdjbmfpbihopaa.taskOrder
open Go.ChangeShapes Go.WideShapes Go.ChangeAt Go.RowKit
set_option linter.unusedVariables false

theorem own : ownKnob Try.prog.godebug = none := by kernel_rfl
theorem laidOut : laidOutB Try.prog = true := by kernel_rfl

set_option maxRecDepth 100000 in
theorem lifted (os : Os) (started : os.Started) (H : Type) (enc : TypeId × Value → H) :
    ReturnsInHanded {} Try.checked os 5 .any (Rows.taskOrderSpec.pre6 enc Try.prog Try.f5 Rows.taskOrderRow.domain false) (Rows.taskOrderSpec.post enc Try.prog Try.f5 false true false false) := by
  refine returnsInHanded_of_change (C := Try.checked) own started (by kernel_rfl) Try.func5
    (ChangeSpec.witness6 (enc := enc) (C := Try.checked) false ⟨#[], #[.slice none 0 0, .slice none 0 0], []⟩ 8 (by kernel_rfl) (by kernel_rfl) (by kernel_rfl) (by kernel_rfl)) ?_
  intro W base args ds gs before hval0 hW hcnd _
  have hval : ∀ (j : Nat) t v, Try.f5.params[j]? = some t → args[j]? = some v → Value.okWide Try.prog W .any base t v := hval0
  have hW' := hW
  obtain ⟨p, q, hA0, hV, rfl, hfz, hnd⟩ := hW
  have hA : DataW.TrodAll enc Try.prog W 0 (fun _ => true) true Try.f5.params.toList args.toList ds p := hA0
  rw [Try.params5] at hA hval
  obtain ⟨v0, vs0, d0, ds0, p0, q0, hargs, rfl, rfl, h0, r0⟩ := trodAll_cons hA
  obtain ⟨v1, vs1, d1, ds1, p1, q1, rfl, rfl, rfl, h1, r1⟩ := trodAll_cons r0
  obtain ⟨rfl, rfl, rfl⟩ := trodAll_nil r1
  obtain rfl : args = #[v0, v1] := by cases args; simp_all
  obtain ⟨rfl, rfl⟩ := trodVars_none hV
  have k0 := h0
  have lt0 : ∀ x ∈ p0, x.block < W.heap.size := by obtain ⟨m, hm⟩ := k0; exact DataW.trod_lt m _ _ _ hm
  have k1 := h1
  have lt1 : ∀ x ∈ p1, x.block < W.heap.size := by obtain ⟨m, hm⟩ := k1; exact DataW.trod_lt m _ _ _ hm
  have tr0 : Tr enc Try.prog W 44 [v0] := by obtain ⟨fuel, hf⟩ := h0; rw [slice_one (okWide_slice Try.underlying44 (hval 0 44 v0 rfl rfl))] at hf; exact ⟨fuel, _, hf⟩
  obtain ⟨A0, n0, c0, l0, rfl, hnc0, hcm0, hnl0, arg0⟩ := open_ints' (k := .i64) Try.underlying44 Try.underlying3 (by kernel_rfl) tr0
  have tr1 : Tr enc Try.prog W 44 [v1] := by obtain ⟨fuel, hf⟩ := h1; rw [slice_one (okWide_slice Try.underlying44 (hval 1 44 v1 rfl rfl))] at hf; exact ⟨fuel, _, hf⟩
  obtain ⟨A1, n1, c1, l1, rfl, hnc1, hcm1, hnl1, arg1⟩ := open_ints' (k := .i64) Try.underlying44 Try.underlying3 (by kernel_rfl) tr1
  clear hA0 hval0
  refine (order_law W A0 n0 c0 l0 hnc0 hcm0 hnl0 arg0 A1 n1 c1 l1 hnc1 hcm1 hnl1 arg1).mono fun e W' ⟨he, bel⟩ => ?_
  subst he
  exact ⟨_, rfl, _, _, _, [], _, [], hW', trodAll_mk1 (shut_bool Try.underlying4 _), (trodAll_cons_mk (Below.trod laidOut (by kernel_rfl) (of_decide_eq_true (by kernel_rfl)) k0 bel lt0) (trodAll_cons_mk (Below.trod laidOut (by kernel_rfl) (of_decide_eq_true (by kernel_rfl)) k1 bel lt1) trodAll_mk0)), rfl, bel.frame _, fun h => by cases h⟩

theorem over : Rows.taskOrderRow.holds Try.pinned (OpenSpec.ofChange Rows.taskOrderSpec) :=
  OpenClaim.holds_of_wide 5 Try.f5 rfl rfl rfl rfl rfl rfl rfl ⟨rfl, rfl, rfl, rfl, rfl⟩ rfl rfl rfl rfl rfl (by kernel_rfl) Try.func5 (by kernel_rfl)
    (of_decide_eq_true (by kernel_rfl)) (by unfold Func.isWrapper; first | (rw [if_pos (by decide +kernel)]; kernel_rfl) | (rw [if_neg (by decide +kernel)]; exact ⟨rfl, rfl⟩))
    (fun os started H enc _ => lifted os started H enc)

/-- THE STATEMENT. -/
theorem proved : Rows.TaskOrderSaid := over
#print axioms proved
end Go.Proofs.Ytgdjbmfpbihopaa.taskOrder
