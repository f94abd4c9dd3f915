/-
  What the program's may tells. No conditions.
-/
import Derived.Test.YtgdjbmfpbihopaaNew
namespace Go.Proofs.Ytgdjbmfpbihopaa
open Go.RowKit Go.MapKept
set_option linter.unusedVariables false
set_option linter.unusedSimpArgs false

theorem within_b (w : World) (a b : Int) (r : Bool) (h : decide (0 ≤ a ∧ a ≤ b) = r) : Calls Try.prog 28 #[.int .i64 a, .int .i64 b] w fun e w' => e = .returned (.bool r) ∧ w' = w := by
  subst h
  by_cases hb : a < 0 ∨ b < a
  · rw [show decide (0 ≤ a ∧ a ≤ b) = false by simp; omega]
    exact (within_no w a b hb).mono fun _ _ ⟨h1, h2⟩ => ⟨h1, h2.symm⟩
  · rw [show decide (0 ≤ a ∧ a ≤ b) = true by simp; omega]
    exact (within_yes w a b (by omega) (by omega)).mono fun _ _ ⟨h1, h2⟩ => ⟨h1, h2.symm⟩
set_option maxRecDepth 8000 in
set_option maxHeartbeats 4000000 in
theorem may_at {w : World} {M : TMem} (h : TAt w M) (o : Op3) :
    Calls Try.prog 26 #[.pointer (some ⟨M.p, 0, none⟩), .agg #[.int .i64 o.kind, .int .i64 o.a, .int .i64 o.b]] w fun e w' => e = .returned (.bool (mayB M.wd o)) ∧ Quiet w w' := by
  obtain ⟨K, a, b⟩ := o
  obtain ⟨⟨c0, c1, c2, c3, c4, c5⟩, ps, _⟩ := h.cells
  have ps1 : M.p < w.heap.size + 1 := by omega
  by_cases h12 : K = 1 ∨ K = 2
  · obtain ⟨l1, l2⟩ := h.fit.locks
    have e : mayB M.wd ⟨K, a, b⟩ = decide (0 ≤ a ∧ a ≤ M.locks - 1) := by
      unfold mayB
      rw [if_pos h12]
      show decide (0 ≤ a ∧ a < M.locks) = _
      rw [Bool.eq_iff_iff]; simp; omega
    rw [e]
    obtain ⟨r, hr⟩ : ∃ r, decide (0 ≤ a ∧ a ≤ M.locks - 1) = r := ⟨_, rfl⟩
    rw [hr]
    have CW := Lib.hid (fun w => within_b w a (M.locks - 1) r hr)
    have l1' : 0 ≤ M.locks := l1
    have l2' : M.locks ≤ 64 := l2
    have iw : IntKind.i64.wrap (M.locks - 1) = M.locks - 1 := by rw [IntKind.wrap_i64]; omega
    generalize M.locks = L at c1 CW l1' l2' iw
    clear h hr e l1 l2 c0 c2 c3 c4 c5
    rcases h12 with rfl | rfl
    all_goals
      go_enter Try.func26, Try.ntmps26
      go_wp2_with fail
      go_quiet ((go_at_call 28; exact Calls.quiet_of_same (CW.out _)))
      go_wp2_with fail
      go_ret
      exact ⟨rfl, by repeat (first | exact Only.refl _ _ | refine Only.drewN ?_ _ | refine Only.drew ?_ | refine Only.alloc ?_ _)⟩
  by_cases h34 : K = 3 ∨ K = 4
  · have hl := h.fit.pipes
    rw [h.plen] at hl
    have e : mayB M.wd ⟨K, a, b⟩ = decide (0 ≤ a ∧ a ≤ (M.ps.length : Int) - 1) := by
      unfold mayB
      rw [if_neg h12, if_pos h34]
      rw [h.plen, Bool.eq_iff_iff]; simp; omega
    rw [e]
    obtain ⟨A, cap, hv, hcm⟩ := h.pipes.shape
    unfold maxLen at hcm
    rw [hv] at c4
    obtain ⟨r, hr⟩ : ∃ r, decide (0 ≤ a ∧ a ≤ (M.ps.length : Int) - 1) = r := ⟨_, rfl⟩
    rw [hr]
    have CW := Lib.hid (fun w => within_b w a ((M.ps.length : Int) - 1) r hr)
    generalize M.ps.length = L at c4 CW hl
    have iw : IntKind.i64.wrap ((L : Int) - 1) = (L : Int) - 1 := by rw [IntKind.wrap_i64]; omega
    clear h hr e hv h12 c0 c1 c2 c3 c5
    rcases h34 with rfl | rfl
    all_goals
      go_enter Try.func26, Try.ntmps26
      go_wp2_with fail
      go_quiet ((go_at_call 28; exact Calls.quiet_of_same (CW.out _)))
      go_wp2_with fail
      go_ret
      exact ⟨rfl, by repeat (first | exact Only.refl _ _ | refine Only.drewN ?_ _ | refine Only.drew ?_ | refine Only.alloc ?_ _)⟩
  by_cases h56 : K = 5 ∨ K = 6
  · have hl : M.words.length ≤ 64 := h.fit.words
    have e : mayB M.wd ⟨K, a, b⟩ = decide (0 ≤ a ∧ a ≤ (M.words.length : Int) - 1) := by
      unfold mayB
      rw [if_neg h12, if_neg h34, if_pos h56]
      show decide (0 ≤ a ∧ a < (M.words.length : Int)) = _
      rw [Bool.eq_iff_iff]; simp; omega
    rw [e]
    have hcm := h.words.capLe
    unfold maxLen at hcm
    obtain ⟨r, hr⟩ : ∃ r, decide (0 ≤ a ∧ a ≤ (M.words.length : Int) - 1) = r := ⟨_, rfl⟩
    rw [hr]
    have CW := Lib.hid (fun w => within_b w a ((M.words.length : Int) - 1) r hr)
    generalize M.words.length = L at c3 CW hl
    have iw : IntKind.i64.wrap ((L : Int) - 1) = (L : Int) - 1 := by rw [IntKind.wrap_i64]; omega
    clear h hr e h12 h34 c0 c1 c2 c4 c5
    rcases h56 with rfl | rfl
    all_goals
      go_enter Try.func26, Try.ntmps26
      go_wp2_with fail
      go_quiet ((go_at_call 28; exact Calls.quiet_of_same (CW.out _)))
      go_wp2_with fail
      go_ret
      exact ⟨rfl, by repeat (first | exact Only.refl _ _ | refine Only.drewN ?_ _ | refine Only.drew ?_ | refine Only.alloc ?_ _)⟩
  have e : mayB M.wd ⟨K, a, b⟩ = false := by
    unfold mayB
    rw [if_neg h12, if_neg h34, if_neg h56]
  rw [e]
  have e1 : (K == 1) = false := by simp; omega
  have e2 : (K == 2) = false := by simp; omega
  have e3 : (K == 3) = false := by simp; omega
  have e4 : (K == 4) = false := by simp; omega
  have e5 : (K == 5) = false := by simp; omega
  have e6 : (K == 6) = false := by simp; omega
  clear h e h12 h34 h56
  go_enter Try.func26, Try.ntmps26
  go_wp2_with fail
  go_ret
  exact ⟨rfl, by repeat (first | exact Only.refl _ _ | refine Only.drewN ?_ _ | refine Only.drew ?_ | refine Only.alloc ?_ _)⟩
end Go.Proofs.Ytgdjbmfpbihopaa
