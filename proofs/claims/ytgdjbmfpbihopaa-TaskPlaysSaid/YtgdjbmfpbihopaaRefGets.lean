/-
  The reference's word, State and Stuck. No conditions.
-/
import Derived.Test.YtgdjbmfpbihopaaRefMem
namespace Go.Proofs.Ytgdjbmfpbihopaa
open Go.RowKit Go.MapKept
set_option linter.unusedVariables false
set_option linter.unusedSimpArgs false

theorem tmod_in (n : Int) : ∃ r, n.tmod 4294967296 = r ∧ -4294967296 < r ∧ r < 4294967296 ∧ (r + 4294967296) % 4294967296 = n % 4294967296 := by
  by_cases h : 0 ≤ n
  · exact ⟨_, rfl, by rw [Int.tmod_eq_emod_of_nonneg h]; omega, by rw [Int.tmod_eq_emod_of_nonneg h]; omega, by rw [Int.tmod_eq_emod_of_nonneg h]; omega⟩
  · obtain ⟨m, rfl⟩ : ∃ m, n = -m := ⟨-n, by omega⟩
    have e : (-m).tmod 4294967296 = -(m % 4294967296) := by rw [Int.neg_tmod, Int.tmod_eq_emod_of_nonneg (by omega)]
    exact ⟨_, rfl, by rw [e]; omega, by rw [e]; omega, by rw [e]; omega⟩
theorem rword_val (n : Int) : (wrap64 (n.tmod 4294967296 + 4294967296)).tmod 4294967296 = n % 4294967296 := by
  obtain ⟨r, e, h1, h2, h3⟩ := tmod_in n
  rw [e]
  have hw : wrap64 (r + 4294967296) = r + 4294967296 := by
    have := IntKind.wrap_i64 (r + 4294967296)
    unfold wrap64
    omega
  rw [hw, Int.tmod_eq_emod_of_nonneg (by omega)]
  exact h3
set_option maxHeartbeats 4000000 in
theorem rword_at (w : World) (n : Int) : Calls Try.prog 30 #[.int .i64 n] w fun e w' => e = .returned (.int .i64 (w32 n)) ∧ Quiet w w' := by
  have hm := rword_val n
  obtain ⟨v, hv⟩ : ∃ v, v = n % 4294967296 := ⟨_, rfl⟩
  have hw : w32 n = if v < 2147483648 then v else v - 4294967296 := by unfold w32; split <;> omega
  rw [hw]
  rw [← hv] at hm
  have v0 : 0 ≤ v := by omega
  have v1 : v < 4294967296 := by omega
  clear hw hv
  by_cases hc : v < 2147483648
  · rw [if_pos hc]
    have hd : decide (2147483648 ≤ v) = false := by simp; omega
    go_enter Try.func30, Try.ntmps30
    go_wp2
    go_ret
    exact ⟨rfl, Only.refl _ _⟩
  · rw [if_neg hc]
    have hd : decide (2147483648 ≤ v) = true := by simp; omega
    go_enter Try.func30, Try.ntmps30
    go_wp2
    go_ret
    exact ⟨rfl, Only.refl _ _⟩
end Go.Proofs.Ytgdjbmfpbihopaa
