/-
  Steps of a world of tasks, case by case, in plain words. No program here. No conditions.
-/
import Derived.Test.YtgdjbmfpbihopaaFit
namespace Go.Proofs.Ytgdjbmfpbihopaa
set_option linter.unusedVariables false
set_option linter.unusedSimpArgs false

theorem pstep_no {W : Wd} {k : Int} (h : k < 0 ∨ (W.tasks.length : Int) ≤ k) : stepF W k = (0, 12, W) := by
  unfold stepF
  by_cases h0 : k < 0
  · rw [if_pos h0]
  · rw [if_neg h0, List.getElem?_eq_none (by omega)]
theorem pstep_nil {W : Wd} {i : Nat} {t : Thr} (h : W.tasks[i]? = some t) (hl : t.left = []) : stepF W (i : Int) = (3, 16, W) := by
  unfold stepF
  rw [if_neg (by omega), Int.toNat_natCast, h]
  simp only [hl]
theorem pstep_wait {W : Wd} {i : Nat} {t : Thr} {o : Op3} {r : List Op3} (h : W.tasks[i]? = some t) (hl : t.left = o :: r) (hw : waitsB W o = true) : stepF W (i : Int) = (2, 0, W) := by
  unfold stepF
  rw [if_neg (by omega), Int.toNat_natCast, h]
  simp only [hl, hw, if_true]
theorem pstep_run {W : Wd} {i : Nat} {t : Thr} {o : Op3} {r : List Op3} (h : W.tasks[i]? = some t) (hl : t.left = o :: r) (hw : waitsB W o = false) {c : Int} {W' : Wd}
    (hd : doF (setT W i { t with left := r }) i { t with left := r } o = (c, W')) : stepF W (i : Int) = (stateF W' (i : Int), c, W') := by
  unfold stepF
  rw [if_neg (by omega), Int.toNat_natCast, h]
  simp only [hl, hw, if_false, Bool.false_eq_true, hd]
theorem setT_at {W : Wd} {i : Nat} {t t' : Thr} (h : W.tasks[i]? = some t) : (setT W i t').tasks[i]? = some t' := by
  have := (List.getElem?_eq_some_iff.1 h).1
  simp only [setT, List.getElem?_set, if_true]
  rw [if_pos this]
theorem tasks_set {l : List Thr} {i j : Nat} {t : Thr} (h : i < l.length) : (l.set i t)[j]? = if j = i then some t else l[j]? := by
  rw [List.getElem?_set]
  by_cases hij : i = j
  · subst hij; rw [if_pos rfl, if_pos h, if_pos rfl]
  · rw [if_neg hij, if_neg (fun e => hij e.symm)]
/-- The count of a state that no task is in. -/
theorem count_zero {W : Wd} {s : Int} : ∀ (n : Nat), (∀ i : Nat, i < n → stateF W i ≠ s) → countF W n s = 0
  | 0, _ => rfl
  | n + 1, h => by
    simp only [countF]
    rw [count_zero n (fun i hi => h i (by omega)), if_neg (h n (by omega))]
theorem count_pos {W : Wd} {s : Int} : ∀ (n : Nat) {i : Nat}, i < n → stateF W i = s → 0 < countF W n s
  | n + 1, i, hi, hs => by
    simp only [countF]
    by_cases h : i = n
    · subst h; rw [if_pos hs]; omega
    · have := count_pos n (i := i) (by omega) hs
      omega
theorem count_of_pos {W : Wd} {s : Int} : ∀ (n : Nat), 0 < countF W n s → ∃ i, i < n ∧ stateF W (i : Nat) = s
  | 0, h => by simp [countF] at h
  | n + 1, h => by
    simp only [countF] at h
    by_cases hs : stateF W n = s
    · exact ⟨n, by omega, hs⟩
    · rw [if_neg hs] at h
      obtain ⟨i, hi, h2⟩ := count_of_pos n (by omega)
      exact ⟨i, by omega, h2⟩
theorem stuck_no {W : Wd} (h : (∃ i : Nat, i < W.tasks.length ∧ stateF W i = 1) ∨ ∀ i : Nat, i < W.tasks.length → stateF W i ≠ 2) : stuckF W = false := by
  unfold stuckF
  rcases h with ⟨i, hi, hs⟩ | h
  · have := count_pos W.tasks.length hi hs
    simp; omega
  · rw [count_zero _ h]; simp
end Go.Proofs.Ytgdjbmfpbihopaa
