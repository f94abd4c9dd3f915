/-
  What every world of tasks keeps: bounds, and operations that are this world's. No program here. No conditions.
-/
import Derived.Test.YtgdjbmfpbihopaaModel
namespace Go.Proofs.Ytgdjbmfpbihopaa
set_option linter.unusedVariables false
set_option linter.unusedSimpArgs false

def In32 (x : Int) : Prop := -2147483648 ≤ x ∧ x ≤ 2147483647
structure FitW (W : Wd) : Prop where
  locks : 0 ≤ W.locks ∧ W.locks ≤ 64
  words : W.words.length ≤ 64
  wi : ∀ x ∈ W.words, In32 x
  pipes : W.pipes.length ≤ 16
  pz : ∀ y ∈ W.pipes, 1 ≤ y.size ∧ y.size ≤ 64 ∧ (y.l.length : Int) ≤ y.size ∧ ∀ x ∈ y.l, In32 x
  tasks : W.tasks.length ≤ 64
  tz : ∀ y ∈ W.tasks, y.left.length ≤ 1000 ∧ In32 y.has ∧ ∀ o ∈ y.left, mayB W o = true
/-- The two worlds let in the same operations. -/
theorem mayB_same {W W' : Wd} (h1 : W'.locks = W.locks) (h2 : W'.pipes.length = W.pipes.length) (h3 : W'.words.length = W.words.length) (o : Op3) : mayB W' o = mayB W o := by
  unfold mayB
  rw [h1, h2, h3]
theorem FitW.holds {W : Wd} (h : FitW W) (f : Int → Option Int) : FitW { W with holds := f } := ⟨h.locks, h.words, h.wi, h.pipes, h.pz, h.tasks, h.tz⟩
theorem FitW.setT {W : Wd} (h : FitW W) (k : Nat) {t : Thr} (ht : t.left.length ≤ 1000 ∧ In32 t.has ∧ ∀ o ∈ t.left, mayB W o = true) : FitW (setT W k t) := by
  refine ⟨h.locks, h.words, h.wi, h.pipes, h.pz, by simpa [Ytgdjbmfpbihopaa.setT] using h.tasks, fun y hy => ?_⟩
  rcases List.mem_or_eq_of_mem_set hy with hy | rfl
  · exact h.tz y hy
  · exact ht
theorem FitW.setP {W : Wd} (h : FitW W) (k : Nat) {p : Pipe} (hp : 1 ≤ p.size ∧ p.size ≤ 64 ∧ (p.l.length : Int) ≤ p.size ∧ ∀ x ∈ p.l, In32 x) : FitW (setP W k p) := by
  refine ⟨h.locks, h.words, h.wi, by simpa [Ytgdjbmfpbihopaa.setP] using h.pipes, fun y hy => ?_, h.tasks, fun y hy => ?_⟩
  · rcases List.mem_or_eq_of_mem_set hy with hy | rfl
    · exact h.pz y hy
    · exact hp
  · obtain ⟨h1, h2, h3⟩ := h.tz y hy
    exact ⟨h1, h2, fun o ho => (mayB_same (W := W) (W' := Ytgdjbmfpbihopaa.setP W k p) rfl (by simp [Ytgdjbmfpbihopaa.setP]) rfl o).trans (h3 o ho)⟩
theorem FitW.setW {W : Wd} (h : FitW W) (k : Nat) {x : Int} (hx : In32 x) : FitW { W with words := W.words.set k x } := by
  refine ⟨h.locks, by simpa using h.words, fun y hy => ?_, h.pipes, h.pz, h.tasks, fun y hy => ?_⟩
  · rcases List.mem_or_eq_of_mem_set hy with hy | rfl
    · exact h.wi y hy
    · exact hx
  · obtain ⟨h1, h2, h3⟩ := h.tz y hy
    exact ⟨h1, h2, fun o ho => (mayB_same (W := W) (W' := { W with words := W.words.set k x }) rfl rfl (by simp) o).trans (h3 o ho)⟩
theorem FitW.add {W : Wd} (h : FitW W) (hl : W.tasks.length < 64) {t : Thr} (ht : t.left.length ≤ 1000 ∧ In32 t.has ∧ ∀ o ∈ t.left, mayB W o = true) : FitW { W with tasks := W.tasks ++ [t] } := by
  refine ⟨h.locks, h.words, h.wi, h.pipes, h.pz, by simp; omega, fun y hy => ?_⟩
  rcases List.mem_append.1 hy with hy | hy
  · exact h.tz y hy
  · obtain rfl := List.mem_singleton.1 hy
    exact ht
theorem in32_w32 (x : Int) : In32 (w32 x) := w32_in x
theorem fit_do {W : Wd} (h : FitW W) {k : Nat} {t : Thr} {o : Op3} (ht : t.left.length ≤ 1000 ∧ In32 t.has ∧ ∀ o ∈ t.left, mayB W o = true) (hw : waitsB W o = false) : FitW (doF W k t o).2 := by
  unfold doF
  by_cases h1 : o.kind = 1
  · rw [if_pos h1]; exact h.holds _
  rw [if_neg h1]
  by_cases h2 : o.kind = 2
  · rw [if_pos h2]
    by_cases h3 : W.holds o.a = some (k : Int)
    · rw [if_pos h3]; exact h.holds _
    · rw [if_neg h3]; exact h.setT k ⟨by simp, ht.2.1, by simp⟩
  rw [if_neg h2]
  by_cases h3 : o.kind = 3
  · rw [if_pos h3]
    cases hp : W.pipes[o.a.toNat]? with
    | none => exact h
    | some p =>
      obtain ⟨p1, p2, p3, p4⟩ := h.pz p (List.mem_of_getElem? hp)
      have hw' : ¬ p.size ≤ (p.l.length : Int) := by
        unfold waitsB at hw
        simp [h3, hp] at hw
        omega
      refine h.setP _ ⟨p1, p2, by simp; omega, fun x hx => ?_⟩
      rcases List.mem_append.1 hx with hx | hx
      · exact p4 x hx
      · obtain rfl := List.mem_singleton.1 hx
        exact in32_w32 _
  rw [if_neg h3]
  by_cases h4 : o.kind = 4
  · rw [if_pos h4]
    cases hp : W.pipes[o.a.toNat]? with
    | none => exact h
    | some p =>
      obtain ⟨p1, p2, p3, p4⟩ := h.pz p (List.mem_of_getElem? hp)
      refine (h.setT k (t := { t with has := w32 (t.has + p.l.headD 0) }) ⟨ht.1, in32_w32 _, ht.2.2⟩).setP _ ⟨p1, p2, by simp; omega, fun x hx => p4 x (List.mem_of_mem_tail hx)⟩
  rw [if_neg h4]
  by_cases h5 : o.kind = 5
  · rw [if_pos h5]; exact h.setW _ (in32_w32 _)
  rw [if_neg h5]
  by_cases h6 : o.kind = 6
  · rw [if_pos h6]; exact h.setT k ⟨ht.1, in32_w32 _, ht.2.2⟩
  rw [if_neg h6]
  exact h
theorem fit_new {locks words : Int} {sizes : List Int} (h : newCode locks words sizes = 0) : FitW (newW locks words sizes) := by
  unfold newCode at h
  by_cases h1 : locks < 0 ∨ 64 < locks ∨ words < 0 ∨ 64 < words ∨ 16 < sizes.length
  · rw [if_pos h1] at h; exact absurd h (by decide)
  rw [if_neg h1] at h
  cases h2 : sizes.all (fun n => decide (1 ≤ n ∧ n ≤ 64)) with
  | false => rw [h2] at h; exact absurd h (by decide)
  | true =>
    have h3 := List.all_eq_true.1 h2
    refine ⟨by simp only [newW]; omega, by simp [newW]; omega, fun x hx => ?_, by simp [newW]; omega, fun y hy => ?_, by simp [newW], fun y hy => by simp [newW] at hy⟩
    · obtain ⟨_, rfl⟩ := List.mem_replicate.1 hx
      unfold In32; omega
    · obtain ⟨n, hn, rfl⟩ := List.mem_map.1 hy
      have := h3 n hn
      simp at this
      exact ⟨this.1, this.2, by simp; omega, by simp⟩
theorem mayB_kind {W : Wd} {o : Op3} (h : mayB W o = true) : ((o.kind = 1 ∨ o.kind = 2) ∧ 0 ≤ o.a ∧ o.a < W.locks) ∨ ((o.kind = 3 ∨ o.kind = 4) ∧ 0 ≤ o.a ∧ o.a < W.pipes.length) ∨ ((o.kind = 5 ∨ o.kind = 6) ∧ 0 ≤ o.a ∧ o.a < W.words.length) := by
  unfold mayB at h
  by_cases h1 : o.kind = 1 ∨ o.kind = 2
  · rw [if_pos h1] at h; exact .inl ⟨h1, by simpa using h⟩
  rw [if_neg h1] at h
  by_cases h2 : o.kind = 3 ∨ o.kind = 4
  · rw [if_pos h2] at h; exact .inr (.inl ⟨h2, by simpa using h⟩)
  rw [if_neg h2] at h
  by_cases h3 : o.kind = 5 ∨ o.kind = 6
  · rw [if_pos h3] at h; exact .inr (.inr ⟨h3, by simpa using h⟩)
  rw [if_neg h3] at h
  cases h
end Go.Proofs.Ytgdjbmfpbihopaa
