/-
  The reference's State, of any number; its Stuck. No conditions.
-/
import Derived.Test.YtgdjbmfpbihopaaRefState
namespace Go.Proofs.Ytgdjbmfpbihopaa
open Go.RowKit Go.MapKept
set_option linter.unusedVariables false
set_option linter.unusedSimpArgs false

/-- What an operation is that a world lets in. -/
theorem may_cases {W : Wd} {o : Op3} (h : mayB W o = true) : ((o.kind = 1 ∨ o.kind = 2) ∧ ∃ a : Nat, o.a = (a : Int) ∧ (a : Int) < W.locks) ∨ ((o.kind = 3 ∨ o.kind = 4) ∧ ∃ (a : Nat) (q : Pipe), o.a = (a : Int) ∧ W.pipes[a]? = some q) ∨ ((o.kind = 5 ∨ o.kind = 6) ∧ ∃ (a : Nat) (x : Int), o.a = (a : Int) ∧ W.words[a]? = some x) := by
  unfold mayB at h
  by_cases h1 : o.kind = 1 ∨ o.kind = 2
  · rw [if_pos h1] at h
    have := of_decide_eq_true h
    exact .inl ⟨h1, o.a.toNat, by omega, by omega⟩
  rw [if_neg h1] at h
  by_cases h2 : o.kind = 3 ∨ o.kind = 4
  · rw [if_pos h2] at h
    have := of_decide_eq_true h
    exact .inr (.inl ⟨h2, o.a.toNat, _, by omega, List.getElem?_eq_getElem (by omega)⟩)
  rw [if_neg h2] at h
  by_cases h3 : o.kind = 5 ∨ o.kind = 6
  · rw [if_pos h3] at h
    have := of_decide_eq_true h
    exact .inr (.inr ⟨h3, o.a.toNat, _, by omega, List.getElem?_eq_getElem (by omega)⟩)
  rw [if_neg h3] at h
  cases h
section
variable {w : World} {M : RMem} {W : Wd}
theorem rstate_at (h : RAt w M W) (k : Int) : Calls Try.prog 23 #[.pointer (some ⟨M.p, 0, none⟩), .int .i64 k] w fun e w' => e = .returned (.int .i64 (stateF W k)) ∧ Quiet w w' := by
  by_cases hk : k < 0 ∨ (W.tasks.length : Int) ≤ k
  · rw [stateF_no hk]
    exact rstate_no h k hk
  obtain ⟨i, rfl⟩ : ∃ i : Nat, k = (i : Int) := ⟨k.toNat, by omega⟩
  have hl := h.len.1
  obtain ⟨t, ht⟩ : ∃ t, M.ts[i]? = some t := ⟨_, List.getElem?_eq_getElem (by omega)⟩
  rw [stateF_at (h.thread ht)]
  have hle := (h.tl t (List.mem_of_getElem? ht)).2.1
  unfold stateT
  by_cases he : t.next = t.all.length
  · simp only [he, List.drop_length]
    exact rstate_end h ht he
  · obtain ⟨o, go, off, ho, hd, hm, _⟩ := h.op ht (by omega)
    simp only [hd]
    rcases may_cases hm with ⟨hkd, a, ha, hal⟩ | ⟨hkd, a, q, ha, hq⟩ | ⟨hkd, a, x, ha, hx⟩
    · rcases hkd with hkd | hkd
      · have e : waitsB W o = (W.holds (a : Int)).isSome := by simp [waitsB, hkd, ha]
        rw [e]
        exact rstate_lock h ht (by omega) ho hkd ha hal
      · have e : waitsB W o = false := by simp [waitsB, hkd]
        rw [e]
        exact rstate_free h ht (by omega) ho (.inl hkd)
    · have := rstate_chan h ht (by omega) ho hkd ha hq
      have e : (if waitsB W o = true then (2 : Int) else 1) = if (o.kind = 3 ∧ q.size ≤ q.l.length) ∨ (o.kind = 4 ∧ q.l.length = 0) then 2 else 1 := by
        rcases hkd with hkd | hkd
        · simp [waitsB, hkd, ha, hq]
        · simp [waitsB, hkd, ha, hq]
      rw [e]
      exact this
    · have e : waitsB W o = false := by rcases hkd with hkd | hkd <;> simp [waitsB, hkd]
      rw [e]
      exact rstate_free h ht (by omega) ho (.inr hkd)
theorem rstate {base p : Nat} (h : RRel base p W w) (k : Int) : Calls Try.prog 23 #[.pointer (some ⟨p, 0, none⟩), .int .i64 k] w fun e w' => e = .returned (.int .i64 (stateF W k)) ∧ Quiet w w' := by
  obtain ⟨M, h1, rfl, _⟩ := h
  exact rstate_at h1 k
end
end Go.Proofs.Ytgdjbmfpbihopaa
