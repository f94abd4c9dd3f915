/-
  A world of tasks by name: one contract for each call. No conditions.
-/
import Derived.Test.YtgdjbmfpbihopaaStart
namespace Go.Proofs.Ytgdjbmfpbihopaa
open Go.RowKit Go.MapKept
set_option linter.unusedVariables false
set_option linter.unusedSimpArgs false

def TRel (base p : Nat) (W : Wd) (w : World) : Prop := ∃ M, TAt w M ∧ M.wd = W ∧ M.p = p ∧ M.base = base
section
variable {base p : Nat} {W : Wd} {w w' : World}
theorem TRel.quiet (h : TRel base p W w) (hq : Quiet w w') : TRel base p W w' := let ⟨M, h1, h2⟩ := h; ⟨M, h1.quiet hq, h2⟩
theorem TRel.fit (h : TRel base p W w) : FitW W := let ⟨M, h1, h2, _⟩ := h; h2 ▸ h1.fit
theorem TRel.lo (h : TRel base p W w) : base ≤ w.heap.size := let ⟨M, h1, _, _, h4⟩ := h; h4 ▸ h1.lo
theorem TRel.of_post {M : TMem} {W' : Wd} (hp : M.p = p) (hb : M.base = base) (h : DPost M w W' w') : TRel base p W' w' ∧ Only (TSide base w) w w' := by
  obtain ⟨M', h1, h2, h3, h4, h5⟩ := h
  exact ⟨⟨M', h1, h2, h3.trans hp, h4.trans hb⟩, hb ▸ h5⟩
theorem tstep (h : TRel base p W w) (k : Int) :
    Calls Try.prog 10 #[.pointer (some ⟨p, 0, none⟩), .int .i64 k] w fun e w' => e = .returned (.tuple #[.int .i64 (stepF W k).1, .int .i64 (stepF W k).2.1]) ∧ TRel base p (stepF W k).2.2 w' ∧ Only (TSide base w) w w' := by
  obtain ⟨M, h1, rfl, h3, h4⟩ := h
  rw [← h3]
  refine (step_at h1 k).mono ?_
  rintro e w' ⟨rfl, hd⟩
  exact ⟨rfl, TRel.of_post rfl h4 hd⟩
theorem tstart (h : TRel base p W w) {A : Option Addr} {n c : Nat} {l : List Op3} (hr : OpRd w A n c l) :
    Calls Try.prog 9 #[.pointer (some ⟨p, 0, none⟩), .slice A n c] w fun e w' => e = .returned (.tuple #[.int .i64 (startF W l).1, .int .i64 (startF W l).2.1]) ∧ TRel base p (startF W l).2.2 w' ∧ Only (TSide base w) w w' := by
  obtain ⟨M, h1, rfl, h3, h4⟩ := h
  rw [← h3]
  refine (start_at h1 hr).mono ?_
  rintro e w' ⟨rfl, hd⟩
  exact ⟨rfl, TRel.of_post rfl h4 hd⟩
theorem tstate (h : TRel base p W w) (k : Int) : Calls Try.prog 11 #[.pointer (some ⟨p, 0, none⟩), .int .i64 k] w fun e w' => e = .returned (.int .i64 (stateF W k)) ∧ Quiet w w' := by
  obtain ⟨M, h1, rfl, h3, h4⟩ := h
  rw [← h3]
  exact state_at h1 k
theorem thas (h : TRel base p W w) (k : Int) : Calls Try.prog 12 #[.pointer (some ⟨p, 0, none⟩), .int .i64 k] w fun e w' => e = .returned (.int .i64 (hasF W k)) ∧ Quiet w w' := by
  obtain ⟨M, h1, rfl, h3, h4⟩ := h
  rw [← h3]
  exact has_at h1 k
theorem tword (h : TRel base p W w) (k : Int) : Calls Try.prog 13 #[.pointer (some ⟨p, 0, none⟩), .int .i64 k] w fun e w' => e = .returned (.int .i64 (wordF W k)) ∧ Quiet w w' := by
  obtain ⟨M, h1, rfl, h3, h4⟩ := h
  rw [← h3]
  exact word_at h1 k
theorem tstuck (h : TRel base p W w) : Calls Try.prog 14 #[.pointer (some ⟨p, 0, none⟩)] w fun e w' => e = .returned (.bool (stuckF W)) ∧ Quiet w w' := by
  obtain ⟨M, h1, rfl, h3, h4⟩ := h
  rw [← h3]
  exact stuck_at h1
theorem side_quiet {w0 : World} (h : Quiet w0 w) (hb : w0.heap.size ≤ base) (ho : Only (TSide base w) w w') : Quiet w0 w' := h.over ho (fun i hi q => by have := q.1; omega)
theorem side_keep (ho : Only (TSide base w) w w') {g : Nat} {cs : Array Value} {t : TypeId} {f : Nat × Nat} (hb : w.heap[g]? = some (.cells cs t f)) (ht : t ≠ 29 ∧ t ≠ 21 ∧ t ≠ 77 ∧ t ≠ 74) : w'.heap[g]? = some (.cells cs t f) :=
  ho.keep hb (fun q => by
    rcases q.2 _ _ _ hb with e | e | e | e
    · exact ht.1 e
    · exact ht.2.1 e
    · exact ht.2.2.1 e
    · exact ht.2.2.2 e)
theorem side_rd (ho : Only (TSide base w) w w') {A : Option Addr} {n c : Nat} {l : List Op3} (h : OpRd w A n c l) (hlo : ∀ b off, A = some ⟨b, off, none⟩ → b < base) : OpRd w' A n c l :=
  h.only ho (fun b ⟨off, e⟩ _ q => by have := hlo b off e; have := q.1; omega)
end
theorem intsArg_nil (k : IntKind) (w : World) : IntsArg k w none 0 [] := ⟨rfl, by simp, fun h => absurd h (by omega)⟩
theorem tnew {L W : Int} {A : Option Addr} {n c : Nat} {l : List Int} {w : World} (hz : newCode L W l = 0) (hc : n ≤ c) (hcm : c ≤ maxLen) (harg : IntsArg .i64 w A n l) :
    Calls Try.prog 15 #[.int .i64 L, .int .i64 W, .slice A n c] w fun e w' => ∃ p, e = .returned (.tuple #[.pointer (some ⟨p, 0, none⟩), .int .i64 0]) ∧ TRel w.heap.size p (newW L W l) w' ∧ Quiet w w' := by
  refine (new_any L W A n c l w hc hcm harg).mono ?_
  rintro e w' (⟨_, M, h1, h2, h3, h4, h5⟩ | ⟨h1, _⟩)
  · exact ⟨M.p, h1, ⟨M, h2, h3, rfl, h4⟩, h5⟩
  · rw [hz] at h1; cases h1
end Go.Proofs.Ytgdjbmfpbihopaa
