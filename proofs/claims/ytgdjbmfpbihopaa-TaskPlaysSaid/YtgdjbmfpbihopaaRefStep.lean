/-
  The reference's Step. No conditions.
-/
import Derived.Test.YtgdjbmfpbihopaaRefStepC
import Derived.Deep.RegionHeld3
namespace Go.Proofs.Ytgdjbmfpbihopaa
open Go.RowKit Go.MapKept
set_option linter.unusedVariables false
set_option linter.unusedSimpArgs false

section
variable {w : World} {M : RMem} {W : Wd}
set_option maxRecDepth 8000 in
set_option maxHeartbeats 4000000 in
theorem rstep_quiet (h : RAt w M W) (k s c : Int) (hs : stateF W k = s) (hc : (s = 0 ∧ c = 12) ∨ (s = 3 ∧ c = 16) ∨ (s = 2 ∧ c = 0)) :
    Calls Try.prog 21 #[.pointer (some ⟨M.p, 0, none⟩), .int .i64 k] w fun e w' => e = .returned (.tuple #[.int .i64 s, .int .i64 c]) ∧ Quiet w w' := by
  have HS := Lib.hid (rstate_at h k)
  rw [hs] at HS
  clear h hs
  rcases hc with ⟨rfl, rfl⟩ | ⟨rfl, rfl⟩ | ⟨rfl, rfl⟩
  all_goals
    go_enter Try.func21, Try.ntmps21
    go_wp2_with (go_at_call 23; refine HS.out.mono ?_; rintro e w2 ⟨rfl, hq⟩; have Q2 := Lib.hid hq; clear hq)
    go_ret2
    exact ⟨rfl, Q2.out⟩
theorem rstep_run (h : RAt w M W) {i : Nat} {t : RTask} (ht : M.ts[i]? = some t) (he : t.next < t.all.length) {o : Op3} (ho : t.all[t.next]? = some o) (hd : t.all.drop t.next = o :: t.all.drop (t.next + 1)) (hm : mayB W o = true) (hw : waitsB W o = false) {W2 : Wd} {cd : Int}
    (hW2 : doF (setT W i ⟨t.all.drop (t.next + 1), t.has⟩) i ⟨t.all.drop (t.next + 1), t.has⟩ o = (cd, W2)) :
    Calls Try.prog 21 #[.pointer (some ⟨M.p, 0, none⟩), .int .i64 (i : Int)] w fun e w' => e = .returned (.tuple #[.int .i64 (stateF W2 (i : Int)), .int .i64 cd]) ∧ RPost M.base M.p w W2 w' := by
  have hft := h.fit.tz _ (List.mem_of_getElem? (h.thread ht))
  have hil := (List.getElem?_eq_some_iff.1 (h.thread ht)).1
  have hfit : FitW W2 := by
    have := fit_do (W := setT W i ⟨t.all.drop (t.next + 1), t.has⟩) (k := i) (t := ⟨t.all.drop (t.next + 1), t.has⟩) (o := o) (h.fit.setT i ⟨by have := hft.1; simp only [List.length_drop] at this ⊢; omega, hft.2.1, fun o' ho' => hft.2.2 o' (drop_sub (Nat.le_succ _) ho')⟩) ⟨by have := hft.1; simp only [List.length_drop] at this ⊢; omega, hft.2.1, fun o' ho' => (mayB_setT _ _ _ _).trans (hft.2.2 o' (drop_sub (Nat.le_succ _) ho'))⟩ ((waits_setT _ _ _ _).trans hw)
    rw [hW2] at this
    exact this
  rcases may_cases hm with ⟨hkd, a, ha, hal⟩ | ⟨hkd, a, q, ha, hq⟩ | ⟨hkd, a, x, ha, hx⟩
  · rcases hkd with hkd | hkd
    · simp only [doF, hkd, if_true, ha, Prod.mk.injEq] at hW2
      obtain ⟨rfl, rfl⟩ := hW2
      exact rstep_lock h ht he ho hd hw hkd ha hal
    · by_cases hh : W.holds (a : Int) = some (i : Int)
      · have hh1 : (setT W i ⟨t.all.drop (t.next + 1), t.has⟩).holds (a : Int) = some (i : Int) := hh
        simp [doF, hkd, ha, hh1] at hW2
        obtain ⟨rfl, rfl⟩ := hW2
        exact rstep_unlock h ht he ho hd hw hkd ha hal hh
      · have hh1 : ¬ (setT W i ⟨t.all.drop (t.next + 1), t.has⟩).holds (a : Int) = some (i : Int) := hh
        simp [doF, hkd, ha, hh1] at hW2
        obtain ⟨rfl, rfl⟩ := hW2
        have e3 : stateF (setT (setT W i ⟨t.all.drop (t.next + 1), t.has⟩) i ⟨[], t.has⟩) (i : Int) = 3 := by
          rw [stateF_at (t := ⟨[], t.has⟩) (by simp only [setT, List.set_set]; exact List.getElem?_set_self hil)]
          rfl
        rw [e3]
        exact rstep_held h ht he ho hd hw hkd ha hal hh
  · have hq1 : (setT W i ⟨t.all.drop (t.next + 1), t.has⟩).pipes[a]? = some q := hq
    rcases hkd with hkd | hkd
    · simp [doF, hkd, ha, hq1] at hW2
      obtain ⟨rfl, rfl⟩ := hW2
      exact rstep_send h ht he ho hd hw hkd ha hq hfit
    · cases hl : q.l with
      | nil => simp [waitsB, hkd, ha, hq, hl] at hw
      | cons v rest =>
        simp [doF, hkd, ha, hq1, hl] at hW2
        obtain ⟨rfl, rfl⟩ := hW2
        obtain ⟨X, hX, _⟩ := h.pipes a q hq
        cases hc : (X.c == 1) with
        | true => exact rstep_recv1 h ht he ho hd hw hkd ha hq hl hX (by simpa using hc)
        | false => exact rstep_recv2 h ht he ho hd hw hkd ha hq hl hX hc
  · have hx1 : (setT W i ⟨t.all.drop (t.next + 1), t.has⟩).words[a]? = some x := hx
    rcases hkd with hkd | hkd
    · simp [doF, hkd, ha, List.getD_eq_getElem?_getD, hx1] at hW2
      obtain ⟨rfl, rfl⟩ := hW2
      exact rstep_add h ht he ho hd hw hkd ha hx
    · simp [doF, hkd, ha, List.getD_eq_getElem?_getD, hx1] at hW2
      obtain ⟨rfl, rfl⟩ := hW2
      exact rstep_load h ht he ho hd hw hkd ha hx
theorem rstep_at (h : RAt w M W) (k : Int) :
    Calls Try.prog 21 #[.pointer (some ⟨M.p, 0, none⟩), .int .i64 k] w fun e w' => e = .returned (.tuple #[.int .i64 (stepF W k).1, .int .i64 (stepF W k).2.1]) ∧ RPost M.base M.p w (stepF W k).2.2 w' := by
  have hl := h.len.1
  have same : ∀ {w' : World}, Quiet w w' → RPost M.base M.p w W w' := fun hq => RPost.of (h.quiet hq) (RSide.quiet hq) rfl rfl
  by_cases hk : k < 0 ∨ (M.ts.length : Int) ≤ k
  · have e0 : stepF W k = (0, 12, W) := by
      unfold stepF
      by_cases h0 : k < 0
      · rw [if_pos h0]
      · rw [if_neg h0, List.getElem?_eq_none (by omega)]
    rw [e0]
    refine (rstep_quiet h k 0 12 (stateF_no (by rw [hl]; exact hk)) (.inl ⟨rfl, rfl⟩)).mono ?_
    rintro e w' ⟨rfl, hq⟩
    exact ⟨rfl, same hq⟩
  · obtain ⟨i, rfl⟩ : ∃ i : Nat, k = (i : Int) := ⟨k.toNat, by omega⟩
    obtain ⟨t, ht⟩ : ∃ t, M.ts[i]? = some t := ⟨_, List.getElem?_eq_getElem (by omega)⟩
    have hth := h.thread ht
    have hle := (h.tl t (List.mem_of_getElem? ht)).2.1
    by_cases he : t.next = t.all.length
    · have hn : t.all.drop t.next = [] := by rw [he, List.drop_length]
      rw [stepF_nil hth hn]
      refine (rstep_quiet h (i : Int) 3 16 (by rw [stateF_at hth]; unfold stateT; simp only [hn]) (.inr (.inl ⟨rfl, rfl⟩))).mono ?_
      rintro e w' ⟨rfl, hq⟩
      exact ⟨rfl, same hq⟩
    · obtain ⟨o, go, off, ho, hd, hm, _⟩ := h.op ht (by omega)
      cases hw : waitsB W o with
      | true =>
        rw [stepF_wait hth hd hw]
        refine (rstep_quiet h (i : Int) 2 0 (by rw [stateF_at hth]; unfold stateT; simp only [hd]; rw [hw]; rfl) (.inr (.inr ⟨rfl, rfl⟩))).mono ?_
        rintro e w' ⟨rfl, hq⟩
        exact ⟨rfl, same hq⟩
      | false =>
        rw [stepF_run hth hd hw]
        exact rstep_run h ht (by omega) ho hd hm hw rfl
theorem rstep {base p : Nat} (h : RRel base p W w) (k : Int) :
    Calls Try.prog 21 #[.pointer (some ⟨p, 0, none⟩), .int .i64 k] w fun e w' => e = .returned (.tuple #[.int .i64 (stepF W k).1, .int .i64 (stepF W k).2.1]) ∧ RPost base p w (stepF W k).2.2 w' := by
  obtain ⟨M, h1, rfl, rfl⟩ := h
  exact rstep_at h1 k
end
end Go.Proofs.Ytgdjbmfpbihopaa
