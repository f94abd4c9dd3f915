/-
  What the program's State, Has and Word tell. No conditions.
-/
import Derived.Test.YtgdjbmfpbihopaaGets
namespace Go.Proofs.Ytgdjbmfpbihopaa
open Go.RowKit Go.MapKept
set_option linter.unusedVariables false
set_option linter.unusedSimpArgs false

set_option maxHeartbeats 2000000 in
theorem state_no {w : World} {M : TMem} (h : TAt w M) (k : Int) (hk : k < 0 ∨ (M.ts.length : Int) ≤ k) :
    Calls Try.prog 11 #[.pointer (some ⟨M.p, 0, none⟩), .int .i64 k] w fun e w' => e = .returned (.int .i64 0) ∧ Quiet w w' := by
  obtain ⟨⟨c0, c1, c2, c3, c4, c5⟩, ps, _⟩ := h.cells
  obtain ⟨A, cap, hv, hcm⟩ := h.tasks.shape
  have hsm := h.fit.tasks
  have hl : M.wd.tasks.length = M.ts.length := by simp [TMem.wd]
  rw [hl] at hsm
  rw [hv] at c5
  unfold maxLen at hcm
  obtain ⟨n, hn⟩ : ∃ n, n = M.ts.length := ⟨_, rfl⟩
  rw [← hn] at c5 hk hsm
  clear h hv hn hl c1 c2 c3 c4
  rcases hk with hk | hk
  · have d1 : decide ((0 : Int) ≤ k) = false := by simp; omega
    go_enter Try.func11, Try.ntmps11
    go_wp2
    go_ret
    exact ⟨rfl, by repeat (first | exact Only.refl _ _ | refine Only.drewN ?_ _ | refine Only.drew ?_ | refine Only.alloc ?_ _)⟩
  · have d1 : decide ((0 : Int) ≤ k) = true := by simp; omega
    have d2 : decide (k ≤ (n : Int) - 1) = false := by simp; omega
    go_enter Try.func11, Try.ntmps11
    go_wp2
    go_ret
    exact ⟨rfl, by repeat (first | exact Only.refl _ _ | refine Only.drewN ?_ _ | refine Only.drew ?_ | refine Only.alloc ?_ _)⟩
set_option maxHeartbeats 2000000 in
theorem state_end {w : World} {M : TMem} (h : TAt w M) (i : Nat) {y : BR × Thr} (hy : M.ts[i]? = some y) (hl0 : y.2.left = []) :
    Calls Try.prog 11 #[.pointer (some ⟨M.p, 0, none⟩), .int .i64 (i : Int)] w fun e w' => e = .returned (.int .i64 3) ∧ Quiet w w' := by
  obtain ⟨⟨c0, c1, c2, c3, c4, c5⟩, ps, _⟩ := h.cells
  obtain ⟨g, cap, hv, hcap, hcm, _, ⟨cur, hg⟩, r0, r1⟩ := h.tasks.row hy
  have gs := lt_of_heap hg
  simp only [tc, hl0, List.length_nil] at r0 r1
  have hsm := h.fit.tasks
  have hl : M.wd.tasks.length = M.ts.length := by simp [TMem.wd]
  rw [hl] at hsm
  have hi : i < M.ts.length := (List.getElem?_eq_some_iff.1 hy).1
  rw [hv] at c5
  unfold maxLen at hcm
  obtain ⟨n, hn⟩ : ∃ n, n = M.ts.length := ⟨_, rfl⟩
  rw [← hn] at c5 hsm hcap hi
  have i0 : (0 : Int) ≤ (i : Int) := by omega
  have i1 : (i : Int) < (n : Int) := by omega
  have d1 : decide ((0 : Int) ≤ (i : Int)) = true := by simp
  have d2 : decide ((i : Int) ≤ (n : Int) - 1) = true := by simp; omega
  clear h hv hn hl hy hl0 hg c1 c2 c3 c4
  go_enter Try.func11, Try.ntmps11
  go_wp2
  go_ret
  exact ⟨rfl, by repeat (first | exact Only.refl _ _ | refine Only.drewN ?_ _ | refine Only.drew ?_ | refine Only.alloc ?_ _)⟩
set_option maxHeartbeats 2000000 in
theorem state_some {w : World} {M : TMem} (h : TAt w M) (i : Nat) {y : BR × Thr} (hy : M.ts[i]? = some y) {o : Op3} {r : List Op3} (hl0 : y.2.left = o :: r) :
    Calls Try.prog 11 #[.pointer (some ⟨M.p, 0, none⟩), .int .i64 (i : Int)] w fun e w' => e = .returned (.int .i64 (if waitsB M.wd o then 2 else 1)) ∧ Quiet w w' := by
  obtain ⟨⟨c0, c1, c2, c3, c4, c5⟩, ps, _⟩ := h.cells
  obtain ⟨g, cap, hv, hcap, hcm, _, ⟨cur, hg⟩, r0, r1⟩ := h.tasks.row hy
  have gs := lt_of_heap hg
  have hop := h.tl y (List.mem_of_getElem? hy)
  have hnc := hop.2.1
  have hcc := hop.2.2.1
  rw [hl0] at hop hnc
  obtain ⟨g2, o2, hA, gs2, e0, e1, e2, _⟩ := hop.head
  simp only [tc, hl0, List.length_cons, hA] at r0 r1
  have hsm := h.fit.tasks
  have hl : M.wd.tasks.length = M.ts.length := by simp [TMem.wd]
  rw [hl] at hsm
  have hi : i < M.ts.length := (List.getElem?_eq_some_iff.1 hy).1
  rw [hv] at c5
  have hmay : mayB M.wd o = true := (h.fit.tz y.2 (by simp only [TMem.wd]; exact List.mem_map_of_mem (List.mem_of_getElem? hy))).2.2 o (by rw [hl0]; exact .head _)
  have HW := Lib.hid (fun (W : World) (hW : Quiet w W) => waits_at (h.quiet hW) o hmay)
  simp only [List.length_cons] at hnc
  unfold maxLen at hcm hcc
  obtain ⟨n, hn⟩ : ∃ n, n = M.ts.length := ⟨_, rfl⟩
  rw [← hn] at c5 hsm hcap hi
  obtain ⟨m, hm⟩ : ∃ m, m = r.length := ⟨_, rfl⟩
  rw [← hm] at r0 hnc
  have i0 : (0 : Int) ≤ (i : Int) := by omega
  have i1 : (i : Int) < (n : Int) := by omega
  have d1 : decide ((0 : Int) ≤ (i : Int)) = true := by simp
  have d2 : decide ((i : Int) ≤ (n : Int) - 1) = true := by simp; omega
  have m0 : ((m : Int) + 1 == 0) = false := by simp; omega
  have m1 : (0 : Int) < (m : Int) + 1 := by omega
  clear h hv hn hl hy hl0 hg hm hop hmay hA c1 c2 c3 c4
  cases hb : waitsB M.wd o
  all_goals
    rw [hb] at HW
    go_enter Try.func11, Try.ntmps11
    go_wp2_with (first
      | (go_at_call 24; refine (none_of _ _ c0 ps).mono ?_; rintro e w2 ⟨rfl, rfl⟩)
      | (go_at_call 28; refine (within_yes _ _ _ (by omega) (by omega)).mono ?_; rintro e w2 ⟨rfl, rfl⟩)
      | (go_at_call 29; refine (HW.out _ (Only.refl _ _)).mono ?_; rintro e w2 ⟨rfl, hq⟩; have Q2 := Lib.hid hq; clear hq))
    go_ret
    exact ⟨rfl, Q2.out⟩
theorem state_at {w : World} {M : TMem} (h : TAt w M) (k : Int) :
    Calls Try.prog 11 #[.pointer (some ⟨M.p, 0, none⟩), .int .i64 k] w fun e w' => e = .returned (.int .i64 (stateF M.wd k)) ∧ Quiet w w' := by
  have hl : M.wd.tasks.length = M.ts.length := by simp [TMem.wd]
  by_cases hk : k < 0 ∨ (M.ts.length : Int) ≤ k
  · rw [stateF_no (by rw [hl]; exact hk)]
    exact state_no h k hk
  · obtain ⟨i, rfl⟩ : ∃ i : Nat, k = (i : Int) := ⟨k.toNat, by omega⟩
    obtain ⟨y, hy, hy2⟩ := M.task_at (i := i) (by omega)
    rw [stateF_at hy2]
    rcases stateT_cases M.wd y.2 with ⟨h1, h2⟩ | ⟨o, r, h1, h3, h2⟩ | ⟨o, r, h1, h3, h2⟩
    · rw [h2]; exact state_end h i hy h1
    · have := state_some h i hy h1
      rw [h3] at this
      rw [h2]; exact this
    · have := state_some h i hy h1
      rw [h3] at this
      rw [h2]; exact this
set_option maxHeartbeats 2000000 in
theorem has_at {w : World} {M : TMem} (h : TAt w M) (k : Int) :
    Calls Try.prog 12 #[.pointer (some ⟨M.p, 0, none⟩), .int .i64 k] w fun e w' => e = .returned (.int .i64 (hasF M.wd k)) ∧ Quiet w w' := by
  have hl : M.wd.tasks.length = M.ts.length := by simp [TMem.wd]
  have HS := Lib.hid (state_at h k)
  by_cases hk : k < 0 ∨ (M.ts.length : Int) ≤ k
  · have e0 : hasF M.wd k = 0 := by
      unfold hasF
      by_cases h0 : k < 0
      · rw [if_pos h0]
      · rw [if_neg h0, List.getElem?_eq_none (by omega)]
    rw [stateF_no (by rw [hl]; exact hk)] at HS
    rw [e0]
    clear h hl hk e0
    go_enter Try.func12, Try.ntmps12
    go_wp2_with (go_at_call 11; refine HS.out.mono ?_; rintro e w2 ⟨rfl, hq⟩; have Q2 := Lib.hid hq; clear hq)
    go_ret
    exact ⟨rfl, Q2.out⟩
  · obtain ⟨i, rfl⟩ : ∃ i : Nat, k = (i : Int) := ⟨k.toNat, by omega⟩
    obtain ⟨y, hy, hy2⟩ := M.task_at (i := i) (by omega)
    have e0 : hasF M.wd (i : Int) = y.2.has := by
      unfold hasF
      rw [if_neg (by omega), Int.toNat_natCast, hy2]
    rw [stateF_at hy2] at HS
    rw [e0]
    have hne : (stateT M.wd y.2 == 0) = false := by
      rcases stateT_cases M.wd y.2 with ⟨_, h2⟩ | ⟨o, r, _, _, h2⟩ | ⟨o, r, _, _, h2⟩ <;> rw [h2] <;> rfl
    have hz := (h.fit.tz y.2 (List.mem_of_getElem? hy2)).2.1
    have HC := Lib.hid (fun (W : World) (hW : Quiet w W) => show W.cell? ⟨M.p, 5, none⟩ = some M.vt ∧ M.p < W.heap.size ∧ W.cell? ⟨M.p, 0, none⟩ = some (.bool true) from ⟨(h.quiet hW).cells.1.2.2.2.2.2, (h.quiet hW).cells.2.1, (h.quiet hW).cells.1.1⟩)
    obtain ⟨g, cap, hv, hcap, hcm, _, ⟨cur, hg⟩, r0, r1⟩ := h.tasks.row hy
    have gs := lt_of_heap hg
    simp only [tc] at r0 r1
    have HR := Lib.hid (fun (W : World) (hW : Quiet w W) => (hW.cell (p := ⟨g, i * 2 + 1, none⟩) gs (fun x => x)).trans r1)
    have hi : i < M.ts.length := (List.getElem?_eq_some_iff.1 hy).1
    rw [hv] at HC
    unfold maxLen at hcm
    unfold In32 at hz
    obtain ⟨z1, z2⟩ := hz
    obtain ⟨n, hn⟩ : ∃ n, n = M.ts.length := ⟨_, rfl⟩
    rw [← hn] at HC hcap hi
    have i0 : (0 : Int) ≤ (i : Int) := by omega
    have i1 : (i : Int) < (n : Int) := by omega
    generalize stateT M.wd y.2 = st at HS hne
    clear h hl hk e0 hy hy2 hv hg r0 r1 hn
    go_enter Try.func12, Try.ntmps12
    go_wp2_with (go_at_call 11; refine HS.out.mono ?_; rintro e w2 ⟨rfl, hq⟩; have Q2 := Lib.hid hq; have t1 := HR.out _ hq; obtain ⟨t2, t3, _⟩ := HC.out _ hq; clear hq)
    go_ret
    exact ⟨rfl, Q2.out⟩
set_option maxHeartbeats 2000000 in
theorem word_at {w : World} {M : TMem} (h : TAt w M) (k : Int) :
    Calls Try.prog 13 #[.pointer (some ⟨M.p, 0, none⟩), .int .i64 k] w fun e w' => e = .returned (.int .i64 (wordF M.wd k)) ∧ Quiet w w' := by
  obtain ⟨⟨c0, c1, c2, c3, c4, c5⟩, ps, _⟩ := h.cells
  have hsm := h.fit.words
  have hle := h.words.le
  have hcl := h.words.capLe
  unfold maxLen at hcl
  simp only [TMem.wd] at hsm
  by_cases hk : k < 0 ∨ (M.words.length : Int) ≤ k
  · have e0 : wordF M.wd k = 0 := by
      unfold wordF
      by_cases h0 : k < 0
      · rw [if_pos h0]
      · rw [if_neg h0, List.getD_eq_getElem?_getD, List.getElem?_eq_none (by simp only [TMem.wd]; omega)]; rfl
    rw [e0]
    obtain ⟨n, hn⟩ : ∃ n, n = M.words.length := ⟨_, rfl⟩
    rw [← hn] at c3 hk hsm hle
    clear h hn e0 c1 c2 c4 c5
    rcases hk with hk | hk
    · have d1 : decide ((0 : Int) ≤ k) = false := by simp; omega
      go_enter Try.func13, Try.ntmps13
      go_wp2
      go_ret
      exact ⟨rfl, by repeat (first | exact Only.refl _ _ | refine Only.drewN ?_ _ | refine Only.drew ?_ | refine Only.alloc ?_ _)⟩
    · have d1 : decide ((0 : Int) ≤ k) = true := by simp; omega
      have d2 : decide (k ≤ (n : Int) - 1) = false := by simp; omega
      go_enter Try.func13, Try.ntmps13
      go_wp2
      go_ret
      exact ⟨rfl, by repeat (first | exact Only.refl _ _ | refine Only.drewN ?_ _ | refine Only.drew ?_ | refine Only.alloc ?_ _)⟩
  · obtain ⟨i, rfl⟩ : ∃ i : Nat, k = (i : Int) := ⟨k.toNat, by omega⟩
    have hi : i < M.words.length := by omega
    have e0 : wordF M.wd (i : Int) = M.words[i] := by
      unfold wordF
      rw [if_neg (by omega), Int.toNat_natCast, List.getD_eq_getElem?_getD]
      simp only [TMem.wd]
      rw [List.getElem?_eq_getElem hi]; rfl
    rw [e0]
    have hz := h.fit.wi (M.words[i]) (List.getElem_mem hi)
    unfold In32 at hz
    obtain ⟨z1, z2⟩ := hz
    obtain ⟨g, off, hA, gs, r0⟩ := h.words.cell (i := i) (x := i32 (M.words[i])) (by rw [i32s, List.getElem?_map, List.getElem?_eq_getElem hi]; rfl)
    rw [hA] at c3
    unfold i32 at r0
    generalize M.words[i] = x at r0 z1 z2 ⊢
    obtain ⟨n, hn⟩ : ∃ n, n = M.words.length := ⟨_, rfl⟩
    rw [← hn] at c3 hi hsm hle
    have i0 : (0 : Int) ≤ (i : Int) := by omega
    have i1 : (i : Int) < (n : Int) := by omega
    have d1 : decide ((0 : Int) ≤ (i : Int)) = true := by simp
    have d2 : decide ((i : Int) ≤ (n : Int) - 1) = true := by simp; omega
    clear h hn e0 hA hk c1 c2 c4 c5
    go_enter Try.func13, Try.ntmps13
    go_wp2
    go_ret
    exact ⟨rfl, by repeat (first | exact Only.refl _ _ | refine Only.drewN ?_ _ | refine Only.drew ?_ | refine Only.alloc ?_ _)⟩
end Go.Proofs.Ytgdjbmfpbihopaa
