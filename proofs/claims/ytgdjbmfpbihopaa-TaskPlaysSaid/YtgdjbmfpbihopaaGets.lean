/-
  What the program's waits, State, Has and Word tell. No conditions.
-/
import Derived.Test.YtgdjbmfpbihopaaMem
import Derived.Deep.QuietTactic
import Derived.BigQuiet
import Derived.Lib.Hide
import Derived.Deep.RegionLaw
namespace Go.Proofs.Ytgdjbmfpbihopaa
open Go.RowKit Go.MapKept
set_option linter.unusedVariables false
set_option linter.unusedSimpArgs false

theorem TAt.only {F : Nat → Prop} {w w' : World} {M : TMem} (h : TAt w M) (ho : Only F w w') (hF : ∀ k, TOwns M k → ¬ F k) (hO : ∀ k cur, w.heap[k]? = some (.cells cur 41 (0, 0)) → ¬ F k) : TAt w' M :=
  ⟨ho.keep h.blk (hF _ (.inl rfl)), h.holds.only ho (hF _ (.inr (.inl rfl))), h.words.only ho (fun k hk => hF k (.inr (.inr (.inl hk)))), h.pipes.only ho (fun k hk => hF k (.inr (.inr (.inr (.inl hk))))),
    h.tasks.only ho (fun k hk => hF k (.inr (.inr (.inr (.inr (.inl hk)))))), fun y hy => (h.pl y hy).only ho (fun k hk => hF k (.inr (.inr (.inr (.inr (.inr ⟨y, hy, hk⟩)))))),
    fun y hy => (h.tl y hy).only ho hO, h.apart0, h.apart, Nat.le_trans h.lo ho.size, h.own, h.fit⟩
theorem TAt.quiet {w w' : World} {M : TMem} (h : TAt w M) (ho : Quiet w w') : TAt w' M := h.only ho (fun _ _ x => x) (fun _ _ _ x => x)
/-- The world's own cells. -/
theorem TAt.cells {w : World} {M : TMem} (h : TAt w M) : (w.cell? ⟨M.p, 0, none⟩ = some (.bool true) ∧ w.cell? ⟨M.p, 1, none⟩ = some (.int .i64 M.locks) ∧ w.cell? ⟨M.p, 2, none⟩ = some (.map (some M.m)) ∧
    w.cell? ⟨M.p, 3, none⟩ = some (.slice M.wr.A M.words.length M.wr.c) ∧ w.cell? ⟨M.p, 4, none⟩ = some M.vp ∧ w.cell? ⟨M.p, 5, none⟩ = some M.vt) ∧ M.p < w.heap.size ∧ ∀ j, w.frozen? ⟨M.p, j, none⟩ = false :=
  ⟨⟨blk_cell h.blk 0, blk_cell h.blk 1, blk_cell h.blk 2, blk_cell h.blk 3, blk_cell h.blk 4, blk_cell h.blk 5⟩, lt_of_heap h.blk, fun j => blk_frozen h.blk j⟩
theorem TMem.pipe_at {M : TMem} {i : Nat} (hi : i < M.wd.pipes.length) : ∃ y, M.ps[i]? = some y ∧ M.wd.pipes[i]? = some y.2 := by
  have hl : i < M.ps.length := by simpa [TMem.wd] using hi
  exact ⟨M.ps[i], List.getElem?_eq_getElem hl, by simp [TMem.wd, hl]⟩
theorem TMem.task_at {M : TMem} {i : Nat} (hi : i < M.ts.length) : ∃ y, M.ts[i]? = some y ∧ M.wd.tasks[i]? = some y.2 :=
  ⟨M.ts[i], List.getElem?_eq_getElem hi, by simp [TMem.wd, hi]⟩
def opV (o : Op3) : Value := .agg #[.int .i64 o.kind, .int .i64 o.a, .int .i64 o.b]
def box41 (o : Op3) : Obj := .cells #[.int .i64 o.kind, .int .i64 o.a, .int .i64 o.b] 41

theorem none_of (w : World) (p : Nat) (c0 : w.cell? ⟨p, 0, none⟩ = some (.bool true)) (ps : p < w.heap.size) :
    Calls Try.prog 24 #[.pointer (some ⟨p, 0, none⟩)] w fun e w' => e = .returned (.bool false) ∧ w = w' := by
  go_enter Try.func24, Try.ntmps24
  go_wp2
  go_ret
  exact ⟨rfl, rfl⟩
theorem within_yes (w : World) (a b : Int) (h1 : 0 ≤ a) (h2 : a ≤ b) : Calls Try.prog 28 #[.int .i64 a, .int .i64 b] w fun e w' => e = .returned (.bool true) ∧ w = w' := by
  have d1 : decide ((0 : Int) ≤ a) = true := by simpa using h1
  have d2 : decide (a ≤ b) = true := by simpa using h2
  go_enter Try.func28, Try.ntmps28
  go_wp2
  go_ret
  exact ⟨rfl, rfl⟩
theorem within_no (w : World) (a b : Int) (h : a < 0 ∨ b < a) : Calls Try.prog 28 #[.int .i64 a, .int .i64 b] w fun e w' => e = .returned (.bool false) ∧ w = w' := by
  by_cases h0 : a < 0
  · have d1 : decide ((0 : Int) ≤ a) = false := by simp; omega
    clear h h0
    go_enter Try.func28, Try.ntmps28
    go_wp2
    go_ret
    exact ⟨rfl, rfl⟩
  · have d1 : decide ((0 : Int) ≤ a) = true := by simp; omega
    have d2 : decide (a ≤ b) = false := by simp; omega
    clear h h0
    go_enter Try.func28, Try.ntmps28
    go_wp2
    go_ret
    exact ⟨rfl, rfl⟩
set_option maxHeartbeats 2000000 in
theorem waits_lock {w : World} {M : TMem} (h : TAt w M) (a b : Int) :
    Calls Try.prog 29 #[.pointer (some ⟨M.p, 0, none⟩), .agg #[.int .i64 1, .int .i64 a, .int .i64 b]] w fun e w' => e = .returned (.bool (M.holds a).isSome) ∧ Quiet w w' := by
  obtain ⟨⟨c0, c1, c2, c3, c4, c5⟩, ps, _⟩ := h.cells
  have g1 : M.p < w.heap.size + 1 := by omega
  have hl : ∀ o n, (Instr.lookup 24 (.map (some M.m)) (.int .i64 a) true).run Try.prog ((w.alloc o).drewN n) = .ok (.tuple #[.int .i64 ((M.holds a).getD 0), .bool (M.holds a).isSome]) ((w.alloc o).drewN n) := fun o n => (h.quiet (((Only.refl (fun _ => False) w).alloc o).drewN n)).holds.look a true
  clear h c0 c1 c3 c4 c5
  go_enter Try.func29, Try.ntmps29
  go_wp2
  go_quiet (fail)
  go_wp2
  go_ret
  exact ⟨rfl, by repeat (first | exact Only.refl _ _ | refine Only.drewN ?_ _ | refine Only.drew ?_ | refine Only.alloc ?_ _)⟩
set_option maxHeartbeats 2000000 in
theorem waits_none {w : World} {M : TMem} (h : TAt w M) (K a b : Int) (hK : K = 2 ∨ K = 5 ∨ K = 6) :
    Calls Try.prog 29 #[.pointer (some ⟨M.p, 0, none⟩), .agg #[.int .i64 K, .int .i64 a, .int .i64 b]] w fun e w' => e = .returned (.bool false) ∧ Quiet w w' := by
  clear h
  rcases hK with rfl | rfl | rfl
  all_goals
    go_enter Try.func29, Try.ntmps29
    go_wp2
    go_ret
    exact ⟨rfl, by repeat (first | exact Only.refl _ _ | refine Only.drewN ?_ _ | refine Only.drew ?_ | refine Only.alloc ?_ _)⟩
set_option maxHeartbeats 2000000 in
theorem waits_send {w : World} {M : TMem} (h : TAt w M) (i : Nat) (b : Int) {y : BR × Pipe} (hy : M.ps[i]? = some y) :
    Calls Try.prog 29 #[.pointer (some ⟨M.p, 0, none⟩), .agg #[.int .i64 3, .int .i64 (i : Int), .int .i64 b]] w fun e w' => e = .returned (.bool (decide (y.2.size ≤ y.2.l.length))) ∧ Quiet w w' := by
  obtain ⟨⟨c0, c1, c2, c3, c4, c5⟩, ps, _⟩ := h.cells
  obtain ⟨g, cap, hv, hcap, hcm, _, ⟨cur, hg⟩, r0, r1⟩ := h.pipes.row hy
  have gs := lt_of_heap hg
  simp only [pc] at r0 r1
  rw [hv] at c4
  have hi : i < M.ps.length := (List.getElem?_eq_some_iff.1 hy).1
  unfold maxLen at hcm
  obtain ⟨n, hn⟩ : ∃ n, n = M.ps.length := ⟨_, rfl⟩
  rw [← hn] at c4 hcap hi
  have i0 : (0 : Int) ≤ (i : Int) := by omega
  have i1 : (i : Int) < (n : Int) := by omega
  clear h hv hy hn hg c0 c1 c2 c3 c5
  go_enter Try.func29, Try.ntmps29
  go_wp2
  go_quiet (fail)
  go_wp2
  go_ret
  exact ⟨rfl, by repeat (first | exact Only.refl _ _ | refine Only.drewN ?_ _ | refine Only.drew ?_ | refine Only.alloc ?_ _)⟩
set_option maxHeartbeats 2000000 in
theorem waits_recv {w : World} {M : TMem} (h : TAt w M) (i : Nat) (b : Int) {y : BR × Pipe} (hy : M.ps[i]? = some y) :
    Calls Try.prog 29 #[.pointer (some ⟨M.p, 0, none⟩), .agg #[.int .i64 4, .int .i64 (i : Int), .int .i64 b]] w fun e w' => e = .returned (.bool (decide (y.2.l.length = 0))) ∧ Quiet w w' := by
  obtain ⟨⟨c0, c1, c2, c3, c4, c5⟩, ps, _⟩ := h.cells
  obtain ⟨g, cap, hv, hcap, hcm, _, ⟨cur, hg⟩, r0, r1⟩ := h.pipes.row hy
  have gs := lt_of_heap hg
  simp only [pc] at r0 r1
  rw [hv] at c4
  have hi : i < M.ps.length := (List.getElem?_eq_some_iff.1 hy).1
  unfold maxLen at hcm
  obtain ⟨n, hn⟩ : ∃ n, n = M.ps.length := ⟨_, rfl⟩
  rw [← hn] at c4 hcap hi
  have hz : ((y.2.l.length : Int) == 0) = decide (y.2.l.length = 0) := by rw [Bool.eq_iff_iff]; simp
  have i0 : (0 : Int) ≤ (i : Int) := by omega
  have i1 : (i : Int) < (n : Int) := by omega
  clear h hv hy hn hg c0 c1 c2 c3 c5
  go_enter Try.func29, Try.ntmps29
  go_wp2
  go_quiet (fail)
  go_wp2
  go_ret
  exact ⟨by first | rfl | (simp; done) | simp_all, by repeat (first | exact Only.refl _ _ | refine Only.drewN ?_ _ | refine Only.drew ?_ | refine Only.alloc ?_ _)⟩
theorem waits_at {w : World} {M : TMem} (h : TAt w M) (o : Op3) (hm : mayB M.wd o = true) :
    Calls Try.prog 29 #[.pointer (some ⟨M.p, 0, none⟩), .agg #[.int .i64 o.kind, .int .i64 o.a, .int .i64 o.b]] w fun e w' => e = .returned (.bool (waitsB M.wd o)) ∧ Quiet w w' := by
  obtain ⟨K, a, b⟩ := o
  rcases mayB_kind hm with ⟨h1 | h1, ha⟩ | ⟨h1 | h1, ha0, ha1⟩ | ⟨h1 | h1, ha⟩ <;> simp only [] at h1 <;> subst h1
  · exact waits_lock h a b
  · exact waits_none h 2 a b (.inl rfl)
  · simp only [] at ha0 ha1
    obtain ⟨i, rfl⟩ : ∃ i : Nat, a = (i : Int) := ⟨a.toNat, by omega⟩
    obtain ⟨y, hy, hy2⟩ := M.pipe_at (i := i) (by omega)
    have e : waitsB M.wd ⟨3, (i : Int), b⟩ = decide (y.2.size ≤ y.2.l.length) := by simp [waitsB, hy2]
    rw [e]
    exact waits_send h i b hy
  · simp only [] at ha0 ha1
    obtain ⟨i, rfl⟩ : ∃ i : Nat, a = (i : Int) := ⟨a.toNat, by omega⟩
    obtain ⟨y, hy, hy2⟩ := M.pipe_at (i := i) (by omega)
    have e : waitsB M.wd ⟨4, (i : Int), b⟩ = decide (y.2.l.length = 0) := by simp [waitsB, hy2]
    rw [e]
    exact waits_recv h i b hy
  · exact waits_none h 5 a b (.inr (.inl rfl))
  · exact waits_none h 6 a b (.inr (.inr rfl))
end Go.Proofs.Ytgdjbmfpbihopaa
