/-
  The reference's State. No conditions.
-/
import Derived.Test.YtgdjbmfpbihopaaRefGets
import Derived.Deep.DeepCutAuto
namespace Go.Proofs.Ytgdjbmfpbihopaa
open Go.RowKit Go.MapKept
set_option linter.unusedVariables false
set_option linter.unusedSimpArgs false

section
variable {w : World} {M : RMem} {W : Wd}
set_option maxHeartbeats 4000000 in
theorem rstate_no (h : RAt w M W) (k : Int) (hk : k < 0 ∨ (W.tasks.length : Int) ≤ k) : Calls Try.prog 23 #[.pointer (some ⟨M.p, 0, none⟩), .int .i64 k] w fun e w' => e = .returned (.int .i64 0) ∧ Quiet w w' := by
  have c4 := h.head.2.2.2.2.1
  have ps := h.head.2.2.2.2.2
  obtain ⟨A, cap, hv, hc1, hc2⟩ := h.shape
  obtain ⟨hl, hl2⟩ := h.len
  rw [hv] at c4
  rw [hl] at hk
  obtain ⟨N, hN⟩ : ∃ N, N = M.ts.length := ⟨_, rfl⟩
  rw [← hN] at c4 hk hl2 hc1
  unfold maxLen at hc2
  clear hv hl h hN
  by_cases h1 : k < 0
  · have d1 : decide (k < 0) = true := decide_eq_true h1
    go_enter Try.func23, Try.ntmps23
    go_wp2
    go_ret
    exact ⟨rfl, by repeat (first | exact Only.refl _ _ | refine Only.drewN ?_ _ | refine Only.drew ?_)⟩
  · have d1 : decide (k < 0) = false := decide_eq_false h1
    have d2 : decide ((N : Int) ≤ k) = true := by simp; omega
    go_enter Try.func23, Try.ntmps23
    go_wp2
    go_ret
    exact ⟨rfl, by repeat (first | exact Only.refl _ _ | refine Only.drewN ?_ _ | refine Only.drew ?_)⟩
set_option maxHeartbeats 4000000 in
theorem rstate_end (h : RAt w M W) {i : Nat} {t : RTask} (ht : M.ts[i]? = some t) (he : t.next = t.all.length) : Calls Try.prog 23 #[.pointer (some ⟨M.p, 0, none⟩), .int .i64 (i : Int)] w fun e w' => e = .returned (.int .i64 3) ∧ Quiet w w' := by
  have c4 := h.head.2.2.2.2.1
  have ps := h.head.2.2.2.2.2
  obtain ⟨g, cap, hv, hc1, hc2, gs, g0, g1, g2⟩ := h.task ht
  have hi := (List.getElem?_eq_some_iff.1 ht).1
  obtain ⟨hl, hl2⟩ := h.len
  obtain ⟨hop, _, hal⟩ := h.tl t (List.mem_of_getElem? ht)
  rw [hv] at c4
  obtain ⟨N, hN⟩ : ∃ N, N = M.ts.length := ⟨_, rfl⟩
  rw [← hN] at c4 hl2 hc1 hi
  rw [he] at g1
  obtain ⟨L, hL⟩ : ∃ L, L = t.all.length := ⟨_, rfl⟩
  rw [← hL] at g0 g1 hal
  unfold maxLen at hc2
  clear hv hl h hN hL he hop ht
  have d1 : decide ((i : Int) < 0) = false := by simp
  have d2 : decide ((N : Int) ≤ (i : Int)) = false := by simp; omega
  have i0 : (0 : Int) ≤ (i : Int) := by omega
  have i1 : (i : Int) < (N : Int) := by omega
  go_enter Try.func23, Try.ntmps23
  go_wp2
  go_ret
  exact ⟨rfl, by repeat (first | exact Only.refl _ _ | refine Only.drewN ?_ _ | refine Only.drew ?_ | refine Only.alloc ?_ _)⟩
/-- What a task that is not done has ahead. -/
theorem RAt.op (h : RAt w M W) {i : Nat} {t : RTask} (ht : M.ts[i]? = some t) (he : t.next < t.all.length) : ∃ o go off, t.all[t.next]? = some o ∧ t.all.drop t.next = o :: t.all.drop (t.next + 1) ∧ mayB W o = true ∧ t.A = some ⟨go, off, none⟩ ∧ t.all.length ≤ t.c ∧ t.c ≤ maxLen ∧ go < w.heap.size ∧
    w.cell? ⟨go, off + t.next * 3, none⟩ = some (.int .i64 o.kind) ∧ w.cell? ⟨go, off + t.next * 3 + 1, none⟩ = some (.int .i64 o.a) ∧ w.cell? ⟨go, off + t.next * 3 + 2, none⟩ = some (.int .i64 o.b) := by
  obtain ⟨o, ho⟩ : ∃ o, t.all[t.next]? = some o := ⟨_, List.getElem?_eq_getElem he⟩
  have hop := (h.tl t (List.mem_of_getElem? ht)).1
  obtain ⟨go, off, e1, e2, e3, e4, e5⟩ := hop.at ho
  have hd : t.all.drop t.next = o :: t.all.drop (t.next + 1) := by
    obtain ⟨hc, hx⟩ := List.getElem?_eq_some_iff.1 ho
    rw [List.drop_eq_getElem_cons hc, hx]
  refine ⟨o, go, off, ho, hd, ?_, e1, hop.2.1, hop.2.2.1, e2, e3, e4, e5⟩
  exact (h.fit.tz _ (List.mem_of_getElem? (h.thread ht))).2.2 o (by rw [hd]; exact .head _)
set_option maxRecDepth 8000 in
set_option maxHeartbeats 16000000 in
theorem rstate_free (h : RAt w M W) {i : Nat} {t : RTask} (ht : M.ts[i]? = some t) (he : t.next < t.all.length) {o : Op3} (ho : t.all[t.next]? = some o) (hk : o.kind = 2 ∨ o.kind = 5 ∨ o.kind = 6) : Calls Try.prog 23 #[.pointer (some ⟨M.p, 0, none⟩), .int .i64 (i : Int)] w fun e w' => e = .returned (.int .i64 1) ∧ Quiet w w' := by
  have c4 := h.head.2.2.2.2.1
  have ps := h.head.2.2.2.2.2
  obtain ⟨g, cap, hv, hc1, hc2, gs, g0, g1, g2⟩ := h.task ht
  obtain ⟨o', go, off, ho', _, _, hA, hc3, hc4, os, o0, o1, o2⟩ := h.op ht he
  rw [ho] at ho'
  obtain rfl := Option.some.inj ho'
  have hi := (List.getElem?_eq_some_iff.1 ht).1
  obtain ⟨hl, hl2⟩ := h.len
  obtain ⟨_, _, hal⟩ := h.tl t (List.mem_of_getElem? ht)
  rw [hv] at c4
  obtain ⟨N, hN⟩ : ∃ N, N = M.ts.length := ⟨_, rfl⟩
  rw [← hN] at c4 hl2 hc1 hi
  obtain ⟨L, hL⟩ : ∃ L, L = t.all.length := ⟨_, rfl⟩
  obtain ⟨n, hn⟩ : ∃ n, n = t.next := ⟨_, rfl⟩
  obtain ⟨c, hc⟩ : ∃ c, c = t.c := ⟨_, rfl⟩
  rw [hA] at g0
  rw [← hL] at g0 hal he hc3
  rw [← hn] at g1 he o0 o1 o2
  rw [← hc] at g0 hc3 hc4
  obtain ⟨kd, a, b⟩ := o
  simp only at o0 o1 o2 hk
  unfold maxLen at hc2 hc4
  clear hv hl h hN hL ho ht hA hn hc ho'
  have d1 : decide ((i : Int) < 0) = false := by simp
  have d2 : decide ((N : Int) ≤ (i : Int)) = false := by simp; omega
  have i0 : (0 : Int) ≤ (i : Int) := by omega
  have i1 : (i : Int) < (N : Int) := by omega
  have n0 : (0 : Int) ≤ (n : Int) := by omega
  have n1 : (n : Int) < (L : Int) := by omega
  have d3 : decide ((L : Int) ≤ (n : Int)) = false := by simp; omega
  rcases hk with rfl | rfl | rfl
  all_goals
    go_enter Try.func23, Try.ntmps23
    go_wp2
    go_quiet (fail)
    go_wp2
    go_ret
    exact ⟨rfl, by repeat (first | exact Only.refl _ _ | refine Only.drewN ?_ _ | refine Only.drew ?_ | refine Only.alloc ?_ _)⟩
set_option maxRecDepth 8000 in
set_option maxHeartbeats 16000000 in
theorem rstate_lock (h : RAt w M W) {i : Nat} {t : RTask} (ht : M.ts[i]? = some t) (he : t.next < t.all.length) {o : Op3} (ho : t.all[t.next]? = some o) (hk : o.kind = 1) {a : Nat} (ha : o.a = (a : Int)) (hal : (a : Int) < W.locks) : Calls Try.prog 23 #[.pointer (some ⟨M.p, 0, none⟩), .int .i64 (i : Int)] w fun e w' => e = .returned (.int .i64 (if (W.holds (a : Int)).isSome then 2 else 1)) ∧ Quiet w w' := by
  have c4 := h.head.2.2.2.2.1
  have ps := h.head.2.2.2.2.2
  have c0 := h.head.1
  obtain ⟨gl, ol, hlA, gls, hll, hlc, hlm, hlx, hnn⟩ := h.lock hal
  rw [RRow.v, hlA] at c0
  obtain ⟨nl, hnl⟩ : ∃ n, n = M.lk.l.length := ⟨_, rfl⟩
  obtain ⟨cl, hcl⟩ : ∃ n, n = M.lk.c := ⟨_, rfl⟩
  rw [← hnl] at c0 hll hlc
  rw [← hcl] at c0 hlc hlm
  clear hlA hnl hcl hal
  obtain ⟨g, cap, hv, hc1, hc2, gs, g0, g1, g2⟩ := h.task ht
  obtain ⟨o', go, off, ho', _, _, hA, hc3, hc4, os, o0, o1, o2⟩ := h.op ht he
  rw [ho] at ho'
  obtain rfl := Option.some.inj ho'
  have hi := (List.getElem?_eq_some_iff.1 ht).1
  obtain ⟨hl, hl2⟩ := h.len
  obtain ⟨_, _, hal⟩ := h.tl t (List.mem_of_getElem? ht)
  rw [hv] at c4
  obtain ⟨N, hN⟩ : ∃ N, N = M.ts.length := ⟨_, rfl⟩
  rw [← hN] at c4 hl2 hc1 hi
  obtain ⟨L, hL⟩ : ∃ L, L = t.all.length := ⟨_, rfl⟩
  obtain ⟨n, hn⟩ : ∃ n, n = t.next := ⟨_, rfl⟩
  obtain ⟨c, hc⟩ : ∃ c, c = t.c := ⟨_, rfl⟩
  rw [hA] at g0
  rw [← hL] at g0 hal he hc3
  rw [← hn] at g1 he o0 o1 o2
  rw [← hc] at g0 hc3 hc4
  rw [hk] at o0
  rw [ha] at o1
  unfold maxLen at hc2 hc4 hlm
  clear hv hl h hN hL ho ht hA hn hc ho' hk ha
  have d1 : decide ((i : Int) < 0) = false := by simp
  have d2 : decide ((N : Int) ≤ (i : Int)) = false := by simp; omega
  have i0 : (0 : Int) ≤ (i : Int) := by omega
  have i1 : (i : Int) < (N : Int) := by omega
  have n0 : (0 : Int) ≤ (n : Int) := by omega
  have n1 : (n : Int) < (L : Int) := by omega
  have d3 : decide ((L : Int) ≤ (n : Int)) = false := by simp; omega
  have a0 : (0 : Int) ≤ (a : Int) := by omega
  have a1 : (a : Int) < (nl : Int) := by omega
  cases hh : W.holds (a : Int) with
  | none =>
    rw [hh] at hlx
    simp only [lockV] at hlx
    clear hnn hh
    go_enter Try.func23, Try.ntmps23
    go_wp2
    go_quiet (fail)
    go_wp2
    go_ret
    exact ⟨rfl, by repeat (first | exact Only.refl _ _ | refine Only.drewN ?_ _ | refine Only.drew ?_ | refine Only.alloc ?_ _)⟩
  | some x =>
    rw [hh] at hlx
    simp only [lockV] at hlx
    have hx := hnn x hh
    have d4 : (x + 1 != 0) = true := by simp; omega
    clear hnn hh
    go_enter Try.func23, Try.ntmps23
    go_wp2
    go_quiet (fail)
    go_wp2
    go_ret
    exact ⟨rfl, by repeat (first | exact Only.refl _ _ | refine Only.drewN ?_ _ | refine Only.drew ?_ | refine Only.alloc ?_ _)⟩
set_option maxRecDepth 8000 in
set_option maxHeartbeats 16000000 in
theorem rstate_chan (h : RAt w M W) {i : Nat} {t : RTask} (ht : M.ts[i]? = some t) (he : t.next < t.all.length) {o : Op3} (ho : t.all[t.next]? = some o) (hk : o.kind = 3 ∨ o.kind = 4) {a : Nat} (ha : o.a = (a : Int)) {q : Pipe} (hq : W.pipes[a]? = some q) : Calls Try.prog 23 #[.pointer (some ⟨M.p, 0, none⟩), .int .i64 (i : Int)] w fun e w' => e = .returned (.int .i64 (if (o.kind = 3 ∧ q.size ≤ q.l.length) ∨ (o.kind = 4 ∧ q.l.length = 0) then 2 else 1)) ∧ Quiet w w' := by
  have c4 := h.head.2.2.2.2.1
  have ps := h.head.2.2.2.2.2
  have c2 := h.head.2.2.1
  have c3 := h.head.2.2.2.1
  obtain ⟨x, gh, oh, gz, oz, hx, _, hgA, ghs, hac, hcc, hcm, hxc, hzA, gzs, haz, hzc, hzm, hzx⟩ := h.chan hq
  rw [hgA] at c2
  rw [RRow.v, hzA] at c3
  obtain ⟨nc, hnc⟩ : ∃ n, n = M.cs.length := ⟨_, rfl⟩
  obtain ⟨cc, hccq⟩ : ∃ n, n = M.gc := ⟨_, rfl⟩
  obtain ⟨nz, hnz⟩ : ∃ n, n = M.sz.l.length := ⟨_, rfl⟩
  obtain ⟨cz, hcz⟩ : ∃ n, n = M.sz.c := ⟨_, rfl⟩
  rw [← hnc, ← hccq] at c2
  rw [← hnc] at hac hcc
  rw [← hccq] at hcc hcm
  rw [← hnz, ← hcz] at c3
  rw [← hnz] at haz hzc
  rw [← hcz] at hzc hzm
  obtain ⟨nq, hnq⟩ : ∃ n, n = q.l.length := ⟨_, rfl⟩
  obtain ⟨sq, hsq⟩ : ∃ n, n = q.size := ⟨_, rfl⟩
  rw [← hnq] at hxc ⊢
  rw [← hsq] at hzx ⊢
  clear hgA hzA hnc hccq hnz hcz hq hx hnq hsq
  obtain ⟨g, cap, hv, hc1, hc2, gs, g0, g1, g2⟩ := h.task ht
  obtain ⟨o', go, off, ho', _, _, hA, hc3, hc4, os, o0, o1, o2⟩ := h.op ht he
  rw [ho] at ho'
  obtain rfl := Option.some.inj ho'
  have hi := (List.getElem?_eq_some_iff.1 ht).1
  obtain ⟨hl, hl2⟩ := h.len
  obtain ⟨_, _, hal⟩ := h.tl t (List.mem_of_getElem? ht)
  rw [hv] at c4
  obtain ⟨N, hN⟩ : ∃ N, N = M.ts.length := ⟨_, rfl⟩
  rw [← hN] at c4 hl2 hc1 hi
  obtain ⟨L, hL⟩ : ∃ L, L = t.all.length := ⟨_, rfl⟩
  obtain ⟨n, hn⟩ : ∃ n, n = t.next := ⟨_, rfl⟩
  obtain ⟨c, hc⟩ : ∃ c, c = t.c := ⟨_, rfl⟩
  rw [hA] at g0
  rw [← hL] at g0 hal he hc3
  rw [← hn] at g1 he o0 o1 o2
  rw [← hc] at g0 hc3 hc4
  rw [ha] at o1
  unfold maxLen at hc2 hc4 hcm hzm
  clear hv hl h hN hL ho ht hA hn hc ho' ha
  have d1 : decide ((i : Int) < 0) = false := by simp
  have d2 : decide ((N : Int) ≤ (i : Int)) = false := by simp; omega
  have i0 : (0 : Int) ≤ (i : Int) := by omega
  have i1 : (i : Int) < (N : Int) := by omega
  have n0 : (0 : Int) ≤ (n : Int) := by omega
  have n1 : (n : Int) < (L : Int) := by omega
  have d3 : decide ((L : Int) ≤ (n : Int)) = false := by simp; omega
  have a0 : (0 : Int) ≤ (a : Int) := by omega
  have a1 : (a : Int) < (nc : Int) := by omega
  have a2 : (a : Int) < (nz : Int) := by omega
  rcases hk with hk | hk
  · rw [hk] at o0 ⊢
    clear hk
    by_cases hs : sq ≤ (nq : Int)
    · have d4 : decide (sq ≤ (nq : Int)) = true := decide_eq_true hs
      rw [if_pos (.inl ⟨rfl, hs⟩)]
      go_enter Try.func23, Try.ntmps23
      go_wp2
      go_quiet (fail)
      go_wp2
      go_ret
      exact ⟨rfl, by repeat (first | exact Only.refl _ _ | refine Only.drewN ?_ _ | refine Only.drew ?_ | refine Only.alloc ?_ _)⟩
    · have d4 : decide (sq ≤ (nq : Int)) = false := decide_eq_false hs
      rw [if_neg (by rintro (⟨_, e⟩ | ⟨e, _⟩); exact hs e; exact absurd e (by decide))]
      go_enter Try.func23, Try.ntmps23
      go_wp2
      go_quiet (fail)
      go_wp2
      go_ret
      exact ⟨rfl, by repeat (first | exact Only.refl _ _ | refine Only.drewN ?_ _ | refine Only.drew ?_ | refine Only.alloc ?_ _)⟩
  · rw [hk] at o0 ⊢
    clear hk
    by_cases hs : nq = 0
    · have d4 : ((nq : Int) == 0) = true := by simp; omega
      rw [if_pos (.inr ⟨rfl, hs⟩)]
      clear hs
      go_enter Try.func23, Try.ntmps23
      go_wp2
      go_quiet (fail)
      go_wp2
      go_ret
      exact ⟨rfl, by repeat (first | exact Only.refl _ _ | refine Only.drewN ?_ _ | refine Only.drew ?_ | refine Only.alloc ?_ _)⟩
    · have d4 : ((nq : Int) == 0) = false := by simp; omega
      rw [if_neg (by rintro (⟨e, _⟩ | ⟨_, e⟩); exact absurd e (by decide); exact hs e)]
      clear hs
      go_enter Try.func23, Try.ntmps23
      go_wp2
      go_quiet (fail)
      go_wp2
      go_ret
      exact ⟨rfl, by repeat (first | exact Only.refl _ _ | refine Only.drewN ?_ _ | refine Only.drew ?_ | refine Only.alloc ?_ _)⟩
end
end Go.Proofs.Ytgdjbmfpbihopaa
