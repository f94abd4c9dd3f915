/-
  What the program's do and Step do. No conditions.
-/
import Derived.Test.YtgdjbmfpbihopaaDoRest
namespace Go.Proofs.Ytgdjbmfpbihopaa
open Go.RowKit Go.MapKept
set_option linter.unusedVariables false
set_option linter.unusedSimpArgs false

theorem stepF_nil {W : Wd} {i : Nat} {t : Thr} (h : W.tasks[i]? = some t) (hl : t.left = []) : stepF W (i : Int) = (3, 16, W) := by
  unfold stepF
  rw [if_neg (by omega), Int.toNat_natCast, h]
  simp only [hl]
theorem stepF_wait {W : Wd} {i : Nat} {t : Thr} {o : Op3} {r : List Op3} (h : W.tasks[i]? = some t) (hl : t.left = o :: r) (hw : waitsB W o = true) : stepF W (i : Int) = (2, 0, W) := by
  unfold stepF
  rw [if_neg (by omega), Int.toNat_natCast, h]
  simp only [hl, hw, if_true]
theorem stepF_run {W : Wd} {i : Nat} {t : Thr} {o : Op3} {r : List Op3} (h : W.tasks[i]? = some t) (hl : t.left = o :: r) (hw : waitsB W o = false) :
    stepF W (i : Int) = (stateF (doF (setT W i { t with left := r }) i { t with left := r } o).2 (i : Int), (doF (setT W i { t with left := r }) i { t with left := r } o).1, (doF (setT W i { t with left := r }) i { t with left := r } o).2) := by
  unfold stepF
  rw [if_neg (by omega), Int.toNat_natCast, h]
  simp only [hl, hw, if_false, Bool.false_eq_true]
theorem TMem.task_of {M : TMem} {i : Nat} {t : Thr} (h : M.wd.tasks[i]? = some t) : ∃ y, M.ts[i]? = some y ∧ y.2 = t := by
  simp only [TMem.wd, List.getElem?_map, Option.map_eq_some_iff] at h
  obtain ⟨y, h1, h2⟩ := h
  exact ⟨y, h1, h2⟩
theorem do_at {w : World} {M : TMem} (h : TAt w M) {i : Nat} {t : Thr} (ht : M.wd.tasks[i]? = some t) (o : Op3) (hm : mayB M.wd o = true) (hw : waitsB M.wd o = false) :
    Calls Try.prog 27 #[.pointer (some ⟨M.p, 0, none⟩), .int .i64 (i : Int), .agg #[.int .i64 o.kind, .int .i64 o.a, .int .i64 o.b]] w fun e w' => e = .returned (.int .i64 (doF M.wd i t o).1) ∧ DPost M w (doF M.wd i t o).2 w' := by
  obtain ⟨y, hy, rfl⟩ := M.task_of ht
  obtain ⟨K, a, b⟩ := o
  rcases mayB_kind hm with ⟨h1 | h1, ha⟩ | ⟨h1 | h1, ha0, ha1⟩ | ⟨h1 | h1, ha0, ha1⟩ <;> simp only [] at h1 <;> subst h1
  · exact do_lock h hy a b
  · by_cases hh : M.holds a = some (i : Int)
    · have e : doF M.wd i y.2 ⟨2, a, b⟩ = (0, { M.wd with holds := fun x => if x = a then none else M.wd.holds x }) := by
        have hh' : M.wd.holds a = some (i : Int) := hh
        simp [doF, hh']
      rw [e]
      exact do_unlock h hy a b hh
    · have e : doF M.wd i y.2 ⟨2, a, b⟩ = (19, setT M.wd i { y.2 with left := [] }) := by
        have hh' : ¬ M.wd.holds a = some (i : Int) := hh
        simp [doF, hh']
      rw [e]
      cases hn : M.holds a with
      | none => exact do_unlock_free h hy a b hn
      | some who => exact do_unlock_other h hy a b who hn (fun q => hh (by rw [hn, q]))
  · simp only [] at ha0 ha1
    obtain ⟨j, rfl⟩ : ∃ j : Nat, a = (j : Int) := ⟨a.toNat, by omega⟩
    obtain ⟨z, hz, hz2⟩ := M.pipe_at (i := j) (by omega)
    have hlt : (z.2.l.length : Int) < z.2.size := by
      simp [waitsB, hz2] at hw
      omega
    have e : doF M.wd i y.2 ⟨3, (j : Int), b⟩ = (0, setP M.wd j { z.2 with l := z.2.l ++ [w32 b] }) := by simp [doF, hz2]
    rw [e]
    exact do_send h hy j b hz hlt
  · simp only [] at ha0 ha1
    obtain ⟨j, rfl⟩ : ∃ j : Nat, a = (j : Int) := ⟨a.toNat, by omega⟩
    obtain ⟨z, hz, hz2⟩ := M.pipe_at (i := j) (by omega)
    cases hl : z.2.l with
    | nil =>
      simp [waitsB, hz2, hl] at hw
    | cons v l =>
      have e : doF M.wd i y.2 ⟨4, (j : Int), b⟩ = (0, setP (setT M.wd i { y.2 with has := w32 (y.2.has + v) }) j { z.2 with l := l }) := by simp [doF, hz2, hl]
      rw [e]
      cases hc : (z.1.c == 1) with
      | true => exact do_recv1 h hy j b hz hl (by simpa using hc)
      | false => exact do_recv2 h hy j b hz hl hc
  · simp only [] at ha0 ha1
    obtain ⟨j, rfl⟩ : ∃ j : Nat, a = (j : Int) := ⟨a.toNat, by omega⟩
    have hj : j < M.words.length := by
      have : M.wd.words.length = M.words.length := rfl
      omega
    have hx : M.words[j]? = some M.words[j] := List.getElem?_eq_getElem hj
    have e : doF M.wd i y.2 ⟨5, (j : Int), b⟩ = (0, { M.wd with words := M.words.set j (w32 (M.words[j] + w32 b)) }) := by
      have : M.wd.words.getD j 0 = M.words[j] := by simp [TMem.wd, List.getD_eq_getElem?_getD, hx]
      simp only [doF, Int.toNat_natCast, this]
      simp [TMem.wd]
    rw [e]
    exact do_add h hy j b _ hx
  · simp only [] at ha0 ha1
    obtain ⟨j, rfl⟩ : ∃ j : Nat, a = (j : Int) := ⟨a.toNat, by omega⟩
    have hj : j < M.words.length := by
      have : M.wd.words.length = M.words.length := rfl
      omega
    have hx : M.words[j]? = some M.words[j] := List.getElem?_eq_getElem hj
    have e : doF M.wd i y.2 ⟨6, (j : Int), b⟩ = (0, setT M.wd i { y.2 with has := w32 (y.2.has + M.words[j]) }) := by
      have : M.wd.words.getD j 0 = M.words[j] := by simp [TMem.wd, List.getD_eq_getElem?_getD, hx]
      simp only [doF, Int.toNat_natCast, this]
      simp
    rw [e]
    exact do_load h hy j b _ hx
theorem do_w {w : World} {M M1 : TMem} {W1 : Wd} (hp : M1.p = M.p) (h : TAt w M1) (hw1 : M1.wd = W1) {i : Nat} {t : Thr} (ht : W1.tasks[i]? = some t) (o : Op3) (hm : mayB W1 o = true) (hw : waitsB W1 o = false) :
    Calls Try.prog 27 #[.pointer (some ⟨M.p, 0, none⟩), .int .i64 (i : Int), .agg #[.int .i64 o.kind, .int .i64 o.a, .int .i64 o.b]] w fun e w' => e = .returned (.int .i64 (doF W1 i t o).1) ∧ DPost M1 w (doF W1 i t o).2 w' := by
  subst hw1
  rw [← hp]
  exact do_at h ht o hm hw
theorem mayB_setT (W : Wd) (k : Nat) (t : Thr) (o : Op3) : mayB (setT W k t) o = mayB W o := rfl
theorem task_set {M : TMem} {i : Nat} {y : BR × Thr} (hy : M.ts[i]? = some y) {t : Thr} : (setT M.wd i t).tasks[i]? = some t := by
  have hil := (List.getElem?_eq_some_iff.1 hy).1
  simp only [setT, TMem.wd, List.getElem?_set, if_true]
  rw [if_pos (by simpa using hil)]
theorem waits_setT (W : Wd) (k : Nat) (t : Thr) (o : Op3) : waitsB (setT W k t) o = waitsB W o := rfl
theorem DPost.state {M : TMem} {w w' : World} {W' : Wd} (h : DPost M w W' w') (k : Int) : Calls Try.prog 11 #[.pointer (some ⟨M.p, 0, none⟩), .int .i64 k] w' fun e w2 => e = .returned (.int .i64 (stateF W' k)) ∧ Quiet w' w2 := by
  obtain ⟨M', h1, rfl, h3, _⟩ := h
  rw [← h3]
  exact state_at h1 k
/-- A step that needs no memory turned. -/
theorem step_quiet {w : World} {M : TMem} (h : TAt w M) (k s c : Int) (hs : stateF M.wd k = s) (hc : (s = 0 ∧ c = 12) ∨ (s = 3 ∧ c = 16) ∨ (s = 2 ∧ c = 0)) :
    Calls Try.prog 10 #[.pointer (some ⟨M.p, 0, none⟩), .int .i64 k] w fun e w' => e = .returned (.tuple #[.int .i64 s, .int .i64 c]) ∧ Quiet w w' := by
  have HS := Lib.hid (state_at h k)
  rw [hs] at HS
  obtain ⟨⟨c0, _⟩, ps, _⟩ := h.cells
  clear h hs
  rcases hc with ⟨rfl, rfl⟩ | ⟨rfl, rfl⟩ | ⟨rfl, rfl⟩
  all_goals
    go_enter Try.func10, Try.ntmps10
    go_wp2_with (first
      | (go_at_call 24; refine (none_of _ _ c0 ps).mono ?_; rintro e w2 ⟨rfl, rfl⟩)
      | (go_at_call 11; refine HS.out.mono ?_; rintro e w2 ⟨rfl, hq⟩; have Q2 := Lib.hid hq; clear hq))
    go_ret2
    exact ⟨rfl, Q2.out⟩
set_option maxRecDepth 8000 in
set_option maxHeartbeats 4000000 in
theorem step_run {w : World} {M : TMem} (h : TAt w M) {i : Nat} {y : BR × Thr} (hy : M.ts[i]? = some y) {o : Op3} {r : List Op3} (hl0 : y.2.left = o :: r) (hnw : waitsB M.wd o = false) {W2 : Wd} {cd : Int}
    (hW2 : doF (setT M.wd i { y.2 with left := r }) i { y.2 with left := r } o = (cd, W2)) :
    Calls Try.prog 10 #[.pointer (some ⟨M.p, 0, none⟩), .int .i64 (i : Int)] w fun e w' => e = .returned (.tuple #[.int .i64 (stateF W2 (i : Int)), .int .i64 cd]) ∧ DPost M w W2 w' := by
  have HS := Lib.hid (state_at h (i : Int))
  have hy2 : M.wd.tasks[i]? = some y.2 := by simp [TMem.wd, hy]
  have hst : stateF M.wd (i : Int) = 1 := by
    rw [stateF_at hy2]
    unfold stateT
    rw [hl0]
    simp [hnw]
  rw [hst] at HS
  have htz := h.fit.tz y.2 (List.mem_of_getElem? hy2)
  have hmay : mayB M.wd o = true := htz.2.2 o (by rw [hl0]; exact .head _)
  have hrl : r.length ≤ 1000 ∧ In32 y.2.has ∧ ∀ o ∈ r, mayB M.wd o = true := ⟨by have := htz.1; rw [hl0] at this; simp at this; omega, htz.2.1, fun o' ho' => htz.2.2 o' (by rw [hl0]; exact .tail _ ho')⟩
  obtain ⟨⟨c0, _⟩, ps, _⟩ := h.cells
  obtain ⟨g, cap, hv, hcap, hcm, _, ⟨cur, hg⟩, r0, r1⟩ := h.tasks.row hy
  have gs := lt_of_heap hg
  have hop := h.tl y (List.mem_of_getElem? hy)
  have hcc := hop.2.2.1
  have hnc := hop.2.1
  rw [hl0] at hop hnc
  obtain ⟨g2, o2, hA, gs2, e0, e1, e2, hrest⟩ := hop.head
  simp only [tc, hl0, List.length_cons, hA] at r0
  have hsm := h.fit.tasks
  rw [h.tlen] at hsm
  have hi : i < M.ts.length := (List.getElem?_eq_some_iff.1 hy).1
  simp only [List.length_cons, Nat.add_sub_cancel] at hrest hnc
  have hgne : g2 ≠ g := by
    obtain ⟨_, _, _, _, hh⟩ := hop
    obtain ⟨g3, o3, cu3, q1, q2, _⟩ := hh _ hA
    simp only [Addr.mk.injEq] at q1
    obtain ⟨rfl, _⟩ := q1
    exact blk_ne q2 hg (by decide)
  have HF := Lib.hid (fun (W : World) (hW : Quiet w W) => show (W.cell? ⟨M.p, 5, none⟩ = some (.slice (some ⟨g, 0, none⟩) M.ts.length cap) ∧ M.p < W.heap.size ∧ g < W.heap.size ∧ g2 < W.heap.size) ∧ (W.cell? ⟨g, i * 2, none⟩ = some (.slice (some ⟨g2, o2, none⟩) (r.length + 1) y.1.c) ∧ W.frozen? ⟨g, i * 2, none⟩ = false) ∧ W.cell? ⟨g2, o2, none⟩ = some (.int .i64 o.kind) ∧ W.cell? ⟨g2, o2 + 1, none⟩ = some (.int .i64 o.a) ∧ W.cell? ⟨g2, o2 + 2, none⟩ = some (.int .i64 o.b) from
    ⟨⟨hv ▸ (h.quiet hW).cells.1.2.2.2.2.2, (h.quiet hW).cells.2.1, Nat.lt_of_lt_of_le gs hW.size, Nat.lt_of_lt_of_le gs2 hW.size⟩, ⟨(hW.cell (p := ⟨g, i * 2, none⟩) gs (fun x => x)).trans r0, blk_frozen (hW.keep hg (fun x => x)) _⟩, (hW.cell (p := ⟨g2, o2, none⟩) gs2 (fun x => x)).trans e0, (hW.cell (p := ⟨g2, o2 + 1, none⟩) gs2 (fun x => x)).trans e1, (hW.cell (p := ⟨g2, o2 + 2, none⟩) gs2 (fun x => x)).trans e2⟩)
  have H := Lib.hid h; clear h
  have HY := Lib.hid hy; clear hy
  have HV := Lib.hid hv; clear hv
  have HR := Lib.hid hrest; clear hrest
  have HA := Lib.hid hA; clear hA
  have HMAY := Lib.hid hmay; clear hmay
  have HRL := Lib.hid hrl; clear hrl
  have HNW := Lib.hid hnw; clear hnw
  have HW2 := Lib.hid hW2; clear hW2
  have HL0 := Lib.hid hl0; clear hl0
  clear hy2 hst htz hop hg r0 r1 e0 e1 e2
  unfold maxLen at hcm hcc
  obtain ⟨n, hn⟩ : ∃ n, n = M.ts.length := ⟨_, rfl⟩
  rw [← hn] at HF hcap hi hsm
  clear hn
  obtain ⟨m, hm⟩ : ∃ m, m = r.length := ⟨_, rfl⟩
  rw [← hm] at HF hnc HR
  have HM := Lib.hid hm; clear hm
  have i0 : (0 : Int) ≤ (i : Int) := by omega
  have i1 : (i : Int) < (n : Int) := by omega
  have m0 : (0 : Int) < (m : Int) + 1 := by omega
  have hc2 : y.1.c = 1 ∨ y.1.c ≠ 1 := by omega
  rcases hc2 with hc2 | hc2
  · skip
    go_enter Try.func10, Try.ntmps10
    go_wp2_with (first
      | (go_at_call 24; refine (none_of _ _ c0 ps).mono ?_; rintro e w2 ⟨rfl, rfl⟩)
      | (go_at_call 11; refine HS.out.mono ?_; rintro e w2 ⟨rfl, hq⟩; have Q2 := Lib.hid hq; clear hq; obtain ⟨⟨t1, t2, t3, t4⟩, ⟨t5, t6⟩, t7, t8, t9⟩ := HF.out _ Q2.out))
    go_region
    all_goals
      go_wp2_with fail
      have P1 : DPost M w (setT M.wd i { y.2 with left := r }) (((w2.setCell ⟨g, i * 2, none⟩ (.slice (some ⟨g2, o2, none⟩) m 0)).alloc (.cells #[.int .i64 o.kind, .int .i64 o.a, .int .i64 o.b] 41)).drew) :=
        (DPost.after Q2.out (turn_left (H.out.quiet Q2.out) HY.out HV.out (.slice (some ⟨g2, o2, none⟩) m 0) ⟨if y.1.c = 1 then y.1.A else some ⟨g2, o2 + 3, none⟩, y.1.c - 1⟩ r (by rw [if_pos hc2, HA.out, HM.out, hc2]) (HM.out ▸ (HR.out.only Q2.out (fun _ _ _ x => x))) HRL.out)).quiet (by repeat (first | exact Only.refl _ _ | refine Only.drewN ?_ _ | refine Only.drew ?_ | refine Only.alloc ?_ _))
      obtain ⟨M1, a1, a2, a3, a4, a5⟩ := P1
      refine (do_w a3 a1 a2 (i := i) (t := { y.2 with left := r }) (task_set HY.out) o ((mayB_setT _ _ _ _).trans HMAY.out) ((waits_setT _ _ _ _).trans HNW.out)).mono ?_
      rintro e w3 ⟨rfl, hD⟩
      rw [HW2.out] at hD ⊢
      have P3 := Lib.hid (DPost.trans a5 a3 a4 hD)
      clear hD a1 a2 a3 a4 a5
      go_wp2_with (go_at_call 11; refine (P3.out.state (i : Int)).mono ?_; rintro e w4 ⟨rfl, hq⟩; have Q4 := Lib.hid hq; clear hq)
      go_ret2
      exact ⟨rfl, P3.out.quiet Q4.out⟩
  · skip
    go_enter Try.func10, Try.ntmps10
    go_wp2_with (first
      | (go_at_call 24; refine (none_of _ _ c0 ps).mono ?_; rintro e w2 ⟨rfl, rfl⟩)
      | (go_at_call 11; refine HS.out.mono ?_; rintro e w2 ⟨rfl, hq⟩; have Q2 := Lib.hid hq; clear hq; obtain ⟨⟨t1, t2, t3, t4⟩, ⟨t5, t6⟩, t7, t8, t9⟩ := HF.out _ Q2.out))
    go_region
    all_goals
      go_wp2_with fail
      have P1 : DPost M w (setT M.wd i { y.2 with left := r }) (((w2.setCell ⟨g, i * 2, none⟩ (.slice (some ⟨g2, o2 + 3, none⟩) m (y.1.c - 1))).alloc (.cells #[.int .i64 o.kind, .int .i64 o.a, .int .i64 o.b] 41)).drew) :=
        (DPost.after Q2.out (turn_left (H.out.quiet Q2.out) HY.out HV.out (.slice (some ⟨g2, o2 + 3, none⟩) m (y.1.c - 1)) ⟨if y.1.c = 1 then y.1.A else some ⟨g2, o2 + 3, none⟩, y.1.c - 1⟩ r (by rw [if_neg hc2, HM.out]) (HM.out ▸ (HR.out.only Q2.out (fun _ _ _ x => x))) HRL.out)).quiet (by repeat (first | exact Only.refl _ _ | refine Only.drewN ?_ _ | refine Only.drew ?_ | refine Only.alloc ?_ _))
      obtain ⟨M1, a1, a2, a3, a4, a5⟩ := P1
      refine (do_w a3 a1 a2 (i := i) (t := { y.2 with left := r }) (task_set HY.out) o ((mayB_setT _ _ _ _).trans HMAY.out) ((waits_setT _ _ _ _).trans HNW.out)).mono ?_
      rintro e w3 ⟨rfl, hD⟩
      rw [HW2.out] at hD ⊢
      have P3 := Lib.hid (DPost.trans a5 a3 a4 hD)
      clear hD a1 a2 a3 a4 a5
      go_wp2_with (go_at_call 11; refine (P3.out.state (i : Int)).mono ?_; rintro e w4 ⟨rfl, hq⟩; have Q4 := Lib.hid hq; clear hq)
      go_ret2
      exact ⟨rfl, P3.out.quiet Q4.out⟩
theorem step_at {w : World} {M : TMem} (h : TAt w M) (k : Int) :
    Calls Try.prog 10 #[.pointer (some ⟨M.p, 0, none⟩), .int .i64 k] w fun e w' => e = .returned (.tuple #[.int .i64 (stepF M.wd k).1, .int .i64 (stepF M.wd k).2.1]) ∧ DPost M w (stepF M.wd k).2.2 w' := by
  have hl := h.tlen
  by_cases hk : k < 0 ∨ (M.ts.length : Int) ≤ k
  · have e0 : stepF M.wd k = (0, 12, M.wd) := by
      unfold stepF
      by_cases h0 : k < 0
      · rw [if_pos h0]
      · rw [if_neg h0, List.getElem?_eq_none (by omega)]
    rw [e0]
    refine (step_quiet h k 0 12 (stateF_no (by rw [hl]; exact hk)) (.inl ⟨rfl, rfl⟩)).mono ?_
    rintro e w' ⟨rfl, hq⟩
    exact ⟨rfl, DPost.same h hq⟩
  · obtain ⟨i, rfl⟩ : ∃ i : Nat, k = (i : Int) := ⟨k.toNat, by omega⟩
    obtain ⟨y, hy, hy2⟩ := M.task_at (i := i) (by omega)
    rcases stateT_cases M.wd y.2 with ⟨h1, h2⟩ | ⟨o, r, h1, h3, h2⟩ | ⟨o, r, h1, h3, h2⟩
    · rw [stepF_nil hy2 h1]
      refine (step_quiet h (i : Int) 3 16 (by rw [stateF_at hy2, h2]) (.inr (.inl ⟨rfl, rfl⟩))).mono ?_
      rintro e w' ⟨rfl, hq⟩
      exact ⟨rfl, DPost.same h hq⟩
    · rw [stepF_wait hy2 h1 h3]
      refine (step_quiet h (i : Int) 2 0 (by rw [stateF_at hy2, h2]) (.inr (.inr ⟨rfl, rfl⟩))).mono ?_
      rintro e w' ⟨rfl, hq⟩
      exact ⟨rfl, DPost.same h hq⟩
    · rw [stepF_run hy2 h1 h3]
      exact step_run h hy h1 h3 rfl
end Go.Proofs.Ytgdjbmfpbihopaa
