/-
  What the program's do does, operation by operation. No conditions.
-/
import Derived.Test.YtgdjbmfpbihopaaTurn
import Derived.RegionTactic
import Derived.BigRegion
import Derived.Deep.RegionHeld3
namespace Go.Proofs.Ytgdjbmfpbihopaa
open Go.RowKit Go.MapKept
set_option linter.unusedVariables false
set_option linter.unusedSimpArgs false

theorem at_list {α : Type} {l : List α} {i : Nat} {x : α} (h : l[i]? = some x) : l.toArray[i]? = some x := by rw [List.getElem?_toArray]; exact h
theorem Only.ofq {F : Nat → Prop} {a b c : World} (h : Quiet a b) (k : Only F b c) : Only F a c := (h.mono (fun _ _ x => x.elim)).trans k
theorem turn_left {w : World} {M : TMem} (h : TAt w M) {i : Nat} {y : BR × Thr} (hy : M.ts[i]? = some y) {g n cap : Nat} (hv : M.vt = .slice (some ⟨g, 0, none⟩) n cap) (u : Value) (r : BR) (l : List Op3) (hu : u = .slice r.A l.length r.c)
    (hs : OpSl w r.A l.length r.c l) (hf : l.length ≤ 1000 ∧ In32 y.2.has ∧ ∀ o ∈ l, mayB M.wd o = true) : DPost M w (setT M.wd i { y.2 with left := l }) (w.setCell ⟨g, i * 2, none⟩ u) := by
  have hil := (List.getElem?_eq_some_iff.1 hy).1
  have own := h.tasks
  rw [hv] at own
  have e := fl_set0 (f := tc) hy (r, { y.2 with left := l }) rfl
  have e2 : (tc (r, { y.2 with left := l })).1 = u := by rw [hu]; rfl
  rw [e2] at e
  have own2 := own.set (j := i * 2) (c := u) (l' := M.ts.set i (r, { y.2 with left := l })) (by omega) e (by simp)
  rw [← hv] at own2
  obtain ⟨t1, t2, t3⟩ := h.task (y' := (r, { y.2 with left := l })) hy hv (Only.setCell (S := (· = g)) (p := ⟨g, i * 2, none⟩) (Only.refl _ _) (fun _ => rfl) u) own2 hs (h.fit.setT i hf)
  exact ⟨_, t1, t2, rfl, rfl, t3⟩
theorem turn_has {w : World} {M : TMem} (h : TAt w M) {i : Nat} {y : BR × Thr} (hy : M.ts[i]? = some y) {g n cap : Nat} (hv : M.vt = .slice (some ⟨g, 0, none⟩) n cap) (x : Int) (hx : In32 x) :
    ∃ M', TAt (w.setCell ⟨g, i * 2 + 1, none⟩ (.int .i32 x)) M' ∧ M'.wd = setT M.wd i { y.2 with has := x } ∧ M'.p = M.p ∧ M'.base = M.base ∧ M'.ps = M.ps ∧ M'.vp = M.vp ∧ Only (TSide M.base w) w (w.setCell ⟨g, i * 2 + 1, none⟩ (.int .i32 x)) := by
  have hil := (List.getElem?_eq_some_iff.1 hy).1
  have own := h.tasks
  rw [hv] at own
  have e := fl_set1 (f := tc) hy (y.1, { y.2 with has := x }) rfl
  have own2 := own.set (j := i * 2 + 1) (c := .int .i32 x) (l' := M.ts.set i (y.1, { y.2 with has := x })) (by omega) e (by simp)
  rw [← hv] at own2
  have hz := h.fit.tz y.2 (by simp only [TMem.wd]; exact List.mem_map_of_mem (List.mem_of_getElem? hy))
  obtain ⟨t1, t2, t3⟩ := h.task (y' := (y.1, { y.2 with has := x })) hy hv (Only.setCell (S := (· = g)) (p := ⟨g, i * 2 + 1, none⟩) (Only.refl _ _) (fun _ => rfl) (.int .i32 x)) own2 (h.tl y (List.mem_of_getElem? hy)) (h.fit.setT i ⟨hz.1, hx, hz.2.2⟩)
  exact ⟨_, t1, t2, rfl, rfl, rfl, rfl, t3⟩
theorem TAt.plen {w : World} {M : TMem} (h : TAt w M) : M.wd.pipes.length = M.ps.length := by simp [TMem.wd]
theorem blk_new' (w : World) (o : Obj) {g : Nat} (h : g = w.heap.size) : (w.alloc o).heap[g]? = some o := h ▸ blk_new w o
theorem blk_drew {w : World} {g : Nat} {x : Option Obj} (h : w.heap[g]? = x) : w.drew.heap[g]? = x := h
theorem blk_drewN {w : World} {n g : Nat} {x : Option Obj} (h : w.heap[g]? = x) : (w.drewN n).heap[g]? = x := h
theorem src_one {w : World} {g : Nat} {v : Value} {e : TypeId} (h : w.heap[g]? = some (.cells #[v] e (0, 0))) : Src w (some ⟨g, 0, none⟩) [v] := fun _ => ⟨g, 0, rfl, fun i u hu => by
  have hi := (List.getElem?_eq_some_iff.1 hu).1
  simp at hi
  subst hi
  rw [blk_cell h]
  simpa using hu⟩
theorem one_one {v : Value} (h : v.oneCell' = true) : ∀ u ∈ [v], u.oneCell' = true := fun u hu => by
  rw [List.mem_singleton] at hu
  subst hu
  exact h
theorem cell_far {w : World} {g i : Nat} {p : Addr} (h : g ≠ p.block) (u : Value) (_ : True) : (w.setCell p u).cell? ⟨g, i, none⟩ = w.cell? ⟨g, i, none⟩ := World.cell?_of_block (Below.heap_setCell w p u g h)
/-- What stays where bytes are put behind a channel's. -/
theorem send_keep {w W W1 w3 : World} {M : TMem} (h : TAt w M) {j : Nat} {z : BR × Pipe} (hz : M.ps[j]? = some z) {gp n cap : Nat} (hv : M.vp = .slice (some ⟨gp, 0, none⟩) n cap) (hW : Quiet w W) (hq : Quiet W W1) {s : Nat} {K a b : Int} (hb : W.heap[s]? = some (.cells #[.int .i64 K, .int .i64 a, .int .i64 b] 41 (0, 0)))
    (hon : Only (RowOf z.1.A) W1 w3) : (w3.cell? ⟨s, 1, none⟩ = some (.int .i64 a) ∧ w3.cell? ⟨s, 2, none⟩ = some (.int .i64 b) ∧ w3.cell? ⟨M.p, 4, none⟩ = some M.vp ∧ w3.cell? ⟨gp, j * 2, none⟩ = some (.slice z.1.A z.2.l.length z.1.c)) ∧ w3.frozen? ⟨gp, j * 2, none⟩ = false := by
  have h1 := h.quiet (hW.trans hq)
  have hzl := h1.pl z (List.mem_of_getElem? hz)
  have far : ∀ {k : Nat} {cu : Array Value} {t : TypeId}, W1.heap[k]? = some (.cells cu t (0, 0)) → t ≠ 21 → w3.heap[k]? = some (.cells cu t (0, 0)) := fun hc ht => hon.keep hc (fun q => by
    obtain ⟨cu2, hc2⟩ := hzl.type q
    exact blk_ne hc hc2 ht rfl)
  have b3 := far (hq.keep hb (fun x => x)) (by decide)
  have p3 := far h1.blk (by decide)
  obtain ⟨⟨cur, hg⟩, _⟩ := h1.pipes.kind (k := gp) (by rw [hv]; rfl)
  have g3 := far hg (by decide)
  obtain ⟨g', cap', hv', _, _, _, _, r0, _⟩ := h1.pipes.row hz
  rw [hv] at hv'
  simp only [Value.slice.injEq, Option.some.injEq, Addr.mk.injEq] at hv'
  obtain ⟨⟨rfl, _⟩, _⟩ := hv'
  refine ⟨⟨blk_cell b3 1, blk_cell b3 2, blk_cell p3 4, ?_⟩, blk_frozen g3 _⟩
  rw [blk_cell g3, ← blk_cell hg]
  exact r0
theorem w32_wrap (x : Int) : IntKind.i32.wrap x = w32 x := by rw [IntKind.wrap_i32]; rfl
set_option maxRecDepth 8000 in
set_option maxHeartbeats 4000000 in
theorem do_lock {w : World} {M : TMem} (h : TAt w M) {i : Nat} {y : BR × Thr} (hy : M.ts[i]? = some y) (a b : Int) :
    Calls Try.prog 27 #[.pointer (some ⟨M.p, 0, none⟩), .int .i64 (i : Int), .agg #[.int .i64 1, .int .i64 a, .int .i64 b]] w fun e w' => e = .returned (.int .i64 0) ∧ DPost M w ({ M.wd with holds := fun x => if x = a then some (i : Int) else M.wd.holds x }) w' := by
  obtain ⟨⟨c0, c1, c2, c3, c4, c5⟩, ps, pf⟩ := h.cells
  have pf4 := pf 4
  obtain ⟨g, cap, hv, hcap, hcm, _, ⟨cur, hg⟩, r0, r1⟩ := h.tasks.row hy
  have gs := lt_of_heap hg
  have gf0 := blk_frozen hg (i * 2)
  have gf1 := blk_frozen hg (i * 2 + 1)
  simp only [tc] at r0 r1
  have hi : i < M.ts.length := (List.getElem?_eq_some_iff.1 hy).1
  have hsm := h.fit.tasks
  rw [h.tlen] at hsm
  rw [hv] at c5
  unfold maxLen at hcm
  obtain ⟨n, hn⟩ : ∃ n, n = M.ts.length := ⟨_, rfl⟩
  rw [← hn] at c5 hcap hi hsm
  have i0 : (0 : Int) ≤ (i : Int) := by omega
  have i1 : (i : Int) < (n : Int) := by omega
  have ps1 : M.p < w.heap.size + 1 := by omega
  have gs1 : g < w.heap.size + 1 := by omega
  obtain ⟨w1, hr, hm1, ho1⟩ := (h.quiet ((Only.refl (fun _ => False) w).alloc (.cells #[.int .i64 1, .int .i64 a, .int .i64 b] 41)).drew).holds.put a (i : Int)
  have HM1 := Lib.hid hm1; clear hm1
  have HO1 := Lib.hid ho1; clear ho1
  have H := Lib.hid h; clear h
  have HY := Lib.hid hy; clear hy
  have HV := Lib.hid hv; clear hv
  have HN := Lib.hid hn; clear hn
  clear pf hg
  clear c0 c1 c3 c4 r0 r1
  go_enter Try.func27, Try.ntmps27
  go_wp2
  go_region
  all_goals
    go_wp2
    go_ret
    obtain ⟨t1, t2, t3⟩ := (H.out.quiet ((Only.refl (fun _ => False) w).alloc (.cells #[.int .i64 1, .int .i64 a, .int .i64 b] 41)).drew).hold HO1.out HM1.out
    exact ⟨rfl, DPost.after (by repeat (first | exact Only.refl _ _ | refine Only.drewN ?_ _ | refine Only.drew ?_ | refine Only.alloc ?_ _)) ⟨_, t1, t2, rfl, rfl, t3⟩⟩
set_option maxRecDepth 8000 in
set_option maxHeartbeats 4000000 in
theorem do_unlock {w : World} {M : TMem} (h : TAt w M) {i : Nat} {y : BR × Thr} (hy : M.ts[i]? = some y) (a b : Int) (hh : M.holds a = some (i : Int)) :
    Calls Try.prog 27 #[.pointer (some ⟨M.p, 0, none⟩), .int .i64 (i : Int), .agg #[.int .i64 2, .int .i64 a, .int .i64 b]] w fun e w' => e = .returned (.int .i64 0) ∧ DPost M w ({ M.wd with holds := fun x => if x = a then none else M.wd.holds x }) w' := by
  obtain ⟨⟨c0, c1, c2, c3, c4, c5⟩, ps, pf⟩ := h.cells
  have pf4 := pf 4
  obtain ⟨g, cap, hv, hcap, hcm, _, ⟨cur, hg⟩, r0, r1⟩ := h.tasks.row hy
  have gs := lt_of_heap hg
  have gf0 := blk_frozen hg (i * 2)
  have gf1 := blk_frozen hg (i * 2 + 1)
  simp only [tc] at r0 r1
  have hi : i < M.ts.length := (List.getElem?_eq_some_iff.1 hy).1
  have hsm := h.fit.tasks
  rw [h.tlen] at hsm
  rw [hv] at c5
  unfold maxLen at hcm
  obtain ⟨n, hn⟩ : ∃ n, n = M.ts.length := ⟨_, rfl⟩
  rw [← hn] at c5 hcap hi hsm
  have i0 : (0 : Int) ≤ (i : Int) := by omega
  have i1 : (i : Int) < (n : Int) := by omega
  have ps1 : M.p < w.heap.size + 1 := by omega
  have gs1 : g < w.heap.size + 1 := by omega
  have hl : ∀ n, (Instr.lookup 24 (.map (some M.m)) (.int .i64 a) true).run Try.prog ((w.alloc (.cells #[.int .i64 2, .int .i64 a, .int .i64 b] 41)).drewN n) = .ok (.tuple #[.int .i64 ((M.holds a).getD 0), .bool (M.holds a).isSome]) ((w.alloc (.cells #[.int .i64 2, .int .i64 a, .int .i64 b] 41)).drewN n) := fun n => (h.quiet (((Only.refl (fun _ => False) w).alloc (.cells #[.int .i64 2, .int .i64 a, .int .i64 b] 41)).drewN n)).holds.look a true
  rw [hh] at hl
  simp only [Option.getD_some, Option.isSome_some] at hl
  have H := Lib.hid h; clear h
  have HY := Lib.hid hy; clear hy
  have HV := Lib.hid hv; clear hv
  have HN := Lib.hid hn; clear hn
  clear pf hg
  clear c0 c1 c3 c4 r0 r1 hh
  go_enter Try.func27, Try.ntmps27
  go_wp2
  go_quiet (fail)
  have QW := Lib.hid (show Quiet w ((w.alloc (.cells #[.int .i64 2, .int .i64 a, .int .i64 b] 41)).drewN (nq + 1)) from (((Only.refl (fun _ => False) w).alloc (.cells #[.int .i64 2, .int .i64 a, .int .i64 b] 41)).drewN (nq + 1)))
  obtain ⟨w1, hr, hm1, ho1⟩ := (H.out.quiet QW.out).holds.del a
  have HM1 := Lib.hid hm1; clear hm1
  have HO1 := Lib.hid ho1; clear ho1
  clear hl
  go_wp2
  go_region
  all_goals
    go_wp2
    go_ret
    obtain ⟨t1, t2, t3⟩ := (H.out.quiet QW.out).hold HO1.out HM1.out
    exact ⟨rfl, DPost.after QW.out ⟨_, t1, t2, rfl, rfl, t3⟩⟩
set_option maxRecDepth 8000 in
set_option maxHeartbeats 4000000 in
theorem do_unlock_free {w : World} {M : TMem} (h : TAt w M) {i : Nat} {y : BR × Thr} (hy : M.ts[i]? = some y) (a b : Int) (hh : M.holds a = none) :
    Calls Try.prog 27 #[.pointer (some ⟨M.p, 0, none⟩), .int .i64 (i : Int), .agg #[.int .i64 2, .int .i64 a, .int .i64 b]] w fun e w' => e = .returned (.int .i64 19) ∧ DPost M w (setT M.wd i { y.2 with left := [] }) w' := by
  obtain ⟨⟨c0, c1, c2, c3, c4, c5⟩, ps, pf⟩ := h.cells
  have pf4 := pf 4
  obtain ⟨g, cap, hv, hcap, hcm, _, ⟨cur, hg⟩, r0, r1⟩ := h.tasks.row hy
  have gs := lt_of_heap hg
  have gf0 := blk_frozen hg (i * 2)
  have gf1 := blk_frozen hg (i * 2 + 1)
  simp only [tc] at r0 r1
  have hi : i < M.ts.length := (List.getElem?_eq_some_iff.1 hy).1
  have hsm := h.fit.tasks
  rw [h.tlen] at hsm
  rw [hv] at c5
  unfold maxLen at hcm
  obtain ⟨n, hn⟩ : ∃ n, n = M.ts.length := ⟨_, rfl⟩
  rw [← hn] at c5 hcap hi hsm
  have i0 : (0 : Int) ≤ (i : Int) := by omega
  have i1 : (i : Int) < (n : Int) := by omega
  have ps1 : M.p < w.heap.size + 1 := by omega
  have gs1 : g < w.heap.size + 1 := by omega
  have hl : ∀ n, (Instr.lookup 24 (.map (some M.m)) (.int .i64 a) true).run Try.prog ((w.alloc (.cells #[.int .i64 2, .int .i64 a, .int .i64 b] 41)).drewN n) = .ok (.tuple #[.int .i64 ((M.holds a).getD 0), .bool (M.holds a).isSome]) ((w.alloc (.cells #[.int .i64 2, .int .i64 a, .int .i64 b] 41)).drewN n) := fun n => (h.quiet (((Only.refl (fun _ => False) w).alloc (.cells #[.int .i64 2, .int .i64 a, .int .i64 b] 41)).drewN n)).holds.look a true
  rw [hh] at hl
  simp only [Option.getD_none, Option.isSome_none] at hl
  have H := Lib.hid h; clear h
  have HY := Lib.hid hy; clear hy
  have HV := Lib.hid hv; clear hv
  have HN := Lib.hid hn; clear hn
  clear pf hg
  clear c0 c1 c3 c4 r1 hh
  go_enter Try.func27, Try.ntmps27
  go_wp2
  go_quiet (fail)
  have QW := Lib.hid (show Quiet w ((w.alloc (.cells #[.int .i64 2, .int .i64 a, .int .i64 b] 41)).drewN nq) from (((Only.refl (fun _ => False) w).alloc (.cells #[.int .i64 2, .int .i64 a, .int .i64 b] 41)).drewN nq))
  clear hl
  go_wp2
  go_ret
  exact ⟨rfl, DPost.after QW.out (turn_left (H.out.quiet QW.out) HY.out HV.out (.slice none 0 0) ⟨none, 0⟩ [] rfl (OpSl.nil _) ⟨by simp, (H.out.fit.tz y.2 (by simp only [TMem.wd]; exact List.mem_map_of_mem (List.mem_of_getElem? HY.out))).2.1, by simp⟩)⟩
set_option maxRecDepth 8000 in
set_option maxHeartbeats 4000000 in
theorem do_unlock_other {w : World} {M : TMem} (h : TAt w M) {i : Nat} {y : BR × Thr} (hy : M.ts[i]? = some y) (a b : Int) (who : Int) (hh : M.holds a = some who) (hw : who ≠ (i : Int)) :
    Calls Try.prog 27 #[.pointer (some ⟨M.p, 0, none⟩), .int .i64 (i : Int), .agg #[.int .i64 2, .int .i64 a, .int .i64 b]] w fun e w' => e = .returned (.int .i64 19) ∧ DPost M w (setT M.wd i { y.2 with left := [] }) w' := by
  obtain ⟨⟨c0, c1, c2, c3, c4, c5⟩, ps, pf⟩ := h.cells
  have pf4 := pf 4
  obtain ⟨g, cap, hv, hcap, hcm, _, ⟨cur, hg⟩, r0, r1⟩ := h.tasks.row hy
  have gs := lt_of_heap hg
  have gf0 := blk_frozen hg (i * 2)
  have gf1 := blk_frozen hg (i * 2 + 1)
  simp only [tc] at r0 r1
  have hi : i < M.ts.length := (List.getElem?_eq_some_iff.1 hy).1
  have hsm := h.fit.tasks
  rw [h.tlen] at hsm
  rw [hv] at c5
  unfold maxLen at hcm
  obtain ⟨n, hn⟩ : ∃ n, n = M.ts.length := ⟨_, rfl⟩
  rw [← hn] at c5 hcap hi hsm
  have i0 : (0 : Int) ≤ (i : Int) := by omega
  have i1 : (i : Int) < (n : Int) := by omega
  have ps1 : M.p < w.heap.size + 1 := by omega
  have gs1 : g < w.heap.size + 1 := by omega
  have hl : ∀ n, (Instr.lookup 24 (.map (some M.m)) (.int .i64 a) true).run Try.prog ((w.alloc (.cells #[.int .i64 2, .int .i64 a, .int .i64 b] 41)).drewN n) = .ok (.tuple #[.int .i64 ((M.holds a).getD 0), .bool (M.holds a).isSome]) ((w.alloc (.cells #[.int .i64 2, .int .i64 a, .int .i64 b] 41)).drewN n) := fun n => (h.quiet (((Only.refl (fun _ => False) w).alloc (.cells #[.int .i64 2, .int .i64 a, .int .i64 b] 41)).drewN n)).holds.look a true
  rw [hh] at hl
  simp only [Option.getD_some, Option.isSome_some] at hl
  have dw : (who != (i : Int)) = true := by simpa using hw
  clear hw
  have H := Lib.hid h; clear h
  have HY := Lib.hid hy; clear hy
  have HV := Lib.hid hv; clear hv
  have HN := Lib.hid hn; clear hn
  clear pf hg
  clear c0 c1 c3 c4 r1 hh
  go_enter Try.func27, Try.ntmps27
  go_wp2
  go_quiet (fail)
  have QW := Lib.hid (show Quiet w ((w.alloc (.cells #[.int .i64 2, .int .i64 a, .int .i64 b] 41)).drewN nq) from (((Only.refl (fun _ => False) w).alloc (.cells #[.int .i64 2, .int .i64 a, .int .i64 b] 41)).drewN nq))
  clear hl
  go_wp2
  go_ret
  exact ⟨rfl, DPost.after QW.out (turn_left (H.out.quiet QW.out) HY.out HV.out (.slice none 0 0) ⟨none, 0⟩ [] rfl (OpSl.nil _) ⟨by simp, (H.out.fit.tz y.2 (by simp only [TMem.wd]; exact List.mem_map_of_mem (List.mem_of_getElem? HY.out))).2.1, by simp⟩)⟩
end Go.Proofs.Ytgdjbmfpbihopaa
