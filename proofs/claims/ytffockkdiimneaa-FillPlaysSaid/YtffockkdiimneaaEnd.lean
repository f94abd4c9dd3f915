/-
  What the program's End does. No conditions.
-/
import Derived.Test.YtffockkdiimneaaNone
namespace Go.Proofs.Ytffockkdiimneaa
open Go.RowKit Go.MapKept
set_option linter.unusedVariables false
set_option linter.unusedSimpArgs false

theorem any_zero {w : World} : ∀ ty : TypeId, ty = ty := fun _ => rfl
/-- The fill's state is set, its name goes, and, where nobody takes part, the fill too. -/
structure EndFin (W : World) (D : DMem) (d : Desk) (i : Nat) (m : JMem) (e : Nat × Job) (st : Nat) (w1 w2 : World) : Prop where
  o1 : Only (· = D.nm) W w1
  o2 : Only (· = D.jm) w1 w2
  names : SMap w1 D.nm (nameList (d.js.set i (e.1, { e.2 with state := st })))
  jobs : SMap w2 D.jm (jobList (d.js.eraseIdx i) (D.ms.eraseIdx i))
theorem end_facts {w W : World} {D : DMem} {d : Desk} {i : Nat} {m : JMem} {e : Nat × Job} {st : Nat} (h : DeskAt w D d) (hf : findJ (e.1 : Int) d.js = some i) (he : d.js[i]? = some e) (hm : D.ms[i]? = some m) (hs : e.2.state = 0) (hst : st ≠ 0)
    (hO : Only (fun k => k = m.blk) w W) (hb : W.heap[m.blk]? = some (.cells (jobCells m { e.2 with state := st }) 69 (0, 0))) :
    ∃ w1 w2, (∀ ty, (Builtin.delete_ #[45, 9] ty #[.map (some D.nm), .string e.2.name]).run Try.prog W.drew = .ok (.tuple #[]) w1) ∧
      (∀ ty, (Builtin.delete_ #[46, 3] ty #[.map (some D.jm), .int .i64 (e.1 : Int)]).run Try.prog w1 = .ok (.tuple #[]) w2) ∧
      w1.cell? ⟨m.blk, 2, none⟩ = some (.int .i64 (st : Nat)) ∧ w1.cell? ⟨m.blk, 3, none⟩ = some (.int .i64 (e.2.part : Nat)) ∧ w1.cell? ⟨D.p, 1, none⟩ = some (.map (some D.jm)) ∧ EndFin W D d i m e st w1 w2 := by
  have hjn := h.job_ne (List.mem_of_getElem? hm) (.inl rfl)
  have hn : SMap W.drew D.nm (nameList d.js) := h.names.only hO.drew (fun q => hjn.2.1 q.symm)
  obtain ⟨w1, r1, s1, q1⟩ := run_delete_s (P := Try.prog) (t := 45) (kt := 9) (et := 3) (d := .string) (k := .string e.2.name) Try.underlying45 Try.underlying9 trivial hn (names_key _)
  have q1' : Only (· = D.nm) W w1 := (Only.refl _ W).drew.trans q1
  have hj : SMap w1 D.jm (jobList d.js D.ms) := (h.jobs.only hO (fun q => hjn.2.2 q.symm)).only q1' (fun q => h.ne q.symm)
  obtain ⟨w2, r2, s2, q2⟩ := run_delete_s (P := Try.prog) (t := 46) (kt := 3) (et := 67) (d := .int .i64) (k := .int .i64 (e.1 : Int)) Try.underlying46 Try.underlying3 rfl hj (jobs_key _ _)
  have hb1 := q1'.keep hb hjn.2.1
  have hp1 := q1'.keep (hO.keep h.desk (fun q => hjn.1 q.symm)) h.p_ne.1
  refine ⟨w1, w2, r1, r2, blk_cell hb1 2, blk_cell hb1 3, blk_cell hp1 1, q1', q2, ?_, ?_⟩
  · rw [kdel_names d.js i e (fun j => { j with state := st }) h.names.keys he hs hst, upd_set he] at s1
    exact s1
  · rw [kdel_jobs _ _ _ _ h.len hf] at s2
    exact s2
theorem end_keep {w W w1 w2 : World} {D : DMem} {d : Desk} {i : Nat} {m : JMem} {e : Nat × Job} {st : Nat} (h : DeskAt w D d) (he : d.js[i]? = some e) (hm : D.ms[i]? = some m)
    (hO : Only (fun k => k = m.blk) w W) (hb : W.heap[m.blk]? = some (.cells (jobCells m { e.2 with state := st }) 69 (0, 0))) (hf : EndFin W D d i m e st w1 w2) (hp : ¬ e.2.part = 0) :
    ∃ D', DeskAt w1 D' { d with js := tidy (upd d.js i fun j => { j with state := st }) i } ∧ DStep w w1 D D' := by
  have hmm := List.mem_of_getElem? hm
  have hjn := h.job_ne hmm (.inl rfl)
  have hj := h.at_ i m e hm he
  have hil := (List.getElem?_eq_some_iff.1 he).1
  have ht : tidy (upd d.js i fun j => { j with state := st }) i = d.js.set i (e.1, { e.2 with state := st }) := by
    rw [upd_set he]
    unfold tidy
    rw [List.getElem?_set, if_pos rfl, if_pos hil]
    simp only []
    rw [if_neg (fun q => hp q.2)]
  rw [ht]
  have hO1 : Only (fun k => JOwns m k ∨ k = D.nm) w w1 := (hO.mono (fun k _ q => .inl (.inl q))).trans (hf.o1.mono (fun k _ q => .inr q))
  exact ⟨_, h.change (m' := m) (j := { e.2 with state := st }) hm he ⟨hf.o1.keep hb hjn.2.1, (hj.sl.only hO (fun k hk q => by
      obtain ⟨cur, hc⟩ := hj.sl.type hk
      subst q
      exact blk_ne hc hj.blk (by decide) rfl)).only hf.o1 (fun k hk => (h.job_ne hmm (.inr hk)).2.1), hj.small⟩ rfl hf.names hO1 (fun k hk => .inl hk) (fun q => hp q.2)⟩
theorem end_gone {w W w1 w2 : World} {D : DMem} {d : Desk} {i : Nat} {m : JMem} {e : Nat × Job} {st : Nat} (h : DeskAt w D d) (he : d.js[i]? = some e) (hm : D.ms[i]? = some m) (hst : st ≠ 0)
    (hO : Only (fun k => k = m.blk) w W) (hf : EndFin W D d i m e st w1 w2) (hp : e.2.part = 0) :
    ∃ D', DeskAt w2 D' { d with js := tidy (upd d.js i fun j => { j with state := st }) i } ∧ DStep w w2 D D' := by
  have hil := (List.getElem?_eq_some_iff.1 he).1
  have ht : tidy (upd d.js i fun j => { j with state := st }) i = d.js.eraseIdx i := by
    rw [upd_set he]
    unfold tidy
    rw [List.getElem?_set, if_pos rfl, if_pos hil]
    simp only []
    rw [if_pos ⟨hst, hp⟩, List.eraseIdx_set_eq]
  rw [ht]
  have hn := hf.names
  have he2 : (d.js.set i (e.1, { e.2 with state := st }))[i]? = some (e.1, { e.2 with state := st }) := by rw [List.getElem?_set, if_pos rfl, if_pos hil]
  rw [← nameList_erase he2 hst, List.eraseIdx_set_eq] at hn
  refine ⟨_, h.remove hm (hn.only hf.o2 (fun q => h.ne q)) hf.jobs ?_⟩
  exact ((hO.mono (fun k _ q => .inl (.inl q))).trans (hf.o1.mono (fun k _ q => .inr (.inl q)))).trans (hf.o2.mono (fun k _ q => .inr (.inr q)))
set_option maxHeartbeats 2000000 in
theorem end_lost_keep {w : World} {D : DMem} {d : Desk} (h : DeskAt w D d) {i : Nat} {e : Nat × Job} (hf : findJ (e.1 : Int) d.js = some i) (he : d.js[i]? = some e) (hs : e.2.state = 0) (hpt : ¬ e.2.part = 0) :
    Calls Try.prog 10 #[.pointer (some ⟨D.p, 0, none⟩), .int .i64 (e.1 : Int), .bool false] w fun x w' => x = .returned (.int .i64 0) ∧ ∃ D', DeskAt w' D' { d with js := tidy (upd d.js i fun j => { j with state := 2 }) i } ∧ DStep w w' D D' := by
  have hp0 : w.cell? ⟨D.p, 0, none⟩ = some (.map (some D.nm)) := blk_cell h.desk 0
  have hp1 : w.cell? ⟨D.p, 1, none⟩ = some (.map (some D.jm)) := blk_cell h.desk 1
  have hps := lt_of_heap h.desk
  have g1 : D.p < w.heap.size + 1 := by omega
  have g2 : D.p < w.heap.size + 1 + 1 := by omega
  obtain ⟨m, hm, hj⟩ := h.there he
  have hl : ∀ o0 o1, (Instr.lookup 46 (.map (some D.jm)) (.int .i64 (e.1 : Int)) false).run Try.prog ((w.alloc o0).alloc o1) = .ok (ptr m.blk) ((w.alloc o0).alloc o1) := fun o0 o1 => look_job_some (h.quiet (((Only.refl (fun _ => False) w).alloc o0).alloc o1)) hf hm
  unfold ptr at hl
  have hj0 : w.cell? ⟨m.blk, 0, none⟩ = some (.string e.2.name) := blk_cell hj.blk 0
  have hj2 : w.cell? ⟨m.blk, 2, none⟩ = some (.int .i64 (e.2.state : Nat)) := blk_cell hj.blk 2
  have hj3 : w.cell? ⟨m.blk, 3, none⟩ = some (.int .i64 (e.2.part : Nat)) := blk_cell hj.blk 3
  have hjf := blk_frozen hj.blk 2
  have hjs := lt_of_heap hj.blk
  have k1 : m.blk < w.heap.size + 1 := by omega
  have k2 : m.blk < w.heap.size + 1 + 1 := by omega
  rw [hs] at hj2
  have dp : ((e.2.part : Int) == 0) = false := by simp; omega
  have H := Lib.hid h; clear h
  have HF := Lib.hid hf; clear hf
  have HE := Lib.hid he; clear he
  have HM := Lib.hid hm; clear hm
  have HJ := Lib.hid hj; clear hj
  have HS := Lib.hid hs; clear hs
  have HP := Lib.hid hpt; clear hpt
  go_enter Try.func10, Try.ntmps10
  go_wp2
  obtain ⟨W, hW⟩ : ∃ W, W = (((w.setCell ⟨m.blk, 2, none⟩ (.int .i64 2)).alloc (.cells #[.pointer (some ⟨D.p, 0, none⟩)] 24)).alloc (.cells #[.bool false] 4)) := ⟨_, rfl⟩
  rw [← hW]
  have hO : Only (fun k => k = m.blk) w W := by rw [hW]; exact (((Only.setCell (S := fun k => k = m.blk) (p := ⟨m.blk, 2, none⟩) (Only.refl _ _) (fun _ => rfl) _).alloc _).alloc _)
  have hb : W.heap[m.blk]? = some (.cells (jobCells m { e.2 with state := 2 }) 69 (0, 0)) := by
    rw [hW]
    refine (blk_alloc (blk_alloc (blk_set HJ.out.blk 2 (.int .i64 2)) _) _).trans ?_
    simp [jobCells]
  have hD : W.cell? ⟨w.heap.size, 0, none⟩ = some (.pointer (some ⟨D.p, 0, none⟩)) := by rw [hW]; simp [go_sem]
  have hP0 : W.cell? ⟨D.p, 0, none⟩ = some (.map (some D.nm)) := blk_cell (hO.keep H.out.desk (fun q => (H.out.job_ne (List.mem_of_getElem? HM.out) (.inl rfl)).1 q.symm)) 0
  have hJ0 : W.cell? ⟨m.blk, 0, none⟩ = some (.string e.2.name) := blk_cell hb 0
  have hWs := hO.size
  have hPs : D.p < W.heap.size := by omega
  have hJs : m.blk < W.heap.size := by omega
  have HW := Lib.hid hW; clear hW
  clear hp0 hp1 hj0 hj2 hj3 hjf hl
  obtain ⟨w1, w2, r1, r2, c2, c3, cp, fin⟩ := end_facts H.out HF.out HE.out HM.out HS.out (by decide) hO hb
  have HO := Lib.hid hO; clear hO
  have HB := Lib.hid hb; clear hb
  have FIN := Lib.hid fin; clear fin
  go_region
  all_goals go_wp2
  all_goals go_ret
  all_goals exact ⟨rfl, (end_keep H.out HE.out HM.out HO.out HB.out FIN.out HP.out)⟩
set_option maxHeartbeats 2000000 in
theorem end_lost_gone {w : World} {D : DMem} {d : Desk} (h : DeskAt w D d) {i : Nat} {e : Nat × Job} (hf : findJ (e.1 : Int) d.js = some i) (he : d.js[i]? = some e) (hs : e.2.state = 0) (hpt :  e.2.part = 0) :
    Calls Try.prog 10 #[.pointer (some ⟨D.p, 0, none⟩), .int .i64 (e.1 : Int), .bool false] w fun x w' => x = .returned (.int .i64 0) ∧ ∃ D', DeskAt w' D' { d with js := tidy (upd d.js i fun j => { j with state := 2 }) i } ∧ DStep w w' D D' := by
  have hp0 : w.cell? ⟨D.p, 0, none⟩ = some (.map (some D.nm)) := blk_cell h.desk 0
  have hp1 : w.cell? ⟨D.p, 1, none⟩ = some (.map (some D.jm)) := blk_cell h.desk 1
  have hps := lt_of_heap h.desk
  have g1 : D.p < w.heap.size + 1 := by omega
  have g2 : D.p < w.heap.size + 1 + 1 := by omega
  obtain ⟨m, hm, hj⟩ := h.there he
  have hl : ∀ o0 o1, (Instr.lookup 46 (.map (some D.jm)) (.int .i64 (e.1 : Int)) false).run Try.prog ((w.alloc o0).alloc o1) = .ok (ptr m.blk) ((w.alloc o0).alloc o1) := fun o0 o1 => look_job_some (h.quiet (((Only.refl (fun _ => False) w).alloc o0).alloc o1)) hf hm
  unfold ptr at hl
  have hj0 : w.cell? ⟨m.blk, 0, none⟩ = some (.string e.2.name) := blk_cell hj.blk 0
  have hj2 : w.cell? ⟨m.blk, 2, none⟩ = some (.int .i64 (e.2.state : Nat)) := blk_cell hj.blk 2
  have hj3 : w.cell? ⟨m.blk, 3, none⟩ = some (.int .i64 (e.2.part : Nat)) := blk_cell hj.blk 3
  have hjf := blk_frozen hj.blk 2
  have hjs := lt_of_heap hj.blk
  have k1 : m.blk < w.heap.size + 1 := by omega
  have k2 : m.blk < w.heap.size + 1 + 1 := by omega
  rw [hs] at hj2
  have dp : ((e.2.part : Int) == 0) = true := by simp; omega
  have H := Lib.hid h; clear h
  have HF := Lib.hid hf; clear hf
  have HE := Lib.hid he; clear he
  have HM := Lib.hid hm; clear hm
  have HJ := Lib.hid hj; clear hj
  have HS := Lib.hid hs; clear hs
  have HP := Lib.hid hpt; clear hpt
  go_enter Try.func10, Try.ntmps10
  go_wp2
  obtain ⟨W, hW⟩ : ∃ W, W = (((w.setCell ⟨m.blk, 2, none⟩ (.int .i64 2)).alloc (.cells #[.pointer (some ⟨D.p, 0, none⟩)] 24)).alloc (.cells #[.bool false] 4)) := ⟨_, rfl⟩
  rw [← hW]
  have hO : Only (fun k => k = m.blk) w W := by rw [hW]; exact (((Only.setCell (S := fun k => k = m.blk) (p := ⟨m.blk, 2, none⟩) (Only.refl _ _) (fun _ => rfl) _).alloc _).alloc _)
  have hb : W.heap[m.blk]? = some (.cells (jobCells m { e.2 with state := 2 }) 69 (0, 0)) := by
    rw [hW]
    refine (blk_alloc (blk_alloc (blk_set HJ.out.blk 2 (.int .i64 2)) _) _).trans ?_
    simp [jobCells]
  have hD : W.cell? ⟨w.heap.size, 0, none⟩ = some (.pointer (some ⟨D.p, 0, none⟩)) := by rw [hW]; simp [go_sem]
  have hP0 : W.cell? ⟨D.p, 0, none⟩ = some (.map (some D.nm)) := blk_cell (hO.keep H.out.desk (fun q => (H.out.job_ne (List.mem_of_getElem? HM.out) (.inl rfl)).1 q.symm)) 0
  have hJ0 : W.cell? ⟨m.blk, 0, none⟩ = some (.string e.2.name) := blk_cell hb 0
  have hWs := hO.size
  have hPs : D.p < W.heap.size := by omega
  have hJs : m.blk < W.heap.size := by omega
  have HW := Lib.hid hW; clear hW
  clear hp0 hp1 hj0 hj2 hj3 hjf hl
  obtain ⟨w1, w2, r1, r2, c2, c3, cp, fin⟩ := end_facts H.out HF.out HE.out HM.out HS.out (by decide) hO hb
  have HO := Lib.hid hO; clear hO
  have HB := Lib.hid hb; clear hb
  have FIN := Lib.hid fin; clear fin
  go_region
  all_goals go_wp2
  all_goals go_ret
  all_goals exact ⟨rfl, (end_gone H.out HE.out HM.out (by decide) HO.out FIN.out HP.out)⟩
set_option maxHeartbeats 2000000 in
theorem end_whole_keep {w : World} {D : DMem} {d : Desk} (h : DeskAt w D d) {i : Nat} {e : Nat × Job} (hf : findJ (e.1 : Int) d.js = some i) (he : d.js[i]? = some e) (hs : e.2.state = 0) (hpt : ¬ e.2.part = 0) :
    Calls Try.prog 10 #[.pointer (some ⟨D.p, 0, none⟩), .int .i64 (e.1 : Int), .bool true] w fun x w' => x = .returned (.int .i64 0) ∧ ∃ D', DeskAt w' D' { d with js := tidy (upd d.js i fun j => { j with state := 1 }) i } ∧ DStep w w' D D' := by
  have hp0 : w.cell? ⟨D.p, 0, none⟩ = some (.map (some D.nm)) := blk_cell h.desk 0
  have hp1 : w.cell? ⟨D.p, 1, none⟩ = some (.map (some D.jm)) := blk_cell h.desk 1
  have hps := lt_of_heap h.desk
  have g1 : D.p < w.heap.size + 1 := by omega
  have g2 : D.p < w.heap.size + 1 + 1 := by omega
  obtain ⟨m, hm, hj⟩ := h.there he
  have hl : ∀ o0 o1, (Instr.lookup 46 (.map (some D.jm)) (.int .i64 (e.1 : Int)) false).run Try.prog ((w.alloc o0).alloc o1) = .ok (ptr m.blk) ((w.alloc o0).alloc o1) := fun o0 o1 => look_job_some (h.quiet (((Only.refl (fun _ => False) w).alloc o0).alloc o1)) hf hm
  unfold ptr at hl
  have hj0 : w.cell? ⟨m.blk, 0, none⟩ = some (.string e.2.name) := blk_cell hj.blk 0
  have hj2 : w.cell? ⟨m.blk, 2, none⟩ = some (.int .i64 (e.2.state : Nat)) := blk_cell hj.blk 2
  have hj3 : w.cell? ⟨m.blk, 3, none⟩ = some (.int .i64 (e.2.part : Nat)) := blk_cell hj.blk 3
  have hjf := blk_frozen hj.blk 2
  have hjs := lt_of_heap hj.blk
  have k1 : m.blk < w.heap.size + 1 := by omega
  have k2 : m.blk < w.heap.size + 1 + 1 := by omega
  rw [hs] at hj2
  have dp : ((e.2.part : Int) == 0) = false := by simp; omega
  have H := Lib.hid h; clear h
  have HF := Lib.hid hf; clear hf
  have HE := Lib.hid he; clear he
  have HM := Lib.hid hm; clear hm
  have HJ := Lib.hid hj; clear hj
  have HS := Lib.hid hs; clear hs
  have HP := Lib.hid hpt; clear hpt
  go_enter Try.func10, Try.ntmps10
  go_wp2
  obtain ⟨W, hW⟩ : ∃ W, W = ((((w.setCell ⟨m.blk, 2, none⟩ (.int .i64 2)).setCell ⟨m.blk, 2, none⟩ (.int .i64 1)).alloc (.cells #[.pointer (some ⟨D.p, 0, none⟩)] 24)).alloc (.cells #[.bool true] 4)) := ⟨_, rfl⟩
  rw [← hW]
  have hO : Only (fun k => k = m.blk) w W := by rw [hW]; exact (((Only.setCell (S := fun k => k = m.blk) (p := ⟨m.blk, 2, none⟩) (Only.setCell (S := fun k => k = m.blk) (p := ⟨m.blk, 2, none⟩) (Only.refl _ _) (fun _ => rfl) _) (fun _ => rfl) _).alloc _).alloc _)
  have hb : W.heap[m.blk]? = some (.cells (jobCells m { e.2 with state := 1 }) 69 (0, 0)) := by
    rw [hW]
    refine (blk_alloc (blk_alloc (blk_set (blk_set HJ.out.blk 2 (.int .i64 2)) 2 (.int .i64 1)) _) _).trans ?_
    simp [jobCells]
  have hD : W.cell? ⟨w.heap.size, 0, none⟩ = some (.pointer (some ⟨D.p, 0, none⟩)) := by rw [hW]; simp [go_sem]
  have hP0 : W.cell? ⟨D.p, 0, none⟩ = some (.map (some D.nm)) := blk_cell (hO.keep H.out.desk (fun q => (H.out.job_ne (List.mem_of_getElem? HM.out) (.inl rfl)).1 q.symm)) 0
  have hJ0 : W.cell? ⟨m.blk, 0, none⟩ = some (.string e.2.name) := blk_cell hb 0
  have hWs := hO.size
  have hPs : D.p < W.heap.size := by omega
  have hJs : m.blk < W.heap.size := by omega
  have HW := Lib.hid hW; clear hW
  clear hp0 hp1 hj0 hj2 hj3 hjf hl
  obtain ⟨w1, w2, r1, r2, c2, c3, cp, fin⟩ := end_facts H.out HF.out HE.out HM.out HS.out (by decide) hO hb
  have HO := Lib.hid hO; clear hO
  have HB := Lib.hid hb; clear hb
  have FIN := Lib.hid fin; clear fin
  go_region
  all_goals go_wp2
  all_goals go_ret
  all_goals exact ⟨rfl, (end_keep H.out HE.out HM.out HO.out HB.out FIN.out HP.out)⟩
set_option maxHeartbeats 2000000 in
theorem end_whole_gone {w : World} {D : DMem} {d : Desk} (h : DeskAt w D d) {i : Nat} {e : Nat × Job} (hf : findJ (e.1 : Int) d.js = some i) (he : d.js[i]? = some e) (hs : e.2.state = 0) (hpt :  e.2.part = 0) :
    Calls Try.prog 10 #[.pointer (some ⟨D.p, 0, none⟩), .int .i64 (e.1 : Int), .bool true] w fun x w' => x = .returned (.int .i64 0) ∧ ∃ D', DeskAt w' D' { d with js := tidy (upd d.js i fun j => { j with state := 1 }) i } ∧ DStep w w' D D' := by
  have hp0 : w.cell? ⟨D.p, 0, none⟩ = some (.map (some D.nm)) := blk_cell h.desk 0
  have hp1 : w.cell? ⟨D.p, 1, none⟩ = some (.map (some D.jm)) := blk_cell h.desk 1
  have hps := lt_of_heap h.desk
  have g1 : D.p < w.heap.size + 1 := by omega
  have g2 : D.p < w.heap.size + 1 + 1 := by omega
  obtain ⟨m, hm, hj⟩ := h.there he
  have hl : ∀ o0 o1, (Instr.lookup 46 (.map (some D.jm)) (.int .i64 (e.1 : Int)) false).run Try.prog ((w.alloc o0).alloc o1) = .ok (ptr m.blk) ((w.alloc o0).alloc o1) := fun o0 o1 => look_job_some (h.quiet (((Only.refl (fun _ => False) w).alloc o0).alloc o1)) hf hm
  unfold ptr at hl
  have hj0 : w.cell? ⟨m.blk, 0, none⟩ = some (.string e.2.name) := blk_cell hj.blk 0
  have hj2 : w.cell? ⟨m.blk, 2, none⟩ = some (.int .i64 (e.2.state : Nat)) := blk_cell hj.blk 2
  have hj3 : w.cell? ⟨m.blk, 3, none⟩ = some (.int .i64 (e.2.part : Nat)) := blk_cell hj.blk 3
  have hjf := blk_frozen hj.blk 2
  have hjs := lt_of_heap hj.blk
  have k1 : m.blk < w.heap.size + 1 := by omega
  have k2 : m.blk < w.heap.size + 1 + 1 := by omega
  rw [hs] at hj2
  have dp : ((e.2.part : Int) == 0) = true := by simp; omega
  have H := Lib.hid h; clear h
  have HF := Lib.hid hf; clear hf
  have HE := Lib.hid he; clear he
  have HM := Lib.hid hm; clear hm
  have HJ := Lib.hid hj; clear hj
  have HS := Lib.hid hs; clear hs
  have HP := Lib.hid hpt; clear hpt
  go_enter Try.func10, Try.ntmps10
  go_wp2
  obtain ⟨W, hW⟩ : ∃ W, W = ((((w.setCell ⟨m.blk, 2, none⟩ (.int .i64 2)).setCell ⟨m.blk, 2, none⟩ (.int .i64 1)).alloc (.cells #[.pointer (some ⟨D.p, 0, none⟩)] 24)).alloc (.cells #[.bool true] 4)) := ⟨_, rfl⟩
  rw [← hW]
  have hO : Only (fun k => k = m.blk) w W := by rw [hW]; exact (((Only.setCell (S := fun k => k = m.blk) (p := ⟨m.blk, 2, none⟩) (Only.setCell (S := fun k => k = m.blk) (p := ⟨m.blk, 2, none⟩) (Only.refl _ _) (fun _ => rfl) _) (fun _ => rfl) _).alloc _).alloc _)
  have hb : W.heap[m.blk]? = some (.cells (jobCells m { e.2 with state := 1 }) 69 (0, 0)) := by
    rw [hW]
    refine (blk_alloc (blk_alloc (blk_set (blk_set HJ.out.blk 2 (.int .i64 2)) 2 (.int .i64 1)) _) _).trans ?_
    simp [jobCells]
  have hD : W.cell? ⟨w.heap.size, 0, none⟩ = some (.pointer (some ⟨D.p, 0, none⟩)) := by rw [hW]; simp [go_sem]
  have hP0 : W.cell? ⟨D.p, 0, none⟩ = some (.map (some D.nm)) := blk_cell (hO.keep H.out.desk (fun q => (H.out.job_ne (List.mem_of_getElem? HM.out) (.inl rfl)).1 q.symm)) 0
  have hJ0 : W.cell? ⟨m.blk, 0, none⟩ = some (.string e.2.name) := blk_cell hb 0
  have hWs := hO.size
  have hPs : D.p < W.heap.size := by omega
  have hJs : m.blk < W.heap.size := by omega
  have HW := Lib.hid hW; clear hW
  clear hp0 hp1 hj0 hj2 hj3 hjf hl
  obtain ⟨w1, w2, r1, r2, c2, c3, cp, fin⟩ := end_facts H.out HF.out HE.out HM.out HS.out (by decide) hO hb
  have HO := Lib.hid hO; clear hO
  have HB := Lib.hid hb; clear hb
  have FIN := Lib.hid fin; clear fin
  go_region
  all_goals go_wp2
  all_goals go_ret
  all_goals exact ⟨rfl, (end_gone H.out HE.out HM.out (by decide) HO.out FIN.out HP.out)⟩
end Go.Proofs.Ytffockkdiimneaa
