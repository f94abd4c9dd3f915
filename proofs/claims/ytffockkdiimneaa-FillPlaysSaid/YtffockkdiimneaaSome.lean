/-
  What the program's Leave and Append do at a known number. No conditions.
-/
import Derived.Test.YtffockkdiimneaaRel
namespace Go.Proofs.Ytffockkdiimneaa
open Go.RowKit Go.MapKept
set_option linter.unusedVariables false
set_option linter.unusedSimpArgs false

theorem DeskAt.free {w : World} {D : DMem} {d : Desk} (h : DeskAt w D d) {i : Nat} {e : Nat × Job} (he : d.js[i]? = some e) (hp : e.2.part = 0) : e.2.state = 0 := by
  have := h.kept e (List.mem_of_getElem? he)
  by_cases hs : e.2.state = 0
  · exact hs
  · exact (this ⟨hs, hp⟩).elim
theorem tidy_keep {js : List (Nat × Job)} {i : Nat} {e : Nat × Job} (he : js[i]? = some e) (f : Job → Job) (hp : ¬ ((f e.2).state ≠ 0 ∧ (f e.2).part = 0)) : tidy (upd js i f) i = js.set i (e.1, f e.2) := by
  have hil := (List.getElem?_eq_some_iff.1 he).1
  rw [upd_set he]
  unfold tidy
  rw [List.getElem?_set, if_pos rfl, if_pos hil]
  simp only []
  rw [if_neg hp]
theorem tidy_gone {js : List (Nat × Job)} {i : Nat} {e : Nat × Job} (he : js[i]? = some e) (f : Job → Job) (hp : (f e.2).state ≠ 0 ∧ (f e.2).part = 0) : tidy (upd js i f) i = js.eraseIdx i := by
  have hil := (List.getElem?_eq_some_iff.1 he).1
  rw [upd_set he]
  unfold tidy
  rw [List.getElem?_set, if_pos rfl, if_pos hil]
  simp only []
  rw [if_pos hp, List.eraseIdx_set_eq]
/-- A fill without its last one is kept. -/
theorem left_keep {w : World} {D : DMem} {d : Desk} {i : Nat} {m : JMem} {e : Nat × Job} (h : DeskAt w D d) (he : d.js[i]? = some e) (hm : D.ms[i]? = some m) (hp : e.2.part ≠ 0) (hk : e.2.state = 0 ∨ e.2.part ≠ 1) :
    ∃ D', DeskAt (w.setCell ⟨m.blk, 3, none⟩ (.int .i64 ((e.2.part : Int) - 1))) D' { d with js := tidy (upd d.js i fun j => { j with part := j.part - 1 }) i } ∧ DStep w (w.setCell ⟨m.blk, 3, none⟩ (.int .i64 ((e.2.part : Int) - 1))) D D' := by
  have hmm := List.mem_of_getElem? hm
  have hj := h.at_ i m e hm he
  have hset : Only (· = m.blk) w (w.setCell ⟨m.blk, 3, none⟩ (.int .i64 ((e.2.part : Int) - 1))) := Only.setCell (S := (· = m.blk)) (p := ⟨m.blk, 3, none⟩) (Only.refl _ _) (fun _ => rfl) _
  have hkk : ¬ (e.2.state ≠ 0 ∧ e.2.part - 1 = 0) := by omega
  rw [tidy_keep he (fun j => { j with part := j.part - 1 }) hkk]
  have hb := blk_set hj.blk 3 (.int .i64 ((e.2.part : Int) - 1))
  have hc : ((e.2.part - 1 : Nat) : Int) = (e.2.part : Int) - 1 := by omega
  exact ⟨_, h.change (m' := m) (j := { e.2 with part := e.2.part - 1 }) hm he ⟨by simpa [jobCells, hc] using hb, hj.sl.only hset (fun k hk q => by
      obtain ⟨cur, hc⟩ := hj.sl.type hk
      subst q
      exact blk_ne hc hj.blk (by decide) rfl), hj.small⟩ rfl (by
      rw [nameList_set { e.2 with part := e.2.part - 1 } he rfl rfl]
      exact h.names.only hset (fun q => (h.job_ne hmm (.inl rfl)).2.1 q.symm)) (hset.mono (fun k _ q => .inl (.inl q))) (fun k hk => .inl hk) hkk⟩
theorem left_gone {w : World} {D : DMem} {d : Desk} {i : Nat} {m : JMem} {e : Nat × Job} (h : DeskAt w D d) (hf : findJ (e.1 : Int) d.js = some i) (he : d.js[i]? = some e) (hm : D.ms[i]? = some m) (hp : e.2.part = 1) (hk : e.2.state ≠ 0) :
    ∃ w2, (∀ ty, (Builtin.delete_ #[46, 3] ty #[.map (some D.jm), .int .i64 (e.1 : Int)]).run Try.prog (w.setCell ⟨m.blk, 3, none⟩ (.int .i64 0)) = .ok (.tuple #[]) w2) ∧
      ∃ D', DeskAt w2 D' { d with js := tidy (upd d.js i fun j => { j with part := j.part - 1 }) i } ∧ DStep w w2 D D' := by
  have hmm := List.mem_of_getElem? hm
  have hjn := h.job_ne hmm (.inl rfl)
  have hset : Only (· = m.blk) w (w.setCell ⟨m.blk, 3, none⟩ (.int .i64 0)) := Only.setCell (S := (· = m.blk)) (p := ⟨m.blk, 3, none⟩) (Only.refl _ _) (fun _ => rfl) _
  have hj : SMap (w.setCell ⟨m.blk, 3, none⟩ (.int .i64 0)) D.jm (jobList d.js D.ms) := h.jobs.only hset (fun q => hjn.2.2 q.symm)
  obtain ⟨w2, r2, s2, q2⟩ := run_delete_s (P := Try.prog) (t := 46) (kt := 3) (et := 67) (d := .int .i64) (k := .int .i64 (e.1 : Int)) Try.underlying46 Try.underlying3 rfl hj (jobs_key _ _)
  rw [kdel_jobs _ _ _ _ h.len hf] at s2
  rw [tidy_gone he (fun j => { j with part := j.part - 1 }) ⟨hk, by simp [hp]⟩]
  refine ⟨w2, r2, _, h.remove hm ?_ s2 ((hset.mono (fun k _ q => .inl (.inl q))).trans (q2.mono (fun k _ q => .inr (.inr q))))⟩
  rw [nameList_erase he hk]
  exact (h.names.only hset (fun q => hjn.2.1 q.symm)).only q2 (fun q => h.ne q)
/-- Bytes put behind a fill. -/
theorem app_end {w W w' : World} {D : DMem} {d : Desk} {i : Nat} {m : JMem} {e : Nat × Job} {A' : Option Addr} {c' : Nat} {l : List UInt8} (h : DeskAt w D d) (he : d.js[i]? = some e) (hm : D.ms[i]? = some m) (hq : Quiet w W) (hon : Only (RowOf m.A) W w')
    (hsl : Sl w' 5 A' (e.2.bytes.length + l.length) c' (bytes e.2.bytes ++ bytes l)) (hrow : ∀ k, RowOf A' k → RowOf m.A k ∨ W.heap.size ≤ k) (hroom : (l.length : Int) ≤ 1048576 - e.2.bytes.length) :
    ∃ D', DeskAt (w'.setCell ⟨m.blk, 1, none⟩ (.slice A' (e.2.bytes.length + l.length) c')) D' { d with js := upd d.js i fun j => { j with bytes := j.bytes ++ l } } ∧ DStep w (w'.setCell ⟨m.blk, 1, none⟩ (.slice A' (e.2.bytes.length + l.length) c')) D D' := by
  have hmm := List.mem_of_getElem? hm
  have hj := (h.at_ i m e hm he).keep hq (fun _ _ x => x)
  have hnb : ∀ k, RowOf m.A k → k ≠ m.blk := fun k hk q => by
    obtain ⟨cur, hc⟩ := hj.sl.type hk
    subst q
    exact blk_ne hc hj.blk (by decide) rfl
  have hb := hon.keep hj.blk (fun hk => hnb _ hk rfl)
  have hne : ∀ k, RowOf A' k → k ≠ m.blk := fun k hk q => by
    obtain ⟨cur, hc⟩ := hsl.type hk
    subst q
    exact blk_ne hc hb (by decide) rfl
  have ho : Only (JOwns m) w (w'.setCell ⟨m.blk, 1, none⟩ (.slice A' (e.2.bytes.length + l.length) c')) :=
    Only.setCell (S := JOwns m) ((hq.mono (fun _ _ x => x.elim)).trans (hon.mono (fun _ _ x => .inr x))) (fun _ => .inl rfl) _
  have hset : Only (· = m.blk) w' (w'.setCell ⟨m.blk, 1, none⟩ (.slice A' (e.2.bytes.length + l.length) c')) := Only.setCell (S := (· = m.blk)) (Only.refl _ _) (fun _ => rfl) _
  rw [upd_set he]
  refine ⟨_, h.change (m' := ⟨m.blk, A', c'⟩) (j := { e.2 with bytes := e.2.bytes ++ l }) hm he ⟨?_, ?_, ?_⟩ rfl ?_ (ho.mono (fun k _ q => .inl q)) ?_ (h.kept e (List.mem_of_getElem? he))⟩
  · have := blk_set hb 1 (.slice A' (e.2.bytes.length + l.length) c')
    simpa [jobCells] using this
  · simpa [bytes] using hsl.only hset (fun k hk => hne k hk)
  · simp; omega
  · rw [nameList_set { e.2 with bytes := e.2.bytes ++ l } he rfl rfl]
    exact h.names.only ho (fun hk => (h.job_ne hmm hk).2.1 rfl)
  · intro k hk
    rcases hk with hk | hk
    · exact .inl (.inl hk)
    · rcases hrow k hk with hk | hk
      · exact .inl (.inr hk)
      · exact .inr (Nat.le_trans hq.size hk)
set_option maxHeartbeats 2000000 in
theorem leave_free {w : World} {D : DMem} {d : Desk} (h : DeskAt w D d) {i : Nat} {e : Nat × Job} (hf : findJ (e.1 : Int) d.js = some i) (he : d.js[i]? = some e) (hp : e.2.part = 0) :
    Calls Try.prog 16 #[.pointer (some ⟨D.p, 0, none⟩), .int .i64 (e.1 : Int)] w fun x w' => x = .returned (.int .i64 17) ∧ Quiet w w' := by
  have hs := h.free he hp
  have hp0 : w.cell? ⟨D.p, 0, none⟩ = some (.map (some D.nm)) := blk_cell h.desk 0
  have hp1 : w.cell? ⟨D.p, 1, none⟩ = some (.map (some D.jm)) := blk_cell h.desk 1
  have hps := lt_of_heap h.desk
  have g1 : D.p < w.heap.size + 1 := by omega
  have g2 : D.p < w.heap.size + 1 + 1 := by omega
  have g3 : D.p < w.heap.size + 1 + 1 + 1 := by omega
  have g4 : D.p < w.heap.size + 1 + 1 + 1 + 1 := by omega
  obtain ⟨m, hm, hj⟩ := h.there he
  have hl := look_job_some h hf hm
  unfold ptr at hl
  have hj1 : w.cell? ⟨m.blk, 1, none⟩ = some (.slice m.A e.2.bytes.length m.c) := blk_cell hj.blk 1
  have hj2 : w.cell? ⟨m.blk, 2, none⟩ = some (.int .i64 (e.2.state : Nat)) := blk_cell hj.blk 2
  have hj3 : w.cell? ⟨m.blk, 3, none⟩ = some (.int .i64 (e.2.part : Nat)) := blk_cell hj.blk 3
  have hjs := lt_of_heap hj.blk
  have k1 : m.blk < w.heap.size + 1 := by omega
  have k2 : m.blk < w.heap.size + 1 + 1 := by omega
  have k3 : m.blk < w.heap.size + 1 + 1 + 1 := by omega
  have k4 : m.blk < w.heap.size + 1 + 1 + 1 + 1 := by omega
  have hsm := hj.small
  rw [hs] at hj2
  rw [hp] at hj3
  have H := Lib.hid h; clear h
  have HF := Lib.hid hf; clear hf
  have HE := Lib.hid he; clear he
  have HM := Lib.hid hm; clear hm
  have HJ := Lib.hid hj; clear hj
  have HS := Lib.hid hs; clear hs
  have HP := Lib.hid hp; clear hp
  go_enter Try.func16, Try.ntmps16
  go_wp2
  go_ret
  exact ⟨rfl, (by repeat (first | exact Only.refl _ _ | refine Only.drewN ?_ _ | refine Only.drew ?_ | refine Only.alloc ?_ _ | refine Only.setCell ?_ (fun h => by first | (simp at h; done) | (simp at h; omega) | omega) _))⟩
set_option maxHeartbeats 2000000 in
theorem leave_runs {w : World} {D : DMem} {d : Desk} (h : DeskAt w D d) {i : Nat} {e : Nat × Job} (hf : findJ (e.1 : Int) d.js = some i) (he : d.js[i]? = some e) (hp : e.2.part ≠ 0) (hs : e.2.state = 0) (hpart : e.2.part < 4611686018427387904) :
    Calls Try.prog 16 #[.pointer (some ⟨D.p, 0, none⟩), .int .i64 (e.1 : Int)] w fun x w' => x = .returned (.int .i64 0) ∧ ∃ D', DeskAt w' D' { d with js := tidy (upd d.js i fun j => { j with part := j.part - 1 }) i } ∧ DStep w w' D D' := by
  have hp0 : w.cell? ⟨D.p, 0, none⟩ = some (.map (some D.nm)) := blk_cell h.desk 0
  have hp1 : w.cell? ⟨D.p, 1, none⟩ = some (.map (some D.jm)) := blk_cell h.desk 1
  have hps := lt_of_heap h.desk
  have g1 : D.p < w.heap.size + 1 := by omega
  have g2 : D.p < w.heap.size + 1 + 1 := by omega
  have g3 : D.p < w.heap.size + 1 + 1 + 1 := by omega
  have g4 : D.p < w.heap.size + 1 + 1 + 1 + 1 := by omega
  obtain ⟨m, hm, hj⟩ := h.there he
  have hl := look_job_some h hf hm
  unfold ptr at hl
  have hj1 : w.cell? ⟨m.blk, 1, none⟩ = some (.slice m.A e.2.bytes.length m.c) := blk_cell hj.blk 1
  have hj2 : w.cell? ⟨m.blk, 2, none⟩ = some (.int .i64 (e.2.state : Nat)) := blk_cell hj.blk 2
  have hj3 : w.cell? ⟨m.blk, 3, none⟩ = some (.int .i64 (e.2.part : Nat)) := blk_cell hj.blk 3
  have hjs := lt_of_heap hj.blk
  have k1 : m.blk < w.heap.size + 1 := by omega
  have k2 : m.blk < w.heap.size + 1 + 1 := by omega
  have k3 : m.blk < w.heap.size + 1 + 1 + 1 := by omega
  have k4 : m.blk < w.heap.size + 1 + 1 + 1 + 1 := by omega
  have hsm := hj.small
  have hjf := blk_frozen hj.blk 3
  rw [hs] at hj2
  have dp : ((e.2.part : Int) == 0) = false := by simp; omega
  have H := Lib.hid h; clear h
  have HF := Lib.hid hf; clear hf
  have HE := Lib.hid he; clear he
  have HM := Lib.hid hm; clear hm
  have HJ := Lib.hid hj; clear hj
  have HS := Lib.hid hs; clear hs
  have HP := Lib.hid hp; clear hp
  go_enter Try.func16, Try.ntmps16
  go_wp2
  go_ret
  exact ⟨rfl, left_keep H.out HE.out HM.out HP.out (.inl HS.out)⟩
set_option maxHeartbeats 2000000 in
theorem leave_ends {w : World} {D : DMem} {d : Desk} (h : DeskAt w D d) {i : Nat} {e : Nat × Job} (hf : findJ (e.1 : Int) d.js = some i) (he : d.js[i]? = some e) (hp : e.2.part ≠ 0) (hs : e.2.state ≠ 0) (hpo : e.2.part ≠ 1) (hpart : e.2.part < 4611686018427387904) :
    Calls Try.prog 16 #[.pointer (some ⟨D.p, 0, none⟩), .int .i64 (e.1 : Int)] w fun x w' => x = .returned (.int .i64 0) ∧ ∃ D', DeskAt w' D' { d with js := tidy (upd d.js i fun j => { j with part := j.part - 1 }) i } ∧ DStep w w' D D' := by
  have hp0 : w.cell? ⟨D.p, 0, none⟩ = some (.map (some D.nm)) := blk_cell h.desk 0
  have hp1 : w.cell? ⟨D.p, 1, none⟩ = some (.map (some D.jm)) := blk_cell h.desk 1
  have hps := lt_of_heap h.desk
  have g1 : D.p < w.heap.size + 1 := by omega
  have g2 : D.p < w.heap.size + 1 + 1 := by omega
  have g3 : D.p < w.heap.size + 1 + 1 + 1 := by omega
  have g4 : D.p < w.heap.size + 1 + 1 + 1 + 1 := by omega
  obtain ⟨m, hm, hj⟩ := h.there he
  have hl := look_job_some h hf hm
  unfold ptr at hl
  have hj1 : w.cell? ⟨m.blk, 1, none⟩ = some (.slice m.A e.2.bytes.length m.c) := blk_cell hj.blk 1
  have hj2 : w.cell? ⟨m.blk, 2, none⟩ = some (.int .i64 (e.2.state : Nat)) := blk_cell hj.blk 2
  have hj3 : w.cell? ⟨m.blk, 3, none⟩ = some (.int .i64 (e.2.part : Nat)) := blk_cell hj.blk 3
  have hjs := lt_of_heap hj.blk
  have k1 : m.blk < w.heap.size + 1 := by omega
  have k2 : m.blk < w.heap.size + 1 + 1 := by omega
  have k3 : m.blk < w.heap.size + 1 + 1 + 1 := by omega
  have k4 : m.blk < w.heap.size + 1 + 1 + 1 + 1 := by omega
  have hsm := hj.small
  have hjf := blk_frozen hj.blk 3
  have ds : ((e.2.state : Int) != 0) = true := by simp; omega
  have dp : ((e.2.part : Int) == 0) = false := by simp; omega
  have dp1 : ((e.2.part : Int) - 1 == 0) = false := by simp; omega
  have HP1 := Lib.hid hpo; clear hpo
  have H := Lib.hid h; clear h
  have HF := Lib.hid hf; clear hf
  have HE := Lib.hid he; clear he
  have HM := Lib.hid hm; clear hm
  have HJ := Lib.hid hj; clear hj
  have HS := Lib.hid hs; clear hs
  have HP := Lib.hid hp; clear hp
  go_enter Try.func16, Try.ntmps16
  go_wp2
  go_ret
  exact ⟨rfl, left_keep H.out HE.out HM.out HP.out (.inr HP1.out)⟩
set_option maxHeartbeats 2000000 in
theorem leave_last {w : World} {D : DMem} {d : Desk} (h : DeskAt w D d) {i : Nat} {e : Nat × Job} (hf : findJ (e.1 : Int) d.js = some i) (he : d.js[i]? = some e) (hp : e.2.part = 1) (hs : e.2.state ≠ 0) :
    Calls Try.prog 16 #[.pointer (some ⟨D.p, 0, none⟩), .int .i64 (e.1 : Int)] w fun x w' => x = .returned (.int .i64 0) ∧ ∃ D', DeskAt w' D' { d with js := tidy (upd d.js i fun j => { j with part := j.part - 1 }) i } ∧ DStep w w' D D' := by
  have hp0 : w.cell? ⟨D.p, 0, none⟩ = some (.map (some D.nm)) := blk_cell h.desk 0
  have hp1 : w.cell? ⟨D.p, 1, none⟩ = some (.map (some D.jm)) := blk_cell h.desk 1
  have hps := lt_of_heap h.desk
  have g1 : D.p < w.heap.size + 1 := by omega
  have g2 : D.p < w.heap.size + 1 + 1 := by omega
  have g3 : D.p < w.heap.size + 1 + 1 + 1 := by omega
  have g4 : D.p < w.heap.size + 1 + 1 + 1 + 1 := by omega
  obtain ⟨m, hm, hj⟩ := h.there he
  have hl := look_job_some h hf hm
  unfold ptr at hl
  have hj1 : w.cell? ⟨m.blk, 1, none⟩ = some (.slice m.A e.2.bytes.length m.c) := blk_cell hj.blk 1
  have hj2 : w.cell? ⟨m.blk, 2, none⟩ = some (.int .i64 (e.2.state : Nat)) := blk_cell hj.blk 2
  have hj3 : w.cell? ⟨m.blk, 3, none⟩ = some (.int .i64 (e.2.part : Nat)) := blk_cell hj.blk 3
  have hjs := lt_of_heap hj.blk
  have k1 : m.blk < w.heap.size + 1 := by omega
  have k2 : m.blk < w.heap.size + 1 + 1 := by omega
  have k3 : m.blk < w.heap.size + 1 + 1 + 1 := by omega
  have k4 : m.blk < w.heap.size + 1 + 1 + 1 + 1 := by omega
  have hsm := hj.small
  have hjf := blk_frozen hj.blk 3
  have ds : ((e.2.state : Int) != 0) = true := by simp; omega
  rw [hp] at hj3
  obtain ⟨w2, r2, hfin⟩ := left_gone h hf he hm hp hs
  have H := Lib.hid h; clear h
  have HF := Lib.hid hf; clear hf
  have HE := Lib.hid he; clear he
  have HM := Lib.hid hm; clear hm
  have HJ := Lib.hid hj; clear hj
  have HS := Lib.hid hs; clear hs
  have HP := Lib.hid hp; clear hp
  have HFIN := Lib.hid hfin; clear hfin
  go_enter Try.func16, Try.ntmps16
  go_wp2
  go_ret
  exact ⟨rfl, HFIN.out⟩
theorem leave_at {w : World} {D : DMem} {d : Desk} (h : DeskAt w D d) (id : Int) (hpart : ∀ e ∈ d.js, e.2.part < 4611686018427387904) :
    Calls Try.prog 16 #[.pointer (some ⟨D.p, 0, none⟩), .int .i64 id] w fun x w' => x = .returned (.int .i64 (leaveF d id).1) ∧ ∃ D', DeskAt w' D' (leaveF d id).2 ∧ DStep w w' D D' := by
  unfold leaveF
  cases hf : findJ id d.js with
  | none =>
    refine (leave_none h id hf).mono ?_
    rintro x w' ⟨rfl, hq⟩
    exact ⟨rfl, D, h.quiet hq, DStep.refl D hq⟩
  | some i =>
    obtain ⟨e, he, rfl⟩ := findJ_some hf
    simp only [he]
    by_cases hp : e.2.part = 0
    · rw [if_pos hp]
      refine (leave_free h hf he hp).mono ?_
      rintro x w' ⟨rfl, hq⟩
      exact ⟨rfl, D, h.quiet hq, DStep.refl D hq⟩
    · rw [if_neg hp]
      have hb := hpart e (List.mem_of_getElem? he)
      by_cases hs : e.2.state = 0
      · exact leave_runs h hf he hp hs hb
      · by_cases h1 : e.2.part = 1
        · exact leave_last h hf he h1 hs
        · exact leave_ends h hf he hp hs h1 hb
theorem hne_row {w : World} {m : JMem} {j : Job} (h : JobAt w m j) (hk : RowOf m.A m.blk) : False := by
  obtain ⟨cur, hc⟩ := h.sl.type hk
  exact blk_ne hc h.blk (by decide) rfl
theorem Try.row5s : (Try.prog.info? 5).map (fun i => (i.zero, i.size, i.bytes)) = some (some (.int .u8 0), 1, 1) := by kernel_rfl
set_option maxHeartbeats 2000000 in
theorem append_shut {w : World} {D : DMem} {d : Desk} (h : DeskAt w D d) {i : Nat} {e : Nat × Job} (hf : findJ (e.1 : Int) d.js = some i) (he : d.js[i]? = some e) (B : Option Addr) (c : Nat) (l : List UInt8) (hll : l.length ≤ maxLen) (hs : e.2.state ≠ 0) :
    Calls Try.prog 12 #[.pointer (some ⟨D.p, 0, none⟩), .int .i64 (e.1 : Int), .slice B l.length c] w fun x w' => x = .returned (.int .i64 16) ∧ Quiet w w' := by
  have hp : e.2.part ≠ 0 := fun q => hs (h.free he q)
  have hp0 : w.cell? ⟨D.p, 0, none⟩ = some (.map (some D.nm)) := blk_cell h.desk 0
  have hp1 : w.cell? ⟨D.p, 1, none⟩ = some (.map (some D.jm)) := blk_cell h.desk 1
  have hps := lt_of_heap h.desk
  have g1 : D.p < w.heap.size + 1 := by omega
  have g2 : D.p < w.heap.size + 1 + 1 := by omega
  have g3 : D.p < w.heap.size + 1 + 1 + 1 := by omega
  have g4 : D.p < w.heap.size + 1 + 1 + 1 + 1 := by omega
  obtain ⟨m, hm, hj⟩ := h.there he
  have hl : ∀ o0, (Instr.lookup 46 (.map (some D.jm)) (.int .i64 (e.1 : Int)) false).run Try.prog (w.alloc o0) = .ok (ptr m.blk) (w.alloc o0) := fun o0 => look_job_some (h.quiet ((Only.refl (fun _ => False) w).alloc o0)) hf hm
  unfold ptr at hl
  have hj1 : w.cell? ⟨m.blk, 1, none⟩ = some (.slice m.A e.2.bytes.length m.c) := blk_cell hj.blk 1
  have hj2 : w.cell? ⟨m.blk, 2, none⟩ = some (.int .i64 (e.2.state : Nat)) := blk_cell hj.blk 2
  have hj3 : w.cell? ⟨m.blk, 3, none⟩ = some (.int .i64 (e.2.part : Nat)) := blk_cell hj.blk 3
  have hjs := lt_of_heap hj.blk
  have k1 : m.blk < w.heap.size + 1 := by omega
  have k2 : m.blk < w.heap.size + 1 + 1 := by omega
  have k3 : m.blk < w.heap.size + 1 + 1 + 1 := by omega
  have k4 : m.blk < w.heap.size + 1 + 1 + 1 + 1 := by omega
  have hsm := hj.small
  have ds : ((e.2.state : Int) != 0) = true := by simp; omega
  have dp : ((e.2.part : Int) == 0) = false := by simp; omega
  have H := Lib.hid h; clear h
  have HF := Lib.hid hf; clear hf
  have HE := Lib.hid he; clear he
  have HM := Lib.hid hm; clear hm
  have HJ := Lib.hid hj; clear hj
  have HS := Lib.hid hs; clear hs
  have HP := Lib.hid hp; clear hp
  go_enter Try.func12, Try.ntmps12
  go_wp2
  go_ret
  exact ⟨rfl, (by repeat (first | exact Only.refl _ _ | refine Only.drewN ?_ _ | refine Only.drew ?_ | refine Only.alloc ?_ _ | refine Only.setCell ?_ (fun h => by first | (simp at h; done) | (simp at h; omega) | omega) _))⟩
set_option maxHeartbeats 2000000 in
theorem append_big {w : World} {D : DMem} {d : Desk} (h : DeskAt w D d) {i : Nat} {e : Nat × Job} (hf : findJ (e.1 : Int) d.js = some i) (he : d.js[i]? = some e) (B : Option Addr) (c : Nat) (l : List UInt8) (hll : l.length ≤ maxLen) (hs : e.2.state = 0) (hr : 1048576 - (e.2.bytes.length : Int) < (l.length : Int)) :
    Calls Try.prog 12 #[.pointer (some ⟨D.p, 0, none⟩), .int .i64 (e.1 : Int), .slice B l.length c] w fun x w' => x = .returned (.int .i64 3) ∧ Quiet w w' := by
  unfold maxLen at hll
  have hp0 : w.cell? ⟨D.p, 0, none⟩ = some (.map (some D.nm)) := blk_cell h.desk 0
  have hp1 : w.cell? ⟨D.p, 1, none⟩ = some (.map (some D.jm)) := blk_cell h.desk 1
  have hps := lt_of_heap h.desk
  have g1 : D.p < w.heap.size + 1 := by omega
  have g2 : D.p < w.heap.size + 1 + 1 := by omega
  have g3 : D.p < w.heap.size + 1 + 1 + 1 := by omega
  have g4 : D.p < w.heap.size + 1 + 1 + 1 + 1 := by omega
  obtain ⟨m, hm, hj⟩ := h.there he
  have hl : ∀ o0, (Instr.lookup 46 (.map (some D.jm)) (.int .i64 (e.1 : Int)) false).run Try.prog (w.alloc o0) = .ok (ptr m.blk) (w.alloc o0) := fun o0 => look_job_some (h.quiet ((Only.refl (fun _ => False) w).alloc o0)) hf hm
  unfold ptr at hl
  have hj1 : w.cell? ⟨m.blk, 1, none⟩ = some (.slice m.A e.2.bytes.length m.c) := blk_cell hj.blk 1
  have hj2 : w.cell? ⟨m.blk, 2, none⟩ = some (.int .i64 (e.2.state : Nat)) := blk_cell hj.blk 2
  have hj3 : w.cell? ⟨m.blk, 3, none⟩ = some (.int .i64 (e.2.part : Nat)) := blk_cell hj.blk 3
  have hjs := lt_of_heap hj.blk
  have k1 : m.blk < w.heap.size + 1 := by omega
  have k2 : m.blk < w.heap.size + 1 + 1 := by omega
  have k3 : m.blk < w.heap.size + 1 + 1 + 1 := by omega
  have k4 : m.blk < w.heap.size + 1 + 1 + 1 + 1 := by omega
  have hsm := hj.small
  rw [hs] at hj2
  have dd : decide (1048576 - (e.2.bytes.length : Int) < (l.length : Int)) = true := by simp; omega
  have H := Lib.hid h; clear h
  have HF := Lib.hid hf; clear hf
  have HE := Lib.hid he; clear he
  have HM := Lib.hid hm; clear hm
  have HJ := Lib.hid hj; clear hj
  have HS := Lib.hid hs; clear hs
  go_enter Try.func12, Try.ntmps12
  go_wp2
  go_quiet (fail)
  go_wp2
  go_ret
  exact ⟨rfl, (by repeat (first | exact Only.refl _ _ | refine Only.drewN ?_ _ | refine Only.drew ?_ | refine Only.alloc ?_ _ | refine Only.setCell ?_ (fun h => by first | (simp at h; done) | (simp at h; omega) | omega) _))⟩
set_option maxHeartbeats 2000000 in
theorem append_ok {w : World} {D : DMem} {d : Desk} (h : DeskAt w D d) {i : Nat} {e : Nat × Job} (hf : findJ (e.1 : Int) d.js = some i) (he : d.js[i]? = some e) (B : Option Addr) (c : Nat) (l : List UInt8) (hll : l.length ≤ maxLen) (hs : e.2.state = 0) (hr : (l.length : Int) ≤ 1048576 - e.2.bytes.length)
    (hsrc : ∀ W, Quiet w W → Src W B (bytes l)) (hnil : B = none → l.length = 0) :
    Calls Try.prog 12 #[.pointer (some ⟨D.p, 0, none⟩), .int .i64 (e.1 : Int), .slice B l.length c] w fun x w' => x = .returned (.int .i64 0) ∧ ∃ D', DeskAt w' D' { d with js := upd d.js i fun j => { j with bytes := j.bytes ++ l } } ∧ DStep w w' D D' := by
  unfold maxLen at hll
  obtain ⟨i0, hi0, hz0, hz1, hz2⟩ := info_parts Try.row5s
  have hp0 : w.cell? ⟨D.p, 0, none⟩ = some (.map (some D.nm)) := blk_cell h.desk 0
  have hp1 : w.cell? ⟨D.p, 1, none⟩ = some (.map (some D.jm)) := blk_cell h.desk 1
  have hps := lt_of_heap h.desk
  have g1 : D.p < w.heap.size + 1 := by omega
  have g2 : D.p < w.heap.size + 1 + 1 := by omega
  have g3 : D.p < w.heap.size + 1 + 1 + 1 := by omega
  have g4 : D.p < w.heap.size + 1 + 1 + 1 + 1 := by omega
  obtain ⟨m, hm, hj⟩ := h.there he
  have hl : ∀ o0, (Instr.lookup 46 (.map (some D.jm)) (.int .i64 (e.1 : Int)) false).run Try.prog (w.alloc o0) = .ok (ptr m.blk) (w.alloc o0) := fun o0 => look_job_some (h.quiet ((Only.refl (fun _ => False) w).alloc o0)) hf hm
  unfold ptr at hl
  have hj1 : w.cell? ⟨m.blk, 1, none⟩ = some (.slice m.A e.2.bytes.length m.c) := blk_cell hj.blk 1
  have hj2 : w.cell? ⟨m.blk, 2, none⟩ = some (.int .i64 (e.2.state : Nat)) := blk_cell hj.blk 2
  have hj3 : w.cell? ⟨m.blk, 3, none⟩ = some (.int .i64 (e.2.part : Nat)) := blk_cell hj.blk 3
  have hjs := lt_of_heap hj.blk
  have k1 : m.blk < w.heap.size + 1 := by omega
  have k2 : m.blk < w.heap.size + 1 + 1 := by omega
  have k3 : m.blk < w.heap.size + 1 + 1 + 1 := by omega
  have k4 : m.blk < w.heap.size + 1 + 1 + 1 + 1 := by omega
  have hsm := hj.small
  have hjf := blk_frozen hj.blk 1
  rw [hs] at hj2
  have dd : decide (1048576 - (e.2.bytes.length : Int) < (l.length : Int)) = false := by simp; omega
  have H := Lib.hid h; clear h
  have HF := Lib.hid hf; clear hf
  have HE := Lib.hid he; clear he
  have HM := Lib.hid hm; clear hm
  have HJ := Lib.hid hj; clear hj
  have HS := Lib.hid hs; clear hs
  have HSRC := Lib.hid hsrc; clear hsrc
  go_enter Try.func12, Try.ntmps12
  go_wp2
  go_quiet (fail)
  go_wp2
  go_region_law (refine step_append_sl _ rfl (.tmp 24) (.tmp 25) 22 rfl 5 i0 (.int .u8 0) 1 Try.underlying22 hi0 hz0 hz1 hz2 rfl m.A e.2.bytes.length m.c (bytes e.2.bytes) rfl (HJ.out.sl.only (F := fun _ => False) (by repeat (first | exact Only.refl _ _ | refine Only.drewN ?_ _ | refine Only.drew ?_ | refine Only.alloc ?_ _ | refine Only.setCell ?_ (fun h => by first | (simp at h; done) | (simp at h; omega) | omega) _)) (fun _ _ h => h)) B l.length c (bytes l) rfl (bytes_len l) (HSRC.out _ (by repeat (first | exact Only.refl _ _ | refine Only.drewN ?_ _ | refine Only.drew ?_ | refine Only.alloc ?_ _ | refine Only.setCell ?_ (fun h => by first | (simp at h; done) | (simp at h; omega) | omega) _))) hnil (bytes_one l) (by unfold maxLen; omega) (by omega) ?_; intro A' c' w' hsl' hon' hrow'; have hblk' := hon'.keep (Only.keep (S := fun _ => False) (by repeat (first | exact Only.refl _ _ | refine Only.drewN ?_ _ | refine Only.drew ?_ | refine Only.alloc ?_ _ | refine Only.setCell ?_ (fun h => by first | (simp at h; done) | (simp at h; omega) | omega) _)) HJ.out.blk (fun h => h)) (fun hk => hne_row HJ.out hk); have e1 := blk_cell hblk' 1; have e2 := blk_cell hblk' 2; have e3 := blk_cell hblk' 3; have ef := blk_frozen hblk' 1; simp only [jobCells, List.getElem?_toArray, List.getElem?_cons_zero, List.getElem?_cons_succ] at e1 e2 e3; rw [HS.out] at e2; clear hblk')
  all_goals
    go_wp2
    go_ret
    exact ⟨rfl, app_end H.out HE.out HM.out (by repeat (first | exact Only.refl _ _ | refine Only.drewN ?_ _ | refine Only.drew ?_ | refine Only.alloc ?_ _ | refine Only.setCell ?_ (fun h => by first | (simp at h; done) | (simp at h; omega) | omega) _)) hon' hsl' hrow' hr⟩
theorem append_at {w : World} {D : DMem} {d : Desk} (h : DeskAt w D d) (id : Int) (B : Option Addr) (c : Nat) (l : List UInt8) (hll : l.length ≤ maxLen) (hsrc : ∀ W, Quiet w W → Src W B (bytes l)) (hnil : B = none → l.length = 0) :
    Calls Try.prog 12 #[.pointer (some ⟨D.p, 0, none⟩), .int .i64 id, .slice B l.length c] w fun x w' => x = .returned (.int .i64 (appendF d id l).1) ∧ ∃ D', DeskAt w' D' (appendF d id l).2 ∧ DStep w w' D D' := by
  unfold appendF
  cases hf : findJ id d.js with
  | none =>
    refine (append_none h id B _ c hf).mono ?_
    rintro x w' ⟨rfl, hq⟩
    exact ⟨rfl, D, h.quiet hq, DStep.refl D hq⟩
  | some i =>
    obtain ⟨e, he, rfl⟩ := findJ_some hf
    simp only [he]
    by_cases hs : e.2.state = 0
    · rw [if_neg (by omega)]
      by_cases hr : 1048576 - (e.2.bytes.length : Int) < l.length
      · rw [if_pos hr]
        refine (append_big h hf he B c l hll hs hr).mono ?_
        rintro x w' ⟨rfl, hq⟩
        exact ⟨rfl, D, h.quiet hq, DStep.refl D hq⟩
      · rw [if_neg hr]
        exact append_ok h hf he B c l hll hs (by omega) hsrc hnil
    · rw [if_pos hs]
      refine (append_shut h hf he B c l hll hs).mono ?_
      rintro x w' ⟨rfl, hq⟩
      exact ⟨rfl, D, h.quiet hq, DStep.refl D hq⟩
set_option maxHeartbeats 2000000 in
theorem end_shut {w : World} {D : DMem} {d : Desk} (h : DeskAt w D d) {i : Nat} {e : Nat × Job} (hf : findJ (e.1 : Int) d.js = some i) (he : d.js[i]? = some e) (whole : Bool) (hs : e.2.state ≠ 0) :
    Calls Try.prog 10 #[.pointer (some ⟨D.p, 0, none⟩), .int .i64 (e.1 : Int), .bool whole] w fun x w' => x = .returned (.int .i64 16) ∧ Quiet w w' := by
  have hp : e.2.part ≠ 0 := fun q => hs (h.free he q)
  have hp0 : w.cell? ⟨D.p, 0, none⟩ = some (.map (some D.nm)) := blk_cell h.desk 0
  have hp1 : w.cell? ⟨D.p, 1, none⟩ = some (.map (some D.jm)) := blk_cell h.desk 1
  have hps := lt_of_heap h.desk
  have g1 : D.p < w.heap.size + 1 := by omega
  have g2 : D.p < w.heap.size + 1 + 1 := by omega
  have g3 : D.p < w.heap.size + 1 + 1 + 1 := by omega
  have g4 : D.p < w.heap.size + 1 + 1 + 1 + 1 := by omega
  obtain ⟨m, hm, hj⟩ := h.there he
  have hl : ∀ o0 o1, (Instr.lookup 46 (.map (some D.jm)) (.int .i64 (e.1 : Int)) false).run Try.prog ((w.alloc o0).alloc o1) = .ok (ptr m.blk) ((w.alloc o0).alloc o1) := fun o0 o1 => look_job_some (h.quiet (((Only.refl (fun _ => False) w).alloc o0).alloc o1)) hf hm
  unfold ptr at hl
  have hj1 : w.cell? ⟨m.blk, 1, none⟩ = some (.slice m.A e.2.bytes.length m.c) := blk_cell hj.blk 1
  have hj2 : w.cell? ⟨m.blk, 2, none⟩ = some (.int .i64 (e.2.state : Nat)) := blk_cell hj.blk 2
  have hj3 : w.cell? ⟨m.blk, 3, none⟩ = some (.int .i64 (e.2.part : Nat)) := blk_cell hj.blk 3
  have hjs := lt_of_heap hj.blk
  have k1 : m.blk < w.heap.size + 1 := by omega
  have k2 : m.blk < w.heap.size + 1 + 1 := by omega
  have k3 : m.blk < w.heap.size + 1 + 1 + 1 := by omega
  have k4 : m.blk < w.heap.size + 1 + 1 + 1 + 1 := by omega
  have hsm := hj.small
  have ds : ((e.2.state : Int) != 0) = true := by simp; omega
  have dp : ((e.2.part : Int) == 0) = false := by simp; omega
  have H := Lib.hid h; clear h
  have HF := Lib.hid hf; clear hf
  have HE := Lib.hid he; clear he
  have HM := Lib.hid hm; clear hm
  have HJ := Lib.hid hj; clear hj
  have HS := Lib.hid hs; clear hs
  have HP := Lib.hid hp; clear hp
  go_enter Try.func10, Try.ntmps10
  go_wp2
  go_ret
  exact ⟨rfl, (by repeat (first | exact Only.refl _ _ | refine Only.drewN ?_ _ | refine Only.drew ?_ | refine Only.alloc ?_ _ | refine Only.setCell ?_ (fun h => by first | (simp at h; done) | (simp at h; omega) | omega) _))⟩
theorem end_at {w : World} {D : DMem} {d : Desk} (h : DeskAt w D d) (id : Int) (whole : Bool) :
    Calls Try.prog 10 #[.pointer (some ⟨D.p, 0, none⟩), .int .i64 id, .bool whole] w fun x w' => x = .returned (.int .i64 (endF d id whole).1) ∧ ∃ D', DeskAt w' D' (endF d id whole).2 ∧ DStep w w' D D' := by
  unfold endF
  cases hf : findJ id d.js with
  | none =>
    refine (end_none h id whole hf).mono ?_
    rintro x w' ⟨rfl, hq⟩
    exact ⟨rfl, D, h.quiet hq, DStep.refl D hq⟩
  | some i =>
    obtain ⟨e, he, rfl⟩ := findJ_some hf
    simp only [he]
    by_cases hs : e.2.state = 0
    · rw [if_neg (by omega)]
      by_cases hp : e.2.part = 0
      · cases whole with
        | true => exact end_whole_gone h hf he hs hp
        | false => exact end_lost_gone h hf he hs hp
      · cases whole with
        | true => exact end_whole_keep h hf he hs hp
        | false => exact end_lost_keep h hf he hs hp
    · rw [if_pos hs]
      refine (end_shut h hf he whole hs).mono ?_
      rintro x w' ⟨rfl, hq⟩
      exact ⟨rfl, D, h.quiet hq, DStep.refl D hq⟩
end Go.Proofs.Ytffockkdiimneaa
