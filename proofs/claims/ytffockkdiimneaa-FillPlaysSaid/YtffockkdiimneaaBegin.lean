/-
  What the program's New and Begin do. No conditions.
-/
import Derived.Test.YtffockkdiimneaaDesks2
import Derived.Deep.QuietTactic
import Derived.BigQuiet
import Derived.Lib.Hide
import Derived.Deep.RegionLaw
namespace Go.Proofs.Ytffockkdiimneaa
open Go.RowKit Go.MapKept

theorem zero3 (w : World) : (zeroValue 3).run Try.prog w = .ok (.int .i64 0) w := by kernel_rfl
theorem zero67 (w : World) : (zeroValue 67).run Try.prog w = .ok (.pointer none) w := by kernel_rfl
theorem names_key (js : List (Nat × Job)) : ∀ x ∈ nameList js, IsKey .string x.1 := by
  intro x hx
  obtain ⟨e, _, rfl⟩ := List.mem_map.1 hx
  trivial
theorem jobs_key (js : List (Nat × Job)) (ms : List JMem) : ∀ x ∈ jobList js ms, IsKey (.int .i64) x.1 := by
  intro x hx
  obtain ⟨i, hi⟩ := List.mem_iff_getElem?.1 hx
  unfold jobList at hi
  rw [List.getElem?_zipWith] at hi
  split at hi
  · obtain rfl := Option.some.inj hi; rfl
  · cases hi
theorem look_job {w : World} {D : DMem} {d : Desk} (h : DeskAt w D d) (id : Int) :
    (Instr.lookup 46 (.map (some D.jm)) (.int .i64 id) false).run Try.prog w = .ok (((findJ id d.js).bind fun i => (D.ms[i]?).map fun m => ptr m.blk).getD (.pointer none)) w := by
  have := run_lookup_k (P := Try.prog) (t := 46) (kt := 3) (et := 67) (d := .int .i64) (k := .int .i64 id) Try.underlying46 Try.underlying3 rfl (z := .pointer none) zero67 h.jobs.kmap (jobs_key _ _) false
  rw [kget_jobs id d.js D.ms h.len] at this
  exact this
theorem look_job_none {w : World} {D : DMem} {d : Desk} (h : DeskAt w D d) {id : Int} (hf : findJ id d.js = none) : (Instr.lookup 46 (.map (some D.jm)) (.int .i64 id) false).run Try.prog w = .ok (.pointer none) w := by
  rw [look_job h, hf]; rfl
theorem look_job_some {w : World} {D : DMem} {d : Desk} (h : DeskAt w D d) {id : Int} {i : Nat} {m : JMem} (hf : findJ id d.js = some i) (hm : D.ms[i]? = some m) : (Instr.lookup 46 (.map (some D.jm)) (.int .i64 id) false).run Try.prog w = .ok (ptr m.blk) w := by
  rw [look_job h, hf]; simp [hm]
theorem look_name_none {w : World} {D : DMem} {d : Desk} (h : DeskAt w D d) {name : ByteArray} (hf : findN name d.js = none) : (Instr.lookup 45 (.map (some D.nm)) (.string name) true).run Try.prog w = .ok (.tuple #[.int .i64 0, .bool false]) w := by
  have := run_lookup_k (P := Try.prog) (t := 45) (kt := 9) (et := 3) (d := .string) (k := .string name) Try.underlying45 Try.underlying9 trivial (z := .int .i64 0) zero3 h.names.kmap (names_key _) true
  rw [kget_names name d.js, hf] at this
  exact this
theorem look_name_some {w : World} {D : DMem} {d : Desk} (h : DeskAt w D d) {name : ByteArray} {i : Nat} {e : Nat × Job} (hf : findN name d.js = some i) (he : d.js[i]? = some e) : (Instr.lookup 45 (.map (some D.nm)) (.string name) true).run Try.prog w = .ok (.tuple #[.int .i64 (e.1 : Nat), .bool true]) w := by
  have := run_lookup_k (P := Try.prog) (t := 45) (kt := 9) (et := 3) (d := .string) (k := .string name) Try.underlying45 Try.underlying9 trivial (z := .int .i64 0) zero3 h.names.kmap (names_key _) true
  rw [kget_names name d.js, hf] at this
  simpa [he] using this
theorem len_jobs {w : World} {D : DMem} {d : Desk} (h : DeskAt w D d) (ty : TypeId) : (Builtin.len_ #[46] ty #[.map (some D.jm)]).run Try.prog w = .ok (.int .i64 (d.js.length : Nat)) w := by
  have := run_len_k (P := Try.prog) (t := 46) (kt := 3) (et := 67) Try.underlying46 h.jobs.kmap ty
  rw [this]
  simp [jobList, h.len]
theorem len_names {w : World} {D : DMem} {d : Desk} (h : DeskAt w D d) (ty : TypeId) : (Builtin.len_ #[45] ty #[.map (some D.nm)]).run Try.prog w = .ok (.int .i64 ((runs d.js).length : Nat)) w := by
  have := run_len_k (P := Try.prog) (t := 45) (kt := 9) (et := 3) Try.underlying45 h.names.kmap ty
  rw [this]
  simp [nameList]

set_option maxHeartbeats 1000000 in
theorem new_at (w : World) : Calls Try.prog 8 #[] w fun e w' => ∃ D : DMem, e = .returned (ptr D.p) ∧ DeskAt w' D newDesk ∧ Quiet w w' ∧ (∀ k, DOwns D k → w.heap.size ≤ k) := by
  have hmm := @run_makeMap Try.prog
  go_enter Try.func8, Try.ntmps8
  go_wp2
  go_ret
  have hjm : ((w.alloc (.map #[] 0)).alloc (.map #[] 0)).heap[w.heap.size + 1]? = some (.map #[] 0) := by simpa using blk_new (w.alloc (.map #[] 0)) (.map #[] 0)
  have hdp : (((w.alloc (.map #[] 0)).alloc (.map #[] 0)).alloc (.cells #[.map (some w.heap.size), .map (some (w.heap.size + 1)), .int .i64 0] 48)).heap[w.heap.size + 1 + 1]? = some (.cells #[.map (some w.heap.size), .map (some (w.heap.size + 1)), .int .i64 0] 48 (0, 0)) := by
    simpa using blk_new ((w.alloc (.map #[] 0)).alloc (.map #[] 0)) (.cells #[.map (some w.heap.size), .map (some (w.heap.size + 1)), .int .i64 0] 48)
  refine ⟨⟨w.heap.size + 1 + 1, w.heap.size, w.heap.size + 1, []⟩, rfl, ⟨rfl, by simp [newDesk], hdp, SMap.at_new (blk_alloc (blk_alloc (blk_new w _) _) _), SMap.at_new (blk_alloc hjm _), by simp, fun i m e hm => by simp at hm, fun i j m m' _ hm => by simp at hm, fun e he => by simp [newDesk] at he, fun e he => by simp [newDesk] at he⟩, by repeat (first | exact Only.refl _ _ | refine Only.alloc ?_ _), fun k hk => ?_⟩
  rcases hk with rfl | rfl | rfl | ⟨m, hm, _⟩
  · show w.heap.size ≤ w.heap.size + 1 + 1
    omega
  · exact Nat.le_refl _
  · show w.heap.size ≤ w.heap.size + 1
    omega
  · cases hm
set_option maxHeartbeats 1000000 in
theorem begin_big {w : World} {D : DMem} {d : Desk} (h : DeskAt w D d) (name : ByteArray) (hb : 1024 < name.size) :
    Calls Try.prog 9 #[.pointer (some ⟨D.p, 0, none⟩), .string name] w fun e w' => e = .returned (.tuple #[.int .i64 0, .bool false, .int .i64 3]) ∧ Quiet w w' := by
  have dd : decide ((1024 : Int) < (name.size : Int)) = true := by simp; omega
  have hp0 : w.cell? ⟨D.p, 0, none⟩ = some (.map (some D.nm)) := blk_cell h.desk 0
  have hp1 : w.cell? ⟨D.p, 1, none⟩ = some (.map (some D.jm)) := blk_cell h.desk 1
  have hps := lt_of_heap h.desk
  have H := Lib.hid h; clear h
  go_enter Try.func9, Try.ntmps9
  go_wp2
  exact bodyPost_ret (v := .tuple #[.int .i64 0, .bool false, .int .i64 3]) (by simp [results, Try.results9, go_sem]) rfl ⟨rfl, by repeat (first | exact Only.refl _ _ | refine Only.drewN ?_ _ | refine Only.drew ?_ | refine Only.alloc ?_ _)⟩
set_option maxHeartbeats 1000000 in
theorem begin_full {w : World} {D : DMem} {d : Desk} (h : DeskAt w D d) (name : ByteArray) (hb : ¬ 1024 < name.size) (hf : findN name d.js = none) (hl : 1024 ≤ d.js.length) :
    Calls Try.prog 9 #[.pointer (some ⟨D.p, 0, none⟩), .string name] w fun e w' => e = .returned (.tuple #[.int .i64 0, .bool false, .int .i64 14]) ∧ Quiet w w' := by
  have dd : decide ((1024 : Int) < (name.size : Int)) = false := by simp; omega
  have d2 : decide ((1024 : Int) ≤ (d.js.length : Int)) = true := by simp; omega
  have hp0 : w.cell? ⟨D.p, 0, none⟩ = some (.map (some D.nm)) := blk_cell h.desk 0
  have hp1 : w.cell? ⟨D.p, 1, none⟩ = some (.map (some D.jm)) := blk_cell h.desk 1
  have hps := lt_of_heap h.desk
  have hl1 := look_name_none h hf
  have hl2 := len_jobs h
  have H := Lib.hid h; clear h
  have HF := Lib.hid hf; clear hf
  go_enter Try.func9, Try.ntmps9
  go_wp2
  exact bodyPost_ret (v := .tuple #[.int .i64 0, .bool false, .int .i64 14]) (by simp [results, Try.results9, go_sem]) rfl ⟨rfl, by repeat (first | exact Only.refl _ _ | refine Only.drewN ?_ _ | refine Only.drew ?_ | refine Only.alloc ?_ _)⟩
set_option maxHeartbeats 1000000 in
theorem begin_found {w : World} {D : DMem} {d : Desk} (h : DeskAt w D d) (name : ByteArray) (hb : ¬ 1024 < name.size) {i : Nat} {e : Nat × Job} (hf : findN name d.js = some i) (he : d.js[i]? = some e) (hfj : findJ (e.1 : Int) d.js = some i) (hpart : e.2.part < 4611686018427387904) :
    Calls Try.prog 9 #[.pointer (some ⟨D.p, 0, none⟩), .string name] w fun x w' => x = .returned (.tuple #[.int .i64 (e.1 : Nat), .bool false, .int .i64 0]) ∧
      ∃ D', DeskAt w' D' { d with js := upd d.js i fun j => { j with part := j.part + 1 } } ∧ DStep w w' D D' := by
  have dd : decide ((1024 : Int) < (name.size : Int)) = false := by simp; omega
  have hp0 : w.cell? ⟨D.p, 0, none⟩ = some (.map (some D.nm)) := blk_cell h.desk 0
  have hp1 : w.cell? ⟨D.p, 1, none⟩ = some (.map (some D.jm)) := blk_cell h.desk 1
  have hps := lt_of_heap h.desk
  have hl1 := look_name_some h hf he
  obtain ⟨m, hm, hj⟩ := h.there he
  have hl2 := look_job_some h hfj hm
  unfold ptr at hl2
  have hj3 : w.cell? ⟨m.blk, 3, none⟩ = some (.int .i64 (e.2.part : Nat)) := blk_cell hj.blk 3
  have hjf := blk_frozen hj.blk 3
  have H := Lib.hid h; clear h
  have HF := Lib.hid hf; clear hf
  have HFJ := Lib.hid hfj; clear hfj
  have HE := Lib.hid he; clear he
  have HM := Lib.hid hm; clear hm
  have HJ := Lib.hid hj; clear hj
  go_enter Try.func9, Try.ntmps9
  go_wp2
  have hset : Only (fun k => JOwns m k ∨ k = D.nm) w (w.setCell ⟨m.blk, 3, none⟩ (.int .i64 ((e.2.part : Int) + 1))) := Only.setCell (S := fun k => JOwns m k ∨ k = D.nm) (p := ⟨m.blk, 3, none⟩) (Only.refl _ _) (fun _ => .inl (.inl rfl)) _
  have hset1 : Only (· = m.blk) w (w.setCell ⟨m.blk, 3, none⟩ (.int .i64 ((e.2.part : Int) + 1))) := Only.setCell (S := (· = m.blk)) (p := ⟨m.blk, 3, none⟩) (Only.refl _ _) (fun _ => rfl) _
  have hblk := blk_set HJ.out.blk 3 (.int .i64 ((e.2.part : Int) + 1))
  obtain ⟨s1, s2⟩ := H.out.change (m' := m) (j := { e.2 with part := e.2.part + 1 }) HM.out HE.out ⟨by simpa [jobCells] using hblk, HJ.out.sl.only hset1 (fun k hk q => by
      obtain ⟨cur, hc⟩ := HJ.out.sl.type hk
      subst q
      exact blk_ne hc HJ.out.blk (by decide) rfl), HJ.out.small⟩ rfl (by
      rw [nameList_set { e.2 with part := e.2.part + 1 } HE.out rfl rfl]
      exact H.out.names.only hset1 (fun q => (H.out.job_ne (List.mem_of_getElem? HM.out) (.inl rfl)).2.1 q.symm)) hset (fun k hk => .inl hk) (by simp)
  rw [upd_set HE.out]
  exact bodyPost_ret (v := .tuple #[.int .i64 (e.1 : Nat), .bool false, .int .i64 0]) (by simp [results, Try.results9, go_sem]) rfl ⟨rfl, _, s1, s2⟩
end Go.Proofs.Ytffockkdiimneaa
