/-
  What the program's calls do at a number that no fill has; Part and Running. No conditions.
-/
import Derived.Test.YtffockkdiimneaaBeginAt
import Derived.Deep.QuietTactic
import Derived.BigQuiet
import Derived.Lib.Hide
import Derived.Deep.RegionLaw
namespace Go.Proofs.Ytffockkdiimneaa
open Go.RowKit Go.MapKept
set_option linter.unusedVariables false
set_option linter.unusedSimpArgs false

set_option maxHeartbeats 1000000 in
theorem append_none {w : World} {D : DMem} {d : Desk} (h : DeskAt w D d) (id : Int) (B : Option Addr) (m c : Nat) (hf : findJ id d.js = none) :
    Calls Try.prog 12 #[.pointer (some ⟨D.p, 0, none⟩), .int .i64 id, .slice B m c] w fun x w' => x = .returned (.int .i64 12) ∧ Quiet w w' := by
  have hp0 : w.cell? ⟨D.p, 0, none⟩ = some (.map (some D.nm)) := blk_cell h.desk 0
  have hp1 : w.cell? ⟨D.p, 1, none⟩ = some (.map (some D.jm)) := blk_cell h.desk 1
  have hps := lt_of_heap h.desk
  have g1 : D.p < w.heap.size + 1 := by omega
  have g2 : D.p < w.heap.size + 1 + 1 := by omega
  have g3 : D.p < w.heap.size + 1 + 1 + 1 := by omega
  have g4 : D.p < w.heap.size + 1 + 1 + 1 + 1 := by omega
  have hl : ∀ o0, (Instr.lookup 46 (.map (some D.jm)) (.int .i64 id) false).run Try.prog (w.alloc o0) = .ok (.pointer none) (w.alloc o0) := fun o0 => look_job_none (h.quiet ((Only.refl (fun _ => False) w).alloc o0)) hf
  have H := Lib.hid h; clear h
  have HF := Lib.hid hf; clear hf
  go_enter Try.func12, Try.ntmps12
  go_wp2
  go_ret
  exact ⟨rfl, (by repeat (first | exact Only.refl _ _ | refine Only.drewN ?_ _ | refine Only.drew ?_ | refine Only.alloc ?_ _ | refine Only.setCell ?_ (fun h => by first | (simp at h; done) | (simp at h; omega) | omega) _))⟩
set_option maxHeartbeats 1000000 in
theorem end_none {w : World} {D : DMem} {d : Desk} (h : DeskAt w D d) (id : Int) (whole : Bool) (hf : findJ id d.js = none) :
    Calls Try.prog 10 #[.pointer (some ⟨D.p, 0, none⟩), .int .i64 id, .bool whole] w fun x w' => x = .returned (.int .i64 12) ∧ Quiet w w' := by
  have hp0 : w.cell? ⟨D.p, 0, none⟩ = some (.map (some D.nm)) := blk_cell h.desk 0
  have hp1 : w.cell? ⟨D.p, 1, none⟩ = some (.map (some D.jm)) := blk_cell h.desk 1
  have hps := lt_of_heap h.desk
  have g1 : D.p < w.heap.size + 1 := by omega
  have g2 : D.p < w.heap.size + 1 + 1 := by omega
  have g3 : D.p < w.heap.size + 1 + 1 + 1 := by omega
  have g4 : D.p < w.heap.size + 1 + 1 + 1 + 1 := by omega
  have hl : ∀ o0 o1, (Instr.lookup 46 (.map (some D.jm)) (.int .i64 id) false).run Try.prog ((w.alloc o0).alloc o1) = .ok (.pointer none) ((w.alloc o0).alloc o1) := fun o0 o1 => look_job_none (h.quiet (((Only.refl (fun _ => False) w).alloc o0).alloc o1)) hf
  have H := Lib.hid h; clear h
  have HF := Lib.hid hf; clear hf
  go_enter Try.func10, Try.ntmps10
  go_wp2
  go_ret
  exact ⟨rfl, (by repeat (first | exact Only.refl _ _ | refine Only.drewN ?_ _ | refine Only.drew ?_ | refine Only.alloc ?_ _ | refine Only.setCell ?_ (fun h => by first | (simp at h; done) | (simp at h; omega) | omega) _))⟩
set_option maxHeartbeats 1000000 in
theorem leave_none {w : World} {D : DMem} {d : Desk} (h : DeskAt w D d) (id : Int) (hf : findJ id d.js = none) :
    Calls Try.prog 16 #[.pointer (some ⟨D.p, 0, none⟩), .int .i64 id] w fun x w' => x = .returned (.int .i64 12) ∧ Quiet w w' := by
  have hp0 : w.cell? ⟨D.p, 0, none⟩ = some (.map (some D.nm)) := blk_cell h.desk 0
  have hp1 : w.cell? ⟨D.p, 1, none⟩ = some (.map (some D.jm)) := blk_cell h.desk 1
  have hps := lt_of_heap h.desk
  have g1 : D.p < w.heap.size + 1 := by omega
  have g2 : D.p < w.heap.size + 1 + 1 := by omega
  have g3 : D.p < w.heap.size + 1 + 1 + 1 := by omega
  have g4 : D.p < w.heap.size + 1 + 1 + 1 + 1 := by omega
  have hl := look_job_none h hf
  have H := Lib.hid h; clear h
  have HF := Lib.hid hf; clear hf
  go_enter Try.func16, Try.ntmps16
  go_wp2
  go_ret
  exact ⟨rfl, (by repeat (first | exact Only.refl _ _ | refine Only.drewN ?_ _ | refine Only.drew ?_ | refine Only.alloc ?_ _ | refine Only.setCell ?_ (fun h => by first | (simp at h; done) | (simp at h; omega) | omega) _))⟩
set_option maxHeartbeats 1000000 in
theorem read_none {w : World} {D : DMem} {d : Desk} (h : DeskAt w D d) (id : Int) (a n : Int) (hf : findJ id d.js = none) :
    Calls Try.prog 14 #[.pointer (some ⟨D.p, 0, none⟩), .int .i64 id, .int .i64 a, .int .i64 n] w fun x w' => x = .returned (.tuple #[.slice none 0 0, .int .i64 0, .int .i64 12]) ∧ Quiet w w' := by
  have hp0 : w.cell? ⟨D.p, 0, none⟩ = some (.map (some D.nm)) := blk_cell h.desk 0
  have hp1 : w.cell? ⟨D.p, 1, none⟩ = some (.map (some D.jm)) := blk_cell h.desk 1
  have hps := lt_of_heap h.desk
  have g1 : D.p < w.heap.size + 1 := by omega
  have g2 : D.p < w.heap.size + 1 + 1 := by omega
  have g3 : D.p < w.heap.size + 1 + 1 + 1 := by omega
  have g4 : D.p < w.heap.size + 1 + 1 + 1 + 1 := by omega
  have hl : ∀ o0 o1 o2 o3, (Instr.lookup 46 (.map (some D.jm)) (.int .i64 id) false).run Try.prog ((((w.alloc o0).alloc o1).alloc o2).alloc o3) = .ok (.pointer none) ((((w.alloc o0).alloc o1).alloc o2).alloc o3) := fun o0 o1 o2 o3 => look_job_none (h.quiet (((((Only.refl (fun _ => False) w).alloc o0).alloc o1).alloc o2).alloc o3)) hf
  have H := Lib.hid h; clear h
  have HF := Lib.hid hf; clear hf
  go_enter Try.func14, Try.ntmps14
  go_wp2
  go_region
  all_goals go_wp2
  all_goals exact bodyPost_ret (v := .tuple #[.slice none 0 0, .int .i64 0, .int .i64 12]) (by simp [results, Try.results14, go_sem]) rfl ⟨rfl, (by repeat (first | exact Only.refl _ _ | refine Only.drewN ?_ _ | refine Only.drew ?_ | refine Only.alloc ?_ _ | refine Only.setCell ?_ (fun h => by first | (simp at h; done) | (simp at h; omega) | omega) _))⟩
set_option maxHeartbeats 1000000 in
theorem part_none {w : World} {D : DMem} {d : Desk} (h : DeskAt w D d) (id : Int) (hf : findJ id d.js = none) :
    Calls Try.prog 13 #[.pointer (some ⟨D.p, 0, none⟩), .int .i64 id] w fun x w' => x = .returned (.int .i64 0) ∧ Quiet w w' := by
  have hp0 : w.cell? ⟨D.p, 0, none⟩ = some (.map (some D.nm)) := blk_cell h.desk 0
  have hp1 : w.cell? ⟨D.p, 1, none⟩ = some (.map (some D.jm)) := blk_cell h.desk 1
  have hps := lt_of_heap h.desk
  have g1 : D.p < w.heap.size + 1 := by omega
  have g2 : D.p < w.heap.size + 1 + 1 := by omega
  have g3 : D.p < w.heap.size + 1 + 1 + 1 := by omega
  have g4 : D.p < w.heap.size + 1 + 1 + 1 + 1 := by omega
  have hl := look_job_none h hf
  have H := Lib.hid h; clear h
  have HF := Lib.hid hf; clear hf
  go_enter Try.func13, Try.ntmps13
  go_wp2
  go_ret
  exact ⟨rfl, (by repeat (first | exact Only.refl _ _ | refine Only.drewN ?_ _ | refine Only.drew ?_ | refine Only.alloc ?_ _ | refine Only.setCell ?_ (fun h => by first | (simp at h; done) | (simp at h; omega) | omega) _))⟩
set_option maxHeartbeats 1000000 in
theorem part_some {w : World} {D : DMem} {d : Desk} (h : DeskAt w D d) (id : Int) {i : Nat} {e : Nat × Job} (hf : findJ id d.js = some i) (he : d.js[i]? = some e) :
    Calls Try.prog 13 #[.pointer (some ⟨D.p, 0, none⟩), .int .i64 id] w fun x w' => x = .returned (.int .i64 (e.2.part : Nat)) ∧ Quiet w w' := by
  have hp0 : w.cell? ⟨D.p, 0, none⟩ = some (.map (some D.nm)) := blk_cell h.desk 0
  have hp1 : w.cell? ⟨D.p, 1, none⟩ = some (.map (some D.jm)) := blk_cell h.desk 1
  have hps := lt_of_heap h.desk
  have g1 : D.p < w.heap.size + 1 := by omega
  have g2 : D.p < w.heap.size + 1 + 1 := by omega
  have g3 : D.p < w.heap.size + 1 + 1 + 1 := by omega
  have g4 : D.p < w.heap.size + 1 + 1 + 1 + 1 := by omega
  obtain ⟨m, hm, hj⟩ := h.there he
  have hl := look_job_some h hf hm
  unfold ptr at hl
  have hj3 : w.cell? ⟨m.blk, 3, none⟩ = some (.int .i64 (e.2.part : Nat)) := blk_cell hj.blk 3
  have H := Lib.hid h; clear h
  have HF := Lib.hid hf; clear hf
  have HE := Lib.hid he; clear he
  have HM := Lib.hid hm; clear hm
  have HJ := Lib.hid hj; clear hj
  go_enter Try.func13, Try.ntmps13
  go_wp2
  go_ret
  exact ⟨rfl, (by repeat (first | exact Only.refl _ _ | refine Only.drewN ?_ _ | refine Only.drew ?_ | refine Only.alloc ?_ _ | refine Only.setCell ?_ (fun h => by first | (simp at h; done) | (simp at h; omega) | omega) _))⟩
theorem part_at {w : World} {D : DMem} {d : Desk} (h : DeskAt w D d) (id : Int) :
    Calls Try.prog 13 #[.pointer (some ⟨D.p, 0, none⟩), .int .i64 id] w fun x w' => x = .returned (.int .i64 (partF d id)) ∧ Quiet w w' := by
  unfold partF
  cases hf : findJ id d.js with
  | none => exact part_none h id hf
  | some i =>
    obtain ⟨e, he, _⟩ := findJ_some hf
    simp only [he, Option.map_some, Option.getD_some]
    exact part_some h id hf he
set_option maxHeartbeats 1000000 in
theorem running_at {w : World} {D : DMem} {d : Desk} (h : DeskAt w D d) :
    Calls Try.prog 11 #[.pointer (some ⟨D.p, 0, none⟩)] w fun x w' => x = .returned (.int .i64 (runningF d)) ∧ Quiet w w' := by
  have hp0 : w.cell? ⟨D.p, 0, none⟩ = some (.map (some D.nm)) := blk_cell h.desk 0
  have hp1 : w.cell? ⟨D.p, 1, none⟩ = some (.map (some D.jm)) := blk_cell h.desk 1
  have hps := lt_of_heap h.desk
  have g1 : D.p < w.heap.size + 1 := by omega
  have g2 : D.p < w.heap.size + 1 + 1 := by omega
  have g3 : D.p < w.heap.size + 1 + 1 + 1 := by omega
  have g4 : D.p < w.heap.size + 1 + 1 + 1 + 1 := by omega
  have hl := len_names h
  have H := Lib.hid h; clear h
  go_enter Try.func11, Try.ntmps11
  go_wp2
  go_ret
  exact ⟨rfl, (by repeat (first | exact Only.refl _ _ | refine Only.drewN ?_ _ | refine Only.drew ?_ | refine Only.alloc ?_ _ | refine Only.setCell ?_ (fun h => by first | (simp at h; done) | (simp at h; omega) | omega) _))⟩
end Go.Proofs.Ytffockkdiimneaa
