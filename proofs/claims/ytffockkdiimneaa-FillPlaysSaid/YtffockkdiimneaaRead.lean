/-
  What the program's Read does at a known number. No conditions.
-/
import Derived.Test.YtffockkdiimneaaSome
import Derived.Test.YtffockkdiimneaaBts
namespace Go.Proofs.Ytffockkdiimneaa
open Go.RowKit Go.MapKept
set_option linter.unusedVariables false
set_option linter.unusedSimpArgs false

set_option maxHeartbeats 2000000 in
theorem read_neg {w : World} {D : DMem} {d : Desk} (h : DeskAt w D d) {i : Nat} {e : Nat × Job} (hf : findJ (e.1 : Int) d.js = some i) (he : d.js[i]? = some e) (a n : Int) (ha : a < 0) :
    Calls Try.prog 14 #[.pointer (some ⟨D.p, 0, none⟩), .int .i64 (e.1 : Int), .int .i64 a, .int .i64 n] w fun x w' => x = .returned (.tuple #[.slice none 0 0, .int .i64 0, .int .i64 2]) ∧ Quiet w w' := by
  have hkept := h.kept e (List.mem_of_getElem? he)
  have hp0 : w.cell? ⟨D.p, 0, none⟩ = some (.map (some D.nm)) := blk_cell h.desk 0
  have hp1 : w.cell? ⟨D.p, 1, none⟩ = some (.map (some D.jm)) := blk_cell h.desk 1
  have hps := lt_of_heap h.desk
  have g1 : D.p < w.heap.size + 1 := by omega
  have g2 : D.p < w.heap.size + 1 + 1 := by omega
  have g3 : D.p < w.heap.size + 1 + 1 + 1 := by omega
  have g4 : D.p < w.heap.size + 1 + 1 + 1 + 1 := by omega
  obtain ⟨m, hm, hj⟩ := h.there he
  have hl : ∀ o0 o1 o2 o3, (Instr.lookup 46 (.map (some D.jm)) (.int .i64 (e.1 : Int)) false).run Try.prog ((((w.alloc o0).alloc o1).alloc o2).alloc o3) = .ok (ptr m.blk) ((((w.alloc o0).alloc o1).alloc o2).alloc o3) := fun o0 o1 o2 o3 => look_job_some (h.quiet (((((Only.refl (fun _ => False) w).alloc o0).alloc o1).alloc o2).alloc o3)) hf hm
  unfold ptr at hl
  have hj1 : w.cell? ⟨m.blk, 1, none⟩ = some (.slice m.A e.2.bytes.length m.c) := blk_cell hj.blk 1
  have hj2 : w.cell? ⟨m.blk, 2, none⟩ = some (.int .i64 (e.2.state : Nat)) := blk_cell hj.blk 2
  have hj3 : w.cell? ⟨m.blk, 3, none⟩ = some (.int .i64 (e.2.part : Nat)) := blk_cell hj.blk 3
  have hjs := lt_of_heap hj.blk
  have k1 : m.blk < w.heap.size + 1 := by omega
  have k2 : m.blk < w.heap.size + 1 + 1 := by omega
  have k3 : m.blk < w.heap.size + 1 + 1 + 1 := by omega
  have k4 : m.blk < w.heap.size + 1 + 1 + 1 + 1 := by omega
  have hsm := hj.small
  have dk : (((e.2.state : Int) != 0) = false) ∨ (((e.2.state : Int) != 0) = true ∧ ((e.2.part : Int) == 0) = false) := by
    by_cases q : e.2.state = 0
    · exact .inl (by simp [q])
    · exact .inr ⟨by simp; omega, by simp; omega⟩
  clear hkept
  have H := Lib.hid h; clear h
  have HF := Lib.hid hf; clear hf
  have HE := Lib.hid he; clear he
  have HM := Lib.hid hm; clear hm
  have HJ := Lib.hid hj; clear hj
  rcases dk with ds | ⟨ds, dp⟩
  all_goals
    go_enter Try.func14, Try.ntmps14
    go_wp2
    go_quiet (fail)
    go_wp2
    go_region
    all_goals
      go_wp2
      exact bodyPost_ret (v := .tuple #[.slice none 0 0, .int .i64 0, .int .i64 2]) (by simp [results, Try.results14, go_sem]) rfl ⟨rfl, (by repeat (first | exact Only.refl _ _ | refine Only.drewN ?_ _ | refine Only.drew ?_ | refine Only.alloc ?_ _ | refine Only.setCell ?_ (fun h => by first | (simp at h; done) | (simp at h; omega) | omega) _))⟩
set_option maxHeartbeats 2000000 in
theorem read_negn {w : World} {D : DMem} {d : Desk} (h : DeskAt w D d) {i : Nat} {e : Nat × Job} (hf : findJ (e.1 : Int) d.js = some i) (he : d.js[i]? = some e) (a n : Int) (ha : 0 ≤ a) (hn : n < 0) :
    Calls Try.prog 14 #[.pointer (some ⟨D.p, 0, none⟩), .int .i64 (e.1 : Int), .int .i64 a, .int .i64 n] w fun x w' => x = .returned (.tuple #[.slice none 0 0, .int .i64 0, .int .i64 2]) ∧ Quiet w w' := by
  have hkept := h.kept e (List.mem_of_getElem? he)
  have hp0 : w.cell? ⟨D.p, 0, none⟩ = some (.map (some D.nm)) := blk_cell h.desk 0
  have hp1 : w.cell? ⟨D.p, 1, none⟩ = some (.map (some D.jm)) := blk_cell h.desk 1
  have hps := lt_of_heap h.desk
  have g1 : D.p < w.heap.size + 1 := by omega
  have g2 : D.p < w.heap.size + 1 + 1 := by omega
  have g3 : D.p < w.heap.size + 1 + 1 + 1 := by omega
  have g4 : D.p < w.heap.size + 1 + 1 + 1 + 1 := by omega
  obtain ⟨m, hm, hj⟩ := h.there he
  have hl : ∀ o0 o1 o2 o3, (Instr.lookup 46 (.map (some D.jm)) (.int .i64 (e.1 : Int)) false).run Try.prog ((((w.alloc o0).alloc o1).alloc o2).alloc o3) = .ok (ptr m.blk) ((((w.alloc o0).alloc o1).alloc o2).alloc o3) := fun o0 o1 o2 o3 => look_job_some (h.quiet (((((Only.refl (fun _ => False) w).alloc o0).alloc o1).alloc o2).alloc o3)) hf hm
  unfold ptr at hl
  have hj1 : w.cell? ⟨m.blk, 1, none⟩ = some (.slice m.A e.2.bytes.length m.c) := blk_cell hj.blk 1
  have hj2 : w.cell? ⟨m.blk, 2, none⟩ = some (.int .i64 (e.2.state : Nat)) := blk_cell hj.blk 2
  have hj3 : w.cell? ⟨m.blk, 3, none⟩ = some (.int .i64 (e.2.part : Nat)) := blk_cell hj.blk 3
  have hjs := lt_of_heap hj.blk
  have k1 : m.blk < w.heap.size + 1 := by omega
  have k2 : m.blk < w.heap.size + 1 + 1 := by omega
  have k3 : m.blk < w.heap.size + 1 + 1 + 1 := by omega
  have k4 : m.blk < w.heap.size + 1 + 1 + 1 + 1 := by omega
  have hsm := hj.small
  have dk : (((e.2.state : Int) != 0) = false) ∨ (((e.2.state : Int) != 0) = true ∧ ((e.2.part : Int) == 0) = false) := by
    by_cases q : e.2.state = 0
    · exact .inl (by simp [q])
    · exact .inr ⟨by simp; omega, by simp; omega⟩
  clear hkept
  have H := Lib.hid h; clear h
  have HF := Lib.hid hf; clear hf
  have HE := Lib.hid he; clear he
  have HM := Lib.hid hm; clear hm
  have HJ := Lib.hid hj; clear hj
  rcases dk with ds | ⟨ds, dp⟩
  all_goals
    go_enter Try.func14, Try.ntmps14
    go_wp2
    go_quiet (fail)
    go_wp2
    go_region
    all_goals
      go_wp2
      exact bodyPost_ret (v := .tuple #[.slice none 0 0, .int .i64 0, .int .i64 2]) (by simp [results, Try.results14, go_sem]) rfl ⟨rfl, (by repeat (first | exact Only.refl _ _ | refine Only.drewN ?_ _ | refine Only.drew ?_ | refine Only.alloc ?_ _ | refine Only.setCell ?_ (fun h => by first | (simp at h; done) | (simp at h; omega) | omega) _))⟩
set_option maxHeartbeats 2000000 in
theorem read_far {w : World} {D : DMem} {d : Desk} (h : DeskAt w D d) {i : Nat} {e : Nat × Job} (hf : findJ (e.1 : Int) d.js = some i) (he : d.js[i]? = some e) (a n : Int) (ha : 0 ≤ a) (hn : 0 ≤ n) (hf2 : (e.2.bytes.length : Int) < a) :
    Calls Try.prog 14 #[.pointer (some ⟨D.p, 0, none⟩), .int .i64 (e.1 : Int), .int .i64 a, .int .i64 n] w fun x w' => x = .returned (.tuple #[.slice none 0 0, .int .i64 0, .int .i64 2]) ∧ Quiet w w' := by
  have hkept := h.kept e (List.mem_of_getElem? he)
  have hp0 : w.cell? ⟨D.p, 0, none⟩ = some (.map (some D.nm)) := blk_cell h.desk 0
  have hp1 : w.cell? ⟨D.p, 1, none⟩ = some (.map (some D.jm)) := blk_cell h.desk 1
  have hps := lt_of_heap h.desk
  have g1 : D.p < w.heap.size + 1 := by omega
  have g2 : D.p < w.heap.size + 1 + 1 := by omega
  have g3 : D.p < w.heap.size + 1 + 1 + 1 := by omega
  have g4 : D.p < w.heap.size + 1 + 1 + 1 + 1 := by omega
  obtain ⟨m, hm, hj⟩ := h.there he
  have hl : ∀ o0 o1 o2 o3, (Instr.lookup 46 (.map (some D.jm)) (.int .i64 (e.1 : Int)) false).run Try.prog ((((w.alloc o0).alloc o1).alloc o2).alloc o3) = .ok (ptr m.blk) ((((w.alloc o0).alloc o1).alloc o2).alloc o3) := fun o0 o1 o2 o3 => look_job_some (h.quiet (((((Only.refl (fun _ => False) w).alloc o0).alloc o1).alloc o2).alloc o3)) hf hm
  unfold ptr at hl
  have hj1 : w.cell? ⟨m.blk, 1, none⟩ = some (.slice m.A e.2.bytes.length m.c) := blk_cell hj.blk 1
  have hj2 : w.cell? ⟨m.blk, 2, none⟩ = some (.int .i64 (e.2.state : Nat)) := blk_cell hj.blk 2
  have hj3 : w.cell? ⟨m.blk, 3, none⟩ = some (.int .i64 (e.2.part : Nat)) := blk_cell hj.blk 3
  have hjs := lt_of_heap hj.blk
  have k1 : m.blk < w.heap.size + 1 := by omega
  have k2 : m.blk < w.heap.size + 1 + 1 := by omega
  have k3 : m.blk < w.heap.size + 1 + 1 + 1 := by omega
  have k4 : m.blk < w.heap.size + 1 + 1 + 1 + 1 := by omega
  have hsm := hj.small
  have dk : (((e.2.state : Int) != 0) = false) ∨ (((e.2.state : Int) != 0) = true ∧ ((e.2.part : Int) == 0) = false) := by
    by_cases q : e.2.state = 0
    · exact .inl (by simp [q])
    · exact .inr ⟨by simp; omega, by simp; omega⟩
  clear hkept
  have H := Lib.hid h; clear h
  have HF := Lib.hid hf; clear hf
  have HE := Lib.hid he; clear he
  have HM := Lib.hid hm; clear hm
  have HJ := Lib.hid hj; clear hj
  rcases dk with ds | ⟨ds, dp⟩
  all_goals
    go_enter Try.func14, Try.ntmps14
    go_wp2
    go_quiet (fail)
    go_wp2
    go_region
    all_goals
      go_wp2
      exact bodyPost_ret (v := .tuple #[.slice none 0 0, .int .i64 0, .int .i64 2]) (by simp [results, Try.results14, go_sem]) rfl ⟨rfl, (by repeat (first | exact Only.refl _ _ | refine Only.drewN ?_ _ | refine Only.drew ?_ | refine Only.alloc ?_ _ | refine Only.setCell ?_ (fun h => by first | (simp at h; done) | (simp at h; omega) | omega) _))⟩
end Go.Proofs.Ytffockkdiimneaa
