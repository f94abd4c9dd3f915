/-
  THE STATEMENT FillNobody, its walk: desks that no call made have no fills. No conditions.
-/
import Derived.Test.YtffockkdiimneaaRows
import Derived.Test.YtffockkdiimneaaArgs
namespace Go.Proofs.Ytffockkdiimneaa
open Go.RowKit

@[go_sem] theorem eq46 (w : World) (r : Option Nat) : (binOp .eql 46 (.map r) (.map none)).run Try.prog w = .ok (.bool r.isNone) w := run_eql_map_nil w 46 3 67 r Try.underlying46
abbrev Quiet (w w' : World) : Prop := Only (fun _ => False) w w'
/-- A desk that no call made: nil, or an empty one. -/
def Nobody (w : World) (b : Value) : Prop := b = .pointer none ∨ ∃ p, b = .pointer (some ⟨p, 0, none⟩) ∧ w.heap[p]? = some (.cells #[.map none, .map none, .int .i64 0] 48 (0, 0))
theorem Nobody.quiet {w w' : World} {b : Value} (h : Nobody w b) (ho : Quiet w w') : Nobody w' b := by
  rcases h with rfl | ⟨p, rfl, hp⟩
  · exact .inl rfl
  · exact .inr ⟨p, rfl, ho.keep hp (fun x => x)⟩
set_option maxHeartbeats 400000 in
theorem begin_nobody (b : Value) (s : ByteArray) (w : World) (h : Nobody w b) : Calls Try.prog 9 #[b, .string s] w fun e w' => e = .returned (.tuple #[.int .i64 0, .bool false, .int .i64 1]) ∧ Quiet w w' := by
  rcases h with rfl | ⟨p, rfl, hp⟩
  · go_enter Try.func9, Try.ntmps9
    go_wp2
    go_ret3
    exact ⟨rfl, (by repeat (first | exact Only.refl _ _ | refine Only.drewN ?_ _ | refine Only.drew ?_ | refine Only.alloc ?_ _ | refine Only.setCell ?_ (fun h => by simp at h) _))⟩
  · have hc0 : w.cell? ⟨p, 0, none⟩ = some (.map none) := blk_cell hp 0
    have hc1 : w.cell? ⟨p, 1, none⟩ = some (.map none) := blk_cell hp 1
    have hs := lt_of_heap hp
    have hs1 : p < w.heap.size + 1 := by omega
    have hs2 : p < w.heap.size + 1 + 1 := by omega
    have hs3 : p < w.heap.size + 1 + 1 + 1 := by omega
    clear hp
    go_enter Try.func9, Try.ntmps9
    go_wp2
    go_ret3
    exact ⟨rfl, (by repeat (first | exact Only.refl _ _ | refine Only.drewN ?_ _ | refine Only.drew ?_ | refine Only.alloc ?_ _ | refine Only.setCell ?_ (fun h => by simp at h) _))⟩
set_option maxHeartbeats 400000 in
theorem read_nobody (b : Value)  (w : World) (h : Nobody w b) : Calls Try.prog 14 #[b, .int .i64 1, .int .i64 0, .int .i64 1] w fun e w' => e = .returned (.tuple #[.slice none 0 0, .int .i64 0, .int .i64 1]) ∧ Quiet w w' := by
  rcases h with rfl | ⟨p, rfl, hp⟩
  · go_enter Try.func14, Try.ntmps14
    go_wp2
    go_region
    all_goals
      go_wp2
      exact bodyPost_ret (v := .tuple #[.slice none 0 0, .int .i64 0, .int .i64 1]) (by simp [results, Try.results14, go_sem]) rfl ⟨rfl, (by repeat (first | exact Only.refl _ _ | refine Only.drewN ?_ _ | refine Only.drew ?_ | refine Only.alloc ?_ _ | refine Only.setCell ?_ (fun h => by simp at h) _))⟩
  · have hc0 : w.cell? ⟨p, 0, none⟩ = some (.map none) := blk_cell hp 0
    have hc1 : w.cell? ⟨p, 1, none⟩ = some (.map none) := blk_cell hp 1
    have hs := lt_of_heap hp
    have hs1 : p < w.heap.size + 1 := by omega
    have hs2 : p < w.heap.size + 1 + 1 := by omega
    have hs3 : p < w.heap.size + 1 + 1 + 1 := by omega
    clear hp
    go_enter Try.func14, Try.ntmps14
    go_wp2
    go_region
    all_goals
      go_wp2
      exact bodyPost_ret (v := .tuple #[.slice none 0 0, .int .i64 0, .int .i64 1]) (by simp [results, Try.results14, go_sem]) rfl ⟨rfl, (by repeat (first | exact Only.refl _ _ | refine Only.drewN ?_ _ | refine Only.drew ?_ | refine Only.alloc ?_ _ | refine Only.setCell ?_ (fun h => by simp at h) _))⟩
set_option maxHeartbeats 400000 in
theorem append_nobody (b : Value)  (w : World) (h : Nobody w b) : Calls Try.prog 12 #[b, .int .i64 1, .slice none 0 0] w fun e w' => e = .returned (.int .i64 1) ∧ Quiet w w' := by
  rcases h with rfl | ⟨p, rfl, hp⟩
  · go_enter Try.func12, Try.ntmps12
    go_wp2
    go_ret
    exact ⟨rfl, (by repeat (first | exact Only.refl _ _ | refine Only.drewN ?_ _ | refine Only.drew ?_ | refine Only.alloc ?_ _ | refine Only.setCell ?_ (fun h => by simp at h) _))⟩
  · have hc0 : w.cell? ⟨p, 0, none⟩ = some (.map none) := blk_cell hp 0
    have hc1 : w.cell? ⟨p, 1, none⟩ = some (.map none) := blk_cell hp 1
    have hs := lt_of_heap hp
    have hs1 : p < w.heap.size + 1 := by omega
    have hs2 : p < w.heap.size + 1 + 1 := by omega
    have hs3 : p < w.heap.size + 1 + 1 + 1 := by omega
    clear hp
    go_enter Try.func12, Try.ntmps12
    go_wp2
    go_ret
    exact ⟨rfl, (by repeat (first | exact Only.refl _ _ | refine Only.drewN ?_ _ | refine Only.drew ?_ | refine Only.alloc ?_ _ | refine Only.setCell ?_ (fun h => by simp at h) _))⟩
set_option maxHeartbeats 400000 in
theorem end_nobody (b : Value)  (w : World) (h : Nobody w b) : Calls Try.prog 10 #[b, .int .i64 1, .bool true] w fun e w' => e = .returned (.int .i64 1) ∧ Quiet w w' := by
  rcases h with rfl | ⟨p, rfl, hp⟩
  · go_enter Try.func10, Try.ntmps10
    go_wp2
    go_ret
    exact ⟨rfl, (by repeat (first | exact Only.refl _ _ | refine Only.drewN ?_ _ | refine Only.drew ?_ | refine Only.alloc ?_ _ | refine Only.setCell ?_ (fun h => by simp at h) _))⟩
  · have hc0 : w.cell? ⟨p, 0, none⟩ = some (.map none) := blk_cell hp 0
    have hc1 : w.cell? ⟨p, 1, none⟩ = some (.map none) := blk_cell hp 1
    have hs := lt_of_heap hp
    have hs1 : p < w.heap.size + 1 := by omega
    have hs2 : p < w.heap.size + 1 + 1 := by omega
    have hs3 : p < w.heap.size + 1 + 1 + 1 := by omega
    clear hp
    go_enter Try.func10, Try.ntmps10
    go_wp2
    go_ret
    exact ⟨rfl, (by repeat (first | exact Only.refl _ _ | refine Only.drewN ?_ _ | refine Only.drew ?_ | refine Only.alloc ?_ _ | refine Only.setCell ?_ (fun h => by simp at h) _))⟩
set_option maxHeartbeats 400000 in
theorem leave_nobody (b : Value)  (w : World) (h : Nobody w b) : Calls Try.prog 16 #[b, .int .i64 1] w fun e w' => e = .returned (.int .i64 1) ∧ Quiet w w' := by
  rcases h with rfl | ⟨p, rfl, hp⟩
  · go_enter Try.func16, Try.ntmps16
    go_wp2
    go_ret
    exact ⟨rfl, (by repeat (first | exact Only.refl _ _ | refine Only.drewN ?_ _ | refine Only.drew ?_ | refine Only.alloc ?_ _ | refine Only.setCell ?_ (fun h => by simp at h) _))⟩
  · have hc0 : w.cell? ⟨p, 0, none⟩ = some (.map none) := blk_cell hp 0
    have hc1 : w.cell? ⟨p, 1, none⟩ = some (.map none) := blk_cell hp 1
    have hs := lt_of_heap hp
    have hs1 : p < w.heap.size + 1 := by omega
    have hs2 : p < w.heap.size + 1 + 1 := by omega
    have hs3 : p < w.heap.size + 1 + 1 + 1 := by omega
    clear hp
    go_enter Try.func16, Try.ntmps16
    go_wp2
    go_ret
    exact ⟨rfl, (by repeat (first | exact Only.refl _ _ | refine Only.drewN ?_ _ | refine Only.drew ?_ | refine Only.alloc ?_ _ | refine Only.setCell ?_ (fun h => by simp at h) _))⟩
set_option maxHeartbeats 400000 in
theorem part_nobody (b : Value)  (w : World) (h : Nobody w b) : Calls Try.prog 13 #[b, .int .i64 1] w fun e w' => e = .returned (.int .i64 0) ∧ Quiet w w' := by
  rcases h with rfl | ⟨p, rfl, hp⟩
  · go_enter Try.func13, Try.ntmps13
    go_wp2
    go_ret
    exact ⟨rfl, (by repeat (first | exact Only.refl _ _ | refine Only.drewN ?_ _ | refine Only.drew ?_ | refine Only.alloc ?_ _ | refine Only.setCell ?_ (fun h => by simp at h) _))⟩
  · have hc0 : w.cell? ⟨p, 0, none⟩ = some (.map none) := blk_cell hp 0
    have hc1 : w.cell? ⟨p, 1, none⟩ = some (.map none) := blk_cell hp 1
    have hs := lt_of_heap hp
    have hs1 : p < w.heap.size + 1 := by omega
    have hs2 : p < w.heap.size + 1 + 1 := by omega
    have hs3 : p < w.heap.size + 1 + 1 + 1 := by omega
    clear hp
    go_enter Try.func13, Try.ntmps13
    go_wp2
    go_ret
    exact ⟨rfl, (by repeat (first | exact Only.refl _ _ | refine Only.drewN ?_ _ | refine Only.drew ?_ | refine Only.alloc ?_ _ | refine Only.setCell ?_ (fun h => by simp at h) _))⟩
set_option maxHeartbeats 400000 in
theorem running_nobody (b : Value)  (w : World) (h : Nobody w b) : Calls Try.prog 11 #[b] w fun e w' => e = .returned (.int .i64 0) ∧ Quiet w w' := by
  rcases h with rfl | ⟨p, rfl, hp⟩
  · go_enter Try.func11, Try.ntmps11
    go_wp2
    go_ret
    exact ⟨rfl, (by repeat (first | exact Only.refl _ _ | refine Only.drewN ?_ _ | refine Only.drew ?_ | refine Only.alloc ?_ _ | refine Only.setCell ?_ (fun h => by simp at h) _))⟩
  · have hc0 : w.cell? ⟨p, 0, none⟩ = some (.map none) := blk_cell hp 0
    have hc1 : w.cell? ⟨p, 1, none⟩ = some (.map none) := blk_cell hp 1
    have hs := lt_of_heap hp
    have hs1 : p < w.heap.size + 1 := by omega
    have hs2 : p < w.heap.size + 1 + 1 := by omega
    have hs3 : p < w.heap.size + 1 + 1 + 1 := by omega
    clear hp
    go_enter Try.func11, Try.ntmps11
    go_wp2
    go_ret
    exact ⟨rfl, (by repeat (first | exact Only.refl _ _ | refine Only.drewN ?_ _ | refine Only.drew ?_ | refine Only.alloc ?_ _ | refine Only.setCell ?_ (fun h => by simp at h) _))⟩

set_option maxRecDepth 100000 in
set_option maxHeartbeats 1000000 in
theorem nobody_walk (w : World) (s : ByteArray) : Calls Try.prog 6 #[.string s] w fun e w' => e = .returned (.bool true) ∧ Quiet w w' := by
  go_enter Try.func6, Try.ntmps6
  go_wp2
  go_loopw [2, 4, 15] (fun _ _ i wr => ∃ j : Nat, j ≤ 2 ∧ i = .int .i64 j ∧ Quiet ((w.alloc (.cells #[.map none, .map none, .int .i64 0] 48)).alloc (.cells #[.pointer none, .pointer (some ⟨w.heap.size, 0, none⟩)] 24)) wr) (fun _ _ i _ => 2 - (intOf i).toNat)
  case atStart => exact ⟨0, by omega, rfl, Only.refl _ _⟩
  case round =>
    obtain ⟨j, hj, rfl, ho⟩ := hrel
    have h0 : wr.heap[w.heap.size]? = some (.cells #[.map none, .map none, .int .i64 0] 48 (0, 0)) := ho.keep (blk_alloc (blk_new w _) _) (fun x => x)
    have h1 : wr.heap[w.heap.size + 1]? = some (.cells #[.pointer none, .pointer (some ⟨w.heap.size, 0, none⟩)] 24 (0, 0)) := ho.keep (by simpa using blk_new (w.alloc (.cells #[.map none, .map none, .int .i64 0] 48)) (.cells #[.pointer none, .pointer (some ⟨w.heap.size, 0, none⟩)] 24)) (fun x => x)
    have c0 : wr.cell? ⟨w.heap.size + 1, 0, none⟩ = some (.pointer none) := blk_cell h1 0
    have c1 : wr.cell? ⟨w.heap.size + 1, 1, none⟩ = some (.pointer (some ⟨w.heap.size, 0, none⟩)) := blk_cell h1 1
    have HO := Lib.hid ho
    clear ho h1
    rcases (show j = 0 ∨ j = 1 ∨ j = 2 by omega) with rfl | rfl | rfl
    · have N0 := Lib.hid (show Nobody wr (.pointer none) from .inl rfl)
      clear h0
      go_wp2_with (first | (go_at_call 9; refine (begin_nobody _ _ _ N0.out).mono ?_; rintro e w1 ⟨rfl, ho1⟩; have N1 := Lib.hid (N0.out.quiet ho1)) | (go_at_call 14; refine (read_nobody _  _ N1.out).mono ?_; rintro e w2 ⟨rfl, ho2⟩; have N2 := Lib.hid (N1.out.quiet ho2)) | (go_at_call 12; refine (append_nobody _  _ N2.out).mono ?_; rintro e w3 ⟨rfl, ho3⟩; have N3 := Lib.hid (N2.out.quiet ho3)) | (go_at_call 10; refine (end_nobody _  _ N3.out).mono ?_; rintro e w4 ⟨rfl, ho4⟩; have N4 := Lib.hid (N3.out.quiet ho4)) | (go_at_call 16; refine (leave_nobody _  _ N4.out).mono ?_; rintro e w5 ⟨rfl, ho5⟩; have N5 := Lib.hid (N4.out.quiet ho5)) | (go_at_call 13; refine (part_nobody _  _ N5.out).mono ?_; rintro e w6 ⟨rfl, ho6⟩; have N6 := Lib.hid (N5.out.quiet ho6)) | (go_at_call 11; refine (running_nobody _  _ N6.out).mono ?_; rintro e w7 ⟨rfl, ho7⟩; have N7 := Lib.hid (N6.out.quiet ho7)))
      go_roundw
      case rel => exact ⟨1, by omega, by go_num, (((((((HO.out.trans ho1).trans ho2).trans ho3).trans ho4).trans ho5).trans ho6).trans ho7)⟩
      case measure => simp [intOf]
    · have N0 := Lib.hid (show Nobody wr (.pointer (some ⟨w.heap.size, 0, none⟩)) from .inr ⟨_, rfl, h0⟩)
      clear h0
      go_wp2_with (first | (go_at_call 9; refine (begin_nobody _ _ _ N0.out).mono ?_; rintro e w1 ⟨rfl, ho1⟩; have N1 := Lib.hid (N0.out.quiet ho1)) | (go_at_call 14; refine (read_nobody _  _ N1.out).mono ?_; rintro e w2 ⟨rfl, ho2⟩; have N2 := Lib.hid (N1.out.quiet ho2)) | (go_at_call 12; refine (append_nobody _  _ N2.out).mono ?_; rintro e w3 ⟨rfl, ho3⟩; have N3 := Lib.hid (N2.out.quiet ho3)) | (go_at_call 10; refine (end_nobody _  _ N3.out).mono ?_; rintro e w4 ⟨rfl, ho4⟩; have N4 := Lib.hid (N3.out.quiet ho4)) | (go_at_call 16; refine (leave_nobody _  _ N4.out).mono ?_; rintro e w5 ⟨rfl, ho5⟩; have N5 := Lib.hid (N4.out.quiet ho5)) | (go_at_call 13; refine (part_nobody _  _ N5.out).mono ?_; rintro e w6 ⟨rfl, ho6⟩; have N6 := Lib.hid (N5.out.quiet ho6)) | (go_at_call 11; refine (running_nobody _  _ N6.out).mono ?_; rintro e w7 ⟨rfl, ho7⟩; have N7 := Lib.hid (N6.out.quiet ho7)))
      go_roundw
      case rel => exact ⟨2, by omega, by go_num, (((((((HO.out.trans ho1).trans ho2).trans ho3).trans ho4).trans ho5).trans ho6).trans ho7)⟩
      case measure => simp [intOf]
    · go_wp2
      go_ret
      exact ⟨rfl, ((((Only.refl _ w).alloc _).alloc _).trans HO.out)⟩
theorem nobody_law (w : World) (s : ByteArray) (_ : s.size ≤ maxLen) :
    Calls Try.prog 6 #[.string s] w fun e w' => e = .returned (.bool true) ∧ Below w.heap.size w w' :=
  (nobody_walk w s).mono fun _ _ ⟨he, ho⟩ => ⟨he, ho.below (Nat.le_refl _) (fun _ x => x.elim)⟩
end Go.Proofs.Ytffockkdiimneaa
