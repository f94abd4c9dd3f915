/-
  THE STATEMENT TaskNobody, its walk: worlds that no call made have no tasks. No conditions.
-/
import Derived.Test.YtgdjbmfpbihopaaRows
import Derived.Test.YtgdjbmfpbihopaaArgs
namespace Go.Proofs.Ytgdjbmfpbihopaa
open Go.RowKit Go.MapKept

abbrev Quiet (w w' : World) : Prop := Only (fun _ => False) w w'
/-- A world that no call made: nil, or an empty one. -/
def Nobody (w : World) (b : Value) : Prop := b = .pointer none ∨ ∃ p, b = .pointer (some ⟨p, 0, none⟩) ∧ w.heap[p]? = some (.cells #[.bool false, .int .i64 0, .map none, .slice none 0 0, .slice none 0 0, .slice none 0 0] 29 (0, 0))
theorem Nobody.quiet {w w' : World} {b : Value} (h : Nobody w b) (ho : Quiet w w') : Nobody w' b := by
  rcases h with rfl | ⟨p, rfl, hp⟩
  · exact .inl rfl
  · exact .inr ⟨p, rfl, ho.keep hp (fun x => x)⟩
theorem zero3 (w : World) : (zeroValue 3).run Try.prog w = .ok (.int .i64 0) w := by kernel_rfl
theorem look_empty (w : World) (k : Int) : (Instr.lookup 24 (.map (some w.heap.size)) (.int .i64 k) false).run Try.prog (w.alloc (.map #[] 0)) = .ok (.int .i64 0) (w.alloc (.map #[] 0)) := by
  have := run_lookup_k (P := Try.prog) (t := 24) (kt := 3) (et := 3) (d := .int .i64) (k := .int .i64 k) Try.underlying24 Try.underlying3 rfl (z := .int .i64 0) zero3 (KMap.new w) (by simp) false
  simpa [kget] using this
set_option maxHeartbeats 400000 in
theorem start_nobody (b : Value) (A : Option Addr) (n c : Nat) (w : World) (h : Nobody w b) : Calls Try.prog 9 #[b, .slice A n c] w fun e w' => e = .returned (.tuple #[.int .i64 0, .int .i64 1]) ∧ Quiet w w' := by
  rcases h with rfl | ⟨p, rfl, hp⟩
  · skip
    go_enter Try.func9, Try.ntmps9
    go_wp2
    go_ret2
    exact ⟨rfl, (by repeat (first | exact Only.refl _ _ | refine Only.drewN ?_ _ | refine Only.drew ?_ | refine Only.alloc ?_ _ | refine Only.setCell ?_ (fun h => by simp at h) _))⟩
  · have hc0 : w.cell? ⟨p, 0, none⟩ = some (.bool false) := blk_cell hp 0
    have hc1 : w.cell? ⟨p, 1, none⟩ = some (.int .i64 0) := blk_cell hp 1
    have hc2 : w.cell? ⟨p, 2, none⟩ = some (.map none) := blk_cell hp 2
    have hc3 : w.cell? ⟨p, 3, none⟩ = some (.slice none 0 0) := blk_cell hp 3
    have hc4 : w.cell? ⟨p, 4, none⟩ = some (.slice none 0 0) := blk_cell hp 4
    have hc5 : w.cell? ⟨p, 5, none⟩ = some (.slice none 0 0) := blk_cell hp 5
    have hs := lt_of_heap hp
    have hs1 : p < w.heap.size + 1 := by omega
    have hs2 : p < w.heap.size + 1 + 1 := by omega
    clear hp
    go_enter Try.func9, Try.ntmps9
    go_wp2
    go_ret2
    exact ⟨rfl, (by repeat (first | exact Only.refl _ _ | refine Only.drewN ?_ _ | refine Only.drew ?_ | refine Only.alloc ?_ _ | refine Only.setCell ?_ (fun h => by simp at h) _))⟩
set_option maxHeartbeats 400000 in
theorem step_nobody (b : Value)  (w : World) (h : Nobody w b) : Calls Try.prog 10 #[b, .int .i64 0] w fun e w' => e = .returned (.tuple #[.int .i64 0, .int .i64 1]) ∧ Quiet w w' := by
  rcases h with rfl | ⟨p, rfl, hp⟩
  · skip
    go_enter Try.func10, Try.ntmps10
    go_wp2
    go_ret2
    exact ⟨rfl, (by repeat (first | exact Only.refl _ _ | refine Only.drewN ?_ _ | refine Only.drew ?_ | refine Only.alloc ?_ _ | refine Only.setCell ?_ (fun h => by simp at h) _))⟩
  · have hc0 : w.cell? ⟨p, 0, none⟩ = some (.bool false) := blk_cell hp 0
    have hc1 : w.cell? ⟨p, 1, none⟩ = some (.int .i64 0) := blk_cell hp 1
    have hc2 : w.cell? ⟨p, 2, none⟩ = some (.map none) := blk_cell hp 2
    have hc3 : w.cell? ⟨p, 3, none⟩ = some (.slice none 0 0) := blk_cell hp 3
    have hc4 : w.cell? ⟨p, 4, none⟩ = some (.slice none 0 0) := blk_cell hp 4
    have hc5 : w.cell? ⟨p, 5, none⟩ = some (.slice none 0 0) := blk_cell hp 5
    have hs := lt_of_heap hp
    have hs1 : p < w.heap.size + 1 := by omega
    have hs2 : p < w.heap.size + 1 + 1 := by omega
    clear hp
    go_enter Try.func10, Try.ntmps10
    go_wp2
    go_ret2
    exact ⟨rfl, (by repeat (first | exact Only.refl _ _ | refine Only.drewN ?_ _ | refine Only.drew ?_ | refine Only.alloc ?_ _ | refine Only.setCell ?_ (fun h => by simp at h) _))⟩
set_option maxHeartbeats 400000 in
theorem state_nobody (b : Value)  (w : World) (h : Nobody w b) : Calls Try.prog 11 #[b, .int .i64 0] w fun e w' => e = .returned (.int .i64 0) ∧ Quiet w w' := by
  rcases h with rfl | ⟨p, rfl, hp⟩
  · skip
    go_enter Try.func11, Try.ntmps11
    go_wp2
    go_ret
    exact ⟨rfl, (by repeat (first | exact Only.refl _ _ | refine Only.drewN ?_ _ | refine Only.drew ?_ | refine Only.alloc ?_ _ | refine Only.setCell ?_ (fun h => by simp at h) _))⟩
  · have hc0 : w.cell? ⟨p, 0, none⟩ = some (.bool false) := blk_cell hp 0
    have hc1 : w.cell? ⟨p, 1, none⟩ = some (.int .i64 0) := blk_cell hp 1
    have hc2 : w.cell? ⟨p, 2, none⟩ = some (.map none) := blk_cell hp 2
    have hc3 : w.cell? ⟨p, 3, none⟩ = some (.slice none 0 0) := blk_cell hp 3
    have hc4 : w.cell? ⟨p, 4, none⟩ = some (.slice none 0 0) := blk_cell hp 4
    have hc5 : w.cell? ⟨p, 5, none⟩ = some (.slice none 0 0) := blk_cell hp 5
    have hs := lt_of_heap hp
    have hs1 : p < w.heap.size + 1 := by omega
    have hs2 : p < w.heap.size + 1 + 1 := by omega
    clear hp
    go_enter Try.func11, Try.ntmps11
    go_wp2
    go_ret
    exact ⟨rfl, (by repeat (first | exact Only.refl _ _ | refine Only.drewN ?_ _ | refine Only.drew ?_ | refine Only.alloc ?_ _ | refine Only.setCell ?_ (fun h => by simp at h) _))⟩
set_option maxHeartbeats 400000 in
theorem has_nobody (b : Value)  (w : World) (h : Nobody w b) : Calls Try.prog 12 #[b, .int .i64 0] w fun e w' => e = .returned (.int .i64 0) ∧ Quiet w w' := by
  rcases h with rfl | ⟨p, rfl, hp⟩
  · skip
    go_enter Try.func12, Try.ntmps12
    go_wp2
    go_ret
    exact ⟨rfl, (by repeat (first | exact Only.refl _ _ | refine Only.drewN ?_ _ | refine Only.drew ?_ | refine Only.alloc ?_ _ | refine Only.setCell ?_ (fun h => by simp at h) _))⟩
  · have hc0 : w.cell? ⟨p, 0, none⟩ = some (.bool false) := blk_cell hp 0
    have hc1 : w.cell? ⟨p, 1, none⟩ = some (.int .i64 0) := blk_cell hp 1
    have hc2 : w.cell? ⟨p, 2, none⟩ = some (.map none) := blk_cell hp 2
    have hc3 : w.cell? ⟨p, 3, none⟩ = some (.slice none 0 0) := blk_cell hp 3
    have hc4 : w.cell? ⟨p, 4, none⟩ = some (.slice none 0 0) := blk_cell hp 4
    have hc5 : w.cell? ⟨p, 5, none⟩ = some (.slice none 0 0) := blk_cell hp 5
    have hs := lt_of_heap hp
    have hs1 : p < w.heap.size + 1 := by omega
    have hs2 : p < w.heap.size + 1 + 1 := by omega
    clear hp
    go_enter Try.func12, Try.ntmps12
    go_wp2
    go_ret
    exact ⟨rfl, (by repeat (first | exact Only.refl _ _ | refine Only.drewN ?_ _ | refine Only.drew ?_ | refine Only.alloc ?_ _ | refine Only.setCell ?_ (fun h => by simp at h) _))⟩
set_option maxHeartbeats 400000 in
theorem word_nobody (b : Value)  (w : World) (h : Nobody w b) : Calls Try.prog 13 #[b, .int .i64 0] w fun e w' => e = .returned (.int .i64 0) ∧ Quiet w w' := by
  rcases h with rfl | ⟨p, rfl, hp⟩
  · skip
    go_enter Try.func13, Try.ntmps13
    go_wp2
    go_ret
    exact ⟨rfl, (by repeat (first | exact Only.refl _ _ | refine Only.drewN ?_ _ | refine Only.drew ?_ | refine Only.alloc ?_ _ | refine Only.setCell ?_ (fun h => by simp at h) _))⟩
  · have hc0 : w.cell? ⟨p, 0, none⟩ = some (.bool false) := blk_cell hp 0
    have hc1 : w.cell? ⟨p, 1, none⟩ = some (.int .i64 0) := blk_cell hp 1
    have hc2 : w.cell? ⟨p, 2, none⟩ = some (.map none) := blk_cell hp 2
    have hc3 : w.cell? ⟨p, 3, none⟩ = some (.slice none 0 0) := blk_cell hp 3
    have hc4 : w.cell? ⟨p, 4, none⟩ = some (.slice none 0 0) := blk_cell hp 4
    have hc5 : w.cell? ⟨p, 5, none⟩ = some (.slice none 0 0) := blk_cell hp 5
    have hs := lt_of_heap hp
    have hs1 : p < w.heap.size + 1 := by omega
    have hs2 : p < w.heap.size + 1 + 1 := by omega
    clear hp
    go_enter Try.func13, Try.ntmps13
    go_wp2
    go_ret
    exact ⟨rfl, (by repeat (first | exact Only.refl _ _ | refine Only.drewN ?_ _ | refine Only.drew ?_ | refine Only.alloc ?_ _ | refine Only.setCell ?_ (fun h => by simp at h) _))⟩
set_option maxHeartbeats 400000 in
theorem stuck_nobody (b : Value)  (w : World) (h : Nobody w b) : Calls Try.prog 14 #[b] w fun e w' => e = .returned (.bool false) ∧ Quiet w w' := by
  rcases h with rfl | ⟨p, rfl, hp⟩
  · skip
    have hmm := @run_makeMap Try.prog
    have hle := fun k => look_empty w k
    go_enter Try.func14, Try.ntmps14
    go_wp2
    go_ret
    exact ⟨rfl, (by repeat (first | exact Only.refl _ _ | refine Only.drewN ?_ _ | refine Only.drew ?_ | refine Only.alloc ?_ _ | refine Only.setCell ?_ (fun h => by simp at h) _))⟩
  · have hc0 : w.cell? ⟨p, 0, none⟩ = some (.bool false) := blk_cell hp 0
    have hc1 : w.cell? ⟨p, 1, none⟩ = some (.int .i64 0) := blk_cell hp 1
    have hc2 : w.cell? ⟨p, 2, none⟩ = some (.map none) := blk_cell hp 2
    have hc3 : w.cell? ⟨p, 3, none⟩ = some (.slice none 0 0) := blk_cell hp 3
    have hc4 : w.cell? ⟨p, 4, none⟩ = some (.slice none 0 0) := blk_cell hp 4
    have hc5 : w.cell? ⟨p, 5, none⟩ = some (.slice none 0 0) := blk_cell hp 5
    have hs := lt_of_heap hp
    have hs1 : p < w.heap.size + 1 := by omega
    have hs2 : p < w.heap.size + 1 + 1 := by omega
    clear hp
    have hmm := @run_makeMap Try.prog
    have hle := fun k => look_empty w k
    go_enter Try.func14, Try.ntmps14
    go_wp2
    go_ret
    exact ⟨rfl, (by repeat (first | exact Only.refl _ _ | refine Only.drewN ?_ _ | refine Only.drew ?_ | refine Only.alloc ?_ _ | refine Only.setCell ?_ (fun h => by simp at h) _))⟩

set_option maxRecDepth 100000 in
set_option maxHeartbeats 1000000 in
theorem nobody_walk (w : World) (A : Option Addr) (n c : Nat) : Calls Try.prog 3 #[.slice A n c] w fun e w' => e = .returned (.bool true) ∧ Quiet w w' := by
  go_enter Try.func3, Try.ntmps3
  go_wp2
  go_loopw [2, 4, 13] (fun _ _ i wr => ∃ j : Nat, j ≤ 2 ∧ i = .int .i64 j ∧ Quiet ((w.alloc (.cells #[.bool false, .int .i64 0, .map none, .slice none 0 0, .slice none 0 0, .slice none 0 0] 29)).alloc (.cells #[.pointer none, .pointer (some ⟨w.heap.size, 0, none⟩)] 23)) wr) (fun _ _ i _ => 2 - (intOf i).toNat)
  case atStart => exact ⟨0, by omega, rfl, Only.refl _ _⟩
  case round =>
    obtain ⟨j, hj, rfl, ho⟩ := hrel
    have h0 : wr.heap[w.heap.size]? = some (.cells #[.bool false, .int .i64 0, .map none, .slice none 0 0, .slice none 0 0, .slice none 0 0] 29 (0, 0)) := ho.keep (blk_alloc (blk_new w _) _) (fun x => x)
    have h1 : wr.heap[w.heap.size + 1]? = some (.cells #[.pointer none, .pointer (some ⟨w.heap.size, 0, none⟩)] 23 (0, 0)) := ho.keep (by simpa using blk_new (w.alloc (.cells #[.bool false, .int .i64 0, .map none, .slice none 0 0, .slice none 0 0, .slice none 0 0] 29)) (.cells #[.pointer none, .pointer (some ⟨w.heap.size, 0, none⟩)] 23)) (fun x => x)
    have c0 : wr.cell? ⟨w.heap.size + 1, 0, none⟩ = some (.pointer none) := blk_cell h1 0
    have c1 : wr.cell? ⟨w.heap.size + 1, 1, none⟩ = some (.pointer (some ⟨w.heap.size, 0, none⟩)) := blk_cell h1 1
    have HO := Lib.hid ho
    clear ho h1
    rcases (show j = 0 ∨ j = 1 ∨ j = 2 by omega) with rfl | rfl | rfl
    · have N0 := Lib.hid (show Nobody wr (.pointer none) from .inl rfl)
      clear h0
      go_wp2_with (first | (go_at_call 9; refine (start_nobody _ _ _ _ _ N0.out).mono ?_; rintro e w1 ⟨rfl, ho1⟩; have N1 := Lib.hid (N0.out.quiet ho1)) | (go_at_call 10; refine (step_nobody _  _ N1.out).mono ?_; rintro e w2 ⟨rfl, ho2⟩; have N2 := Lib.hid (N1.out.quiet ho2)) | (go_at_call 11; refine (state_nobody _  _ N2.out).mono ?_; rintro e w3 ⟨rfl, ho3⟩; have N3 := Lib.hid (N2.out.quiet ho3)) | (go_at_call 12; refine (has_nobody _  _ N3.out).mono ?_; rintro e w4 ⟨rfl, ho4⟩; have N4 := Lib.hid (N3.out.quiet ho4)) | (go_at_call 13; refine (word_nobody _  _ N4.out).mono ?_; rintro e w5 ⟨rfl, ho5⟩; have N5 := Lib.hid (N4.out.quiet ho5)) | (go_at_call 14; refine (stuck_nobody _  _ N5.out).mono ?_; rintro e w6 ⟨rfl, ho6⟩; have N6 := Lib.hid (N5.out.quiet ho6)))
      go_roundw
      case rel => exact ⟨1, by omega, by go_num, ((((((HO.out.trans ho1).trans ho2).trans ho3).trans ho4).trans ho5).trans ho6)⟩
      case measure => simp [intOf]
    · have N0 := Lib.hid (show Nobody wr (.pointer (some ⟨w.heap.size, 0, none⟩)) from .inr ⟨_, rfl, h0⟩)
      clear h0
      go_wp2_with (first | (go_at_call 9; refine (start_nobody _ _ _ _ _ N0.out).mono ?_; rintro e w1 ⟨rfl, ho1⟩; have N1 := Lib.hid (N0.out.quiet ho1)) | (go_at_call 10; refine (step_nobody _  _ N1.out).mono ?_; rintro e w2 ⟨rfl, ho2⟩; have N2 := Lib.hid (N1.out.quiet ho2)) | (go_at_call 11; refine (state_nobody _  _ N2.out).mono ?_; rintro e w3 ⟨rfl, ho3⟩; have N3 := Lib.hid (N2.out.quiet ho3)) | (go_at_call 12; refine (has_nobody _  _ N3.out).mono ?_; rintro e w4 ⟨rfl, ho4⟩; have N4 := Lib.hid (N3.out.quiet ho4)) | (go_at_call 13; refine (word_nobody _  _ N4.out).mono ?_; rintro e w5 ⟨rfl, ho5⟩; have N5 := Lib.hid (N4.out.quiet ho5)) | (go_at_call 14; refine (stuck_nobody _  _ N5.out).mono ?_; rintro e w6 ⟨rfl, ho6⟩; have N6 := Lib.hid (N5.out.quiet ho6)))
      go_roundw
      case rel => exact ⟨2, by omega, by go_num, ((((((HO.out.trans ho1).trans ho2).trans ho3).trans ho4).trans ho5).trans ho6)⟩
      case measure => simp [intOf]
    · go_wp2
      go_ret
      exact ⟨rfl, ((((Only.refl _ w).alloc _).alloc _).trans HO.out)⟩
theorem tr_nothing {H : Type} {enc : TypeId × Value → H} {w : World} {v : Value} (h : Tr enc Try.prog w 22 [v]) :
    ∃ A n c l, v = .slice A n c ∧ n ≤ c ∧ c ≤ maxLen ∧ (A = none → n = 0 ∧ c = 0) ∧ (l = ()) ∧ True := by
  obtain ⟨A, n, c, h1, h2, h3, h4, _⟩ := open_arr Try.underlying22 (size := 3) (by kernel_rfl) (by omega) h
  exact ⟨A, n, c, (), h1, h2, h3, h4, rfl, trivial⟩
theorem nobody_law (w : World) (A : Option Addr) (n c : Nat) (l : Unit) (_ : n ≤ c) (_ : c ≤ maxLen) (_ : A = none → n = 0 ∧ c = 0) (_ : l = ()) (_ : True) :
    Calls Try.prog 3 #[.slice A n c] w fun e w' => e = .returned (.bool true) ∧ Below w.heap.size w w' :=
  (nobody_walk w A n c).mono fun _ _ ⟨he, ho⟩ => ⟨he, ho.below (Nat.le_refl _) (fun _ x => x.elim)⟩
end Go.Proofs.Ytgdjbmfpbihopaa
