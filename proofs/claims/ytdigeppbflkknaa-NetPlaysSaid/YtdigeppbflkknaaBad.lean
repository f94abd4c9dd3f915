/-
  What each call does to a net that lies in memory, at a place where no wire is. No conditions.
-/
import Derived.Test.YtdigeppbflkknaaWords
import Derived.Deep.QuietTactic
import Derived.BigQuiet
import Derived.Lib.Hide
import Derived.Deep.RegionLaw
namespace Go.Proofs.Ytdigeppbflkknaa
open Go.RowKit

set_option maxHeartbeats 1000000 in
theorem send_bad1 (p n ca : Nat) (A : Option Addr) (w : World) (hp : w.heap[p]? = some (.cells #[.bool true, .slice A n ca] 26 (0, 0))) (k side : Int) (B : Option Addr) (l c : Nat) (d1 : decide (k < 1) = true) :
    Calls Try.prog 9 #[.pointer (some ⟨p, 0, none⟩), .int .i64 k, .int .i64 side, .slice B l c] w fun e w' => e = .returned (.int .i64 2) ∧ Quiet w w' := by
  have hp0 : w.cell? ⟨p, 0, none⟩ = some (.bool true) := blk_cell hp 0
  have hp1 : w.cell? ⟨p, 1, none⟩ = some (.slice A n ca) := blk_cell hp 1
  have hps := lt_of_heap hp
  have HP := Lib.hid hp; clear hp
  have p1 : p < w.heap.size + 1 := by omega
  have p2 : p < w.heap.size + 1 + 1 := by omega
  have p3 : p < w.heap.size + 1 + 1 + 1 := by omega
  go_enter Try.func9, Try.ntmps9
  go_wp2
  go_ret
  exact ⟨rfl, (by repeat (first | exact Only.refl _ _ | refine Only.drewN ?_ _ | refine Only.drew ?_ | refine Only.alloc ?_ _ | refine Only.setCell ?_ (fun h => by first | (simp at h; done) | (simp at h; omega) | omega) _))⟩
set_option maxHeartbeats 1000000 in
theorem send_bad2 (p n ca : Nat) (A : Option Addr) (w : World) (hp : w.heap[p]? = some (.cells #[.bool true, .slice A n ca] 26 (0, 0))) (k side : Int) (B : Option Addr) (l c : Nat) (d1 : decide (k < 1) = false) (d2 : decide ((n : Int) < k) = true) :
    Calls Try.prog 9 #[.pointer (some ⟨p, 0, none⟩), .int .i64 k, .int .i64 side, .slice B l c] w fun e w' => e = .returned (.int .i64 2) ∧ Quiet w w' := by
  have hp0 : w.cell? ⟨p, 0, none⟩ = some (.bool true) := blk_cell hp 0
  have hp1 : w.cell? ⟨p, 1, none⟩ = some (.slice A n ca) := blk_cell hp 1
  have hps := lt_of_heap hp
  have HP := Lib.hid hp; clear hp
  have p1 : p < w.heap.size + 1 := by omega
  have p2 : p < w.heap.size + 1 + 1 := by omega
  have p3 : p < w.heap.size + 1 + 1 + 1 := by omega
  go_enter Try.func9, Try.ntmps9
  go_wp2
  go_ret
  exact ⟨rfl, (by repeat (first | exact Only.refl _ _ | refine Only.drewN ?_ _ | refine Only.drew ?_ | refine Only.alloc ?_ _ | refine Only.setCell ?_ (fun h => by first | (simp at h; done) | (simp at h; omega) | omega) _))⟩
set_option maxHeartbeats 1000000 in
theorem send_bad3 (p n ca : Nat) (A : Option Addr) (w : World) (hp : w.heap[p]? = some (.cells #[.bool true, .slice A n ca] 26 (0, 0))) (k side : Int) (B : Option Addr) (l c : Nat) (d1 : decide (k < 1) = false) (d2 : decide ((n : Int) < k) = false) (d3 : decide (side < 0) = true) :
    Calls Try.prog 9 #[.pointer (some ⟨p, 0, none⟩), .int .i64 k, .int .i64 side, .slice B l c] w fun e w' => e = .returned (.int .i64 2) ∧ Quiet w w' := by
  have hp0 : w.cell? ⟨p, 0, none⟩ = some (.bool true) := blk_cell hp 0
  have hp1 : w.cell? ⟨p, 1, none⟩ = some (.slice A n ca) := blk_cell hp 1
  have hps := lt_of_heap hp
  have HP := Lib.hid hp; clear hp
  have p1 : p < w.heap.size + 1 := by omega
  have p2 : p < w.heap.size + 1 + 1 := by omega
  have p3 : p < w.heap.size + 1 + 1 + 1 := by omega
  go_enter Try.func9, Try.ntmps9
  go_wp2
  go_ret
  exact ⟨rfl, (by repeat (first | exact Only.refl _ _ | refine Only.drewN ?_ _ | refine Only.drew ?_ | refine Only.alloc ?_ _ | refine Only.setCell ?_ (fun h => by first | (simp at h; done) | (simp at h; omega) | omega) _))⟩
set_option maxHeartbeats 1000000 in
theorem send_bad4 (p n ca : Nat) (A : Option Addr) (w : World) (hp : w.heap[p]? = some (.cells #[.bool true, .slice A n ca] 26 (0, 0))) (k side : Int) (B : Option Addr) (l c : Nat) (d1 : decide (k < 1) = false) (d2 : decide ((n : Int) < k) = false) (d3 : decide (side < 0) = false) (d4 : decide (1 < side) = true) :
    Calls Try.prog 9 #[.pointer (some ⟨p, 0, none⟩), .int .i64 k, .int .i64 side, .slice B l c] w fun e w' => e = .returned (.int .i64 2) ∧ Quiet w w' := by
  have hp0 : w.cell? ⟨p, 0, none⟩ = some (.bool true) := blk_cell hp 0
  have hp1 : w.cell? ⟨p, 1, none⟩ = some (.slice A n ca) := blk_cell hp 1
  have hps := lt_of_heap hp
  have HP := Lib.hid hp; clear hp
  have p1 : p < w.heap.size + 1 := by omega
  have p2 : p < w.heap.size + 1 + 1 := by omega
  have p3 : p < w.heap.size + 1 + 1 + 1 := by omega
  go_enter Try.func9, Try.ntmps9
  go_wp2
  go_ret
  exact ⟨rfl, (by repeat (first | exact Only.refl _ _ | refine Only.drewN ?_ _ | refine Only.drew ?_ | refine Only.alloc ?_ _ | refine Only.setCell ?_ (fun h => by first | (simp at h; done) | (simp at h; omega) | omega) _))⟩
theorem send_bad (p n ca : Nat) (A : Option Addr) (w : World) (hp : w.heap[p]? = some (.cells #[.bool true, .slice A n ca] 26 (0, 0))) (k side : Int) (B : Option Addr) (l c : Nat) (h : k < 1 ∨ (n : Int) < k ∨ side < 0 ∨ 1 < side) :
    Calls Try.prog 9 #[.pointer (some ⟨p, 0, none⟩), .int .i64 k, .int .i64 side, .slice B l c] w fun e w' => e = .returned (.int .i64 2) ∧ Quiet w w' := by
  by_cases h1 : k < 1
  · exact send_bad1 p n ca A w hp k side B l c (by simp [h1])
  · by_cases h2 : (n : Int) < k
    · exact send_bad2 p n ca A w hp k side B l c (by simp [h1]) (by simp [h2])
    · by_cases h3 : side < 0
      · exact send_bad3 p n ca A w hp k side B l c (by simp [h1]) (by simp [h2]) (by simp [h3])
      · exact send_bad4 p n ca A w hp k side B l c (by simp [h1]) (by simp [h2]) (by simp [h3]) (by simp; omega)
set_option maxHeartbeats 1000000 in
theorem take_bad1 (p n ca : Nat) (A : Option Addr) (w : World) (hp : w.heap[p]? = some (.cells #[.bool true, .slice A n ca] 26 (0, 0))) (k side : Int) (most : Int) (hm : decide (most < 0) = false) (d1 : decide (k < 1) = true) :
    Calls Try.prog 8 #[.pointer (some ⟨p, 0, none⟩), .int .i64 k, .int .i64 side, .int .i64 most] w fun e w' => e = .returned (.tuple #[.slice none 0 0, .int .i64 2]) ∧ Quiet w w' := by
  have hp0 : w.cell? ⟨p, 0, none⟩ = some (.bool true) := blk_cell hp 0
  have hp1 : w.cell? ⟨p, 1, none⟩ = some (.slice A n ca) := blk_cell hp 1
  have hps := lt_of_heap hp
  have HP := Lib.hid hp; clear hp
  have p1 : p < w.heap.size + 1 := by omega
  have p2 : p < w.heap.size + 1 + 1 := by omega
  have p3 : p < w.heap.size + 1 + 1 + 1 := by omega
  go_enter Try.func8, Try.ntmps8
  go_wp2
  exact bodyPost_ret (v := .tuple #[.slice none 0 0, .int .i64 2]) (by simp [results, Try.results8, go_sem]) rfl ⟨rfl, (by repeat (first | exact Only.refl _ _ | refine Only.drewN ?_ _ | refine Only.drew ?_ | refine Only.alloc ?_ _ | refine Only.setCell ?_ (fun h => by first | (simp at h; done) | (simp at h; omega) | omega) _))⟩
set_option maxHeartbeats 1000000 in
theorem take_bad2 (p n ca : Nat) (A : Option Addr) (w : World) (hp : w.heap[p]? = some (.cells #[.bool true, .slice A n ca] 26 (0, 0))) (k side : Int) (most : Int) (hm : decide (most < 0) = false) (d1 : decide (k < 1) = false) (d2 : decide ((n : Int) < k) = true) :
    Calls Try.prog 8 #[.pointer (some ⟨p, 0, none⟩), .int .i64 k, .int .i64 side, .int .i64 most] w fun e w' => e = .returned (.tuple #[.slice none 0 0, .int .i64 2]) ∧ Quiet w w' := by
  have hp0 : w.cell? ⟨p, 0, none⟩ = some (.bool true) := blk_cell hp 0
  have hp1 : w.cell? ⟨p, 1, none⟩ = some (.slice A n ca) := blk_cell hp 1
  have hps := lt_of_heap hp
  have HP := Lib.hid hp; clear hp
  have p1 : p < w.heap.size + 1 := by omega
  have p2 : p < w.heap.size + 1 + 1 := by omega
  have p3 : p < w.heap.size + 1 + 1 + 1 := by omega
  go_enter Try.func8, Try.ntmps8
  go_wp2
  exact bodyPost_ret (v := .tuple #[.slice none 0 0, .int .i64 2]) (by simp [results, Try.results8, go_sem]) rfl ⟨rfl, (by repeat (first | exact Only.refl _ _ | refine Only.drewN ?_ _ | refine Only.drew ?_ | refine Only.alloc ?_ _ | refine Only.setCell ?_ (fun h => by first | (simp at h; done) | (simp at h; omega) | omega) _))⟩
set_option maxHeartbeats 1000000 in
theorem take_bad3 (p n ca : Nat) (A : Option Addr) (w : World) (hp : w.heap[p]? = some (.cells #[.bool true, .slice A n ca] 26 (0, 0))) (k side : Int) (most : Int) (hm : decide (most < 0) = false) (d1 : decide (k < 1) = false) (d2 : decide ((n : Int) < k) = false) (d3 : decide (side < 0) = true) :
    Calls Try.prog 8 #[.pointer (some ⟨p, 0, none⟩), .int .i64 k, .int .i64 side, .int .i64 most] w fun e w' => e = .returned (.tuple #[.slice none 0 0, .int .i64 2]) ∧ Quiet w w' := by
  have hp0 : w.cell? ⟨p, 0, none⟩ = some (.bool true) := blk_cell hp 0
  have hp1 : w.cell? ⟨p, 1, none⟩ = some (.slice A n ca) := blk_cell hp 1
  have hps := lt_of_heap hp
  have HP := Lib.hid hp; clear hp
  have p1 : p < w.heap.size + 1 := by omega
  have p2 : p < w.heap.size + 1 + 1 := by omega
  have p3 : p < w.heap.size + 1 + 1 + 1 := by omega
  go_enter Try.func8, Try.ntmps8
  go_wp2
  exact bodyPost_ret (v := .tuple #[.slice none 0 0, .int .i64 2]) (by simp [results, Try.results8, go_sem]) rfl ⟨rfl, (by repeat (first | exact Only.refl _ _ | refine Only.drewN ?_ _ | refine Only.drew ?_ | refine Only.alloc ?_ _ | refine Only.setCell ?_ (fun h => by first | (simp at h; done) | (simp at h; omega) | omega) _))⟩
set_option maxHeartbeats 1000000 in
theorem take_bad4 (p n ca : Nat) (A : Option Addr) (w : World) (hp : w.heap[p]? = some (.cells #[.bool true, .slice A n ca] 26 (0, 0))) (k side : Int) (most : Int) (hm : decide (most < 0) = false) (d1 : decide (k < 1) = false) (d2 : decide ((n : Int) < k) = false) (d3 : decide (side < 0) = false) (d4 : decide (1 < side) = true) :
    Calls Try.prog 8 #[.pointer (some ⟨p, 0, none⟩), .int .i64 k, .int .i64 side, .int .i64 most] w fun e w' => e = .returned (.tuple #[.slice none 0 0, .int .i64 2]) ∧ Quiet w w' := by
  have hp0 : w.cell? ⟨p, 0, none⟩ = some (.bool true) := blk_cell hp 0
  have hp1 : w.cell? ⟨p, 1, none⟩ = some (.slice A n ca) := blk_cell hp 1
  have hps := lt_of_heap hp
  have HP := Lib.hid hp; clear hp
  have p1 : p < w.heap.size + 1 := by omega
  have p2 : p < w.heap.size + 1 + 1 := by omega
  have p3 : p < w.heap.size + 1 + 1 + 1 := by omega
  go_enter Try.func8, Try.ntmps8
  go_wp2
  exact bodyPost_ret (v := .tuple #[.slice none 0 0, .int .i64 2]) (by simp [results, Try.results8, go_sem]) rfl ⟨rfl, (by repeat (first | exact Only.refl _ _ | refine Only.drewN ?_ _ | refine Only.drew ?_ | refine Only.alloc ?_ _ | refine Only.setCell ?_ (fun h => by first | (simp at h; done) | (simp at h; omega) | omega) _))⟩
theorem take_bad (p n ca : Nat) (A : Option Addr) (w : World) (hp : w.heap[p]? = some (.cells #[.bool true, .slice A n ca] 26 (0, 0))) (k side : Int) (most : Int) (hm : decide (most < 0) = false) (h : k < 1 ∨ (n : Int) < k ∨ side < 0 ∨ 1 < side) :
    Calls Try.prog 8 #[.pointer (some ⟨p, 0, none⟩), .int .i64 k, .int .i64 side, .int .i64 most] w fun e w' => e = .returned (.tuple #[.slice none 0 0, .int .i64 2]) ∧ Quiet w w' := by
  by_cases h1 : k < 1
  · exact take_bad1 p n ca A w hp k side most hm (by simp [h1])
  · by_cases h2 : (n : Int) < k
    · exact take_bad2 p n ca A w hp k side most hm (by simp [h1]) (by simp [h2])
    · by_cases h3 : side < 0
      · exact take_bad3 p n ca A w hp k side most hm (by simp [h1]) (by simp [h2]) (by simp [h3])
      · exact take_bad4 p n ca A w hp k side most hm (by simp [h1]) (by simp [h2]) (by simp [h3]) (by simp; omega)
set_option maxHeartbeats 1000000 in
theorem shut_bad1 (p n ca : Nat) (A : Option Addr) (w : World) (hp : w.heap[p]? = some (.cells #[.bool true, .slice A n ca] 26 (0, 0))) (k side : Int)  (d1 : decide (k < 1) = true) :
    Calls Try.prog 10 #[.pointer (some ⟨p, 0, none⟩), .int .i64 k, .int .i64 side] w fun e w' => e = .returned (.int .i64 2) ∧ Quiet w w' := by
  have hp0 : w.cell? ⟨p, 0, none⟩ = some (.bool true) := blk_cell hp 0
  have hp1 : w.cell? ⟨p, 1, none⟩ = some (.slice A n ca) := blk_cell hp 1
  have hps := lt_of_heap hp
  have HP := Lib.hid hp; clear hp
  have p1 : p < w.heap.size + 1 := by omega
  have p2 : p < w.heap.size + 1 + 1 := by omega
  have p3 : p < w.heap.size + 1 + 1 + 1 := by omega
  go_enter Try.func10, Try.ntmps10
  go_wp2
  go_ret
  exact ⟨rfl, (by repeat (first | exact Only.refl _ _ | refine Only.drewN ?_ _ | refine Only.drew ?_ | refine Only.alloc ?_ _ | refine Only.setCell ?_ (fun h => by first | (simp at h; done) | (simp at h; omega) | omega) _))⟩
set_option maxHeartbeats 1000000 in
theorem shut_bad2 (p n ca : Nat) (A : Option Addr) (w : World) (hp : w.heap[p]? = some (.cells #[.bool true, .slice A n ca] 26 (0, 0))) (k side : Int)  (d1 : decide (k < 1) = false) (d2 : decide ((n : Int) < k) = true) :
    Calls Try.prog 10 #[.pointer (some ⟨p, 0, none⟩), .int .i64 k, .int .i64 side] w fun e w' => e = .returned (.int .i64 2) ∧ Quiet w w' := by
  have hp0 : w.cell? ⟨p, 0, none⟩ = some (.bool true) := blk_cell hp 0
  have hp1 : w.cell? ⟨p, 1, none⟩ = some (.slice A n ca) := blk_cell hp 1
  have hps := lt_of_heap hp
  have HP := Lib.hid hp; clear hp
  have p1 : p < w.heap.size + 1 := by omega
  have p2 : p < w.heap.size + 1 + 1 := by omega
  have p3 : p < w.heap.size + 1 + 1 + 1 := by omega
  go_enter Try.func10, Try.ntmps10
  go_wp2
  go_ret
  exact ⟨rfl, (by repeat (first | exact Only.refl _ _ | refine Only.drewN ?_ _ | refine Only.drew ?_ | refine Only.alloc ?_ _ | refine Only.setCell ?_ (fun h => by first | (simp at h; done) | (simp at h; omega) | omega) _))⟩
set_option maxHeartbeats 1000000 in
theorem shut_bad3 (p n ca : Nat) (A : Option Addr) (w : World) (hp : w.heap[p]? = some (.cells #[.bool true, .slice A n ca] 26 (0, 0))) (k side : Int)  (d1 : decide (k < 1) = false) (d2 : decide ((n : Int) < k) = false) (d3 : decide (side < 0) = true) :
    Calls Try.prog 10 #[.pointer (some ⟨p, 0, none⟩), .int .i64 k, .int .i64 side] w fun e w' => e = .returned (.int .i64 2) ∧ Quiet w w' := by
  have hp0 : w.cell? ⟨p, 0, none⟩ = some (.bool true) := blk_cell hp 0
  have hp1 : w.cell? ⟨p, 1, none⟩ = some (.slice A n ca) := blk_cell hp 1
  have hps := lt_of_heap hp
  have HP := Lib.hid hp; clear hp
  have p1 : p < w.heap.size + 1 := by omega
  have p2 : p < w.heap.size + 1 + 1 := by omega
  have p3 : p < w.heap.size + 1 + 1 + 1 := by omega
  go_enter Try.func10, Try.ntmps10
  go_wp2
  go_ret
  exact ⟨rfl, (by repeat (first | exact Only.refl _ _ | refine Only.drewN ?_ _ | refine Only.drew ?_ | refine Only.alloc ?_ _ | refine Only.setCell ?_ (fun h => by first | (simp at h; done) | (simp at h; omega) | omega) _))⟩
set_option maxHeartbeats 1000000 in
theorem shut_bad4 (p n ca : Nat) (A : Option Addr) (w : World) (hp : w.heap[p]? = some (.cells #[.bool true, .slice A n ca] 26 (0, 0))) (k side : Int)  (d1 : decide (k < 1) = false) (d2 : decide ((n : Int) < k) = false) (d3 : decide (side < 0) = false) (d4 : decide (1 < side) = true) :
    Calls Try.prog 10 #[.pointer (some ⟨p, 0, none⟩), .int .i64 k, .int .i64 side] w fun e w' => e = .returned (.int .i64 2) ∧ Quiet w w' := by
  have hp0 : w.cell? ⟨p, 0, none⟩ = some (.bool true) := blk_cell hp 0
  have hp1 : w.cell? ⟨p, 1, none⟩ = some (.slice A n ca) := blk_cell hp 1
  have hps := lt_of_heap hp
  have HP := Lib.hid hp; clear hp
  have p1 : p < w.heap.size + 1 := by omega
  have p2 : p < w.heap.size + 1 + 1 := by omega
  have p3 : p < w.heap.size + 1 + 1 + 1 := by omega
  go_enter Try.func10, Try.ntmps10
  go_wp2
  go_ret
  exact ⟨rfl, (by repeat (first | exact Only.refl _ _ | refine Only.drewN ?_ _ | refine Only.drew ?_ | refine Only.alloc ?_ _ | refine Only.setCell ?_ (fun h => by first | (simp at h; done) | (simp at h; omega) | omega) _))⟩
theorem shut_bad (p n ca : Nat) (A : Option Addr) (w : World) (hp : w.heap[p]? = some (.cells #[.bool true, .slice A n ca] 26 (0, 0))) (k side : Int)  (h : k < 1 ∨ (n : Int) < k ∨ side < 0 ∨ 1 < side) :
    Calls Try.prog 10 #[.pointer (some ⟨p, 0, none⟩), .int .i64 k, .int .i64 side] w fun e w' => e = .returned (.int .i64 2) ∧ Quiet w w' := by
  by_cases h1 : k < 1
  · exact shut_bad1 p n ca A w hp k side (by simp [h1])
  · by_cases h2 : (n : Int) < k
    · exact shut_bad2 p n ca A w hp k side (by simp [h1]) (by simp [h2])
    · by_cases h3 : side < 0
      · exact shut_bad3 p n ca A w hp k side (by simp [h1]) (by simp [h2]) (by simp [h3])
      · exact shut_bad4 p n ca A w hp k side (by simp [h1]) (by simp [h2]) (by simp [h3]) (by simp; omega)
set_option maxHeartbeats 1000000 in
theorem reset_bad1 (p n ca : Nat) (A : Option Addr) (w : World) (hp : w.heap[p]? = some (.cells #[.bool true, .slice A n ca] 26 (0, 0))) (k : Int)  (d1 : decide (k < 1) = true) :
    Calls Try.prog 11 #[.pointer (some ⟨p, 0, none⟩), .int .i64 k] w fun e w' => e = .returned (.int .i64 2) ∧ Quiet w w' := by
  have hp0 : w.cell? ⟨p, 0, none⟩ = some (.bool true) := blk_cell hp 0
  have hp1 : w.cell? ⟨p, 1, none⟩ = some (.slice A n ca) := blk_cell hp 1
  have hps := lt_of_heap hp
  have HP := Lib.hid hp; clear hp
  have p1 : p < w.heap.size + 1 := by omega
  have p2 : p < w.heap.size + 1 + 1 := by omega
  have p3 : p < w.heap.size + 1 + 1 + 1 := by omega
  go_enter Try.func11, Try.ntmps11
  go_wp2
  go_ret
  exact ⟨rfl, (by repeat (first | exact Only.refl _ _ | refine Only.drewN ?_ _ | refine Only.drew ?_ | refine Only.alloc ?_ _ | refine Only.setCell ?_ (fun h => by first | (simp at h; done) | (simp at h; omega) | omega) _))⟩
set_option maxHeartbeats 1000000 in
theorem reset_bad2 (p n ca : Nat) (A : Option Addr) (w : World) (hp : w.heap[p]? = some (.cells #[.bool true, .slice A n ca] 26 (0, 0))) (k : Int)  (d1 : decide (k < 1) = false) (d2 : decide ((n : Int) < k) = true) :
    Calls Try.prog 11 #[.pointer (some ⟨p, 0, none⟩), .int .i64 k] w fun e w' => e = .returned (.int .i64 2) ∧ Quiet w w' := by
  have hp0 : w.cell? ⟨p, 0, none⟩ = some (.bool true) := blk_cell hp 0
  have hp1 : w.cell? ⟨p, 1, none⟩ = some (.slice A n ca) := blk_cell hp 1
  have hps := lt_of_heap hp
  have HP := Lib.hid hp; clear hp
  have p1 : p < w.heap.size + 1 := by omega
  have p2 : p < w.heap.size + 1 + 1 := by omega
  have p3 : p < w.heap.size + 1 + 1 + 1 := by omega
  go_enter Try.func11, Try.ntmps11
  go_wp2
  go_ret
  exact ⟨rfl, (by repeat (first | exact Only.refl _ _ | refine Only.drewN ?_ _ | refine Only.drew ?_ | refine Only.alloc ?_ _ | refine Only.setCell ?_ (fun h => by first | (simp at h; done) | (simp at h; omega) | omega) _))⟩
theorem reset_bad (p n ca : Nat) (A : Option Addr) (w : World) (hp : w.heap[p]? = some (.cells #[.bool true, .slice A n ca] 26 (0, 0))) (k : Int)  (h : k < 1 ∨ (n : Int) < k) :
    Calls Try.prog 11 #[.pointer (some ⟨p, 0, none⟩), .int .i64 k] w fun e w' => e = .returned (.int .i64 2) ∧ Quiet w w' := by
  by_cases h1 : k < 1
  · exact reset_bad1 p n ca A w hp k (by simp [h1])
  · exact reset_bad2 p n ca A w hp k (by simp [h1]) (by simp; omega)
set_option maxHeartbeats 1000000 in
theorem waiting_bad1 (p n ca : Nat) (A : Option Addr) (w : World) (hp : w.heap[p]? = some (.cells #[.bool true, .slice A n ca] 26 (0, 0))) (k side : Int)  (d1 : decide (k < 1) = true) :
    Calls Try.prog 12 #[.pointer (some ⟨p, 0, none⟩), .int .i64 k, .int .i64 side] w fun e w' => e = .returned (.int .i64 0) ∧ Quiet w w' := by
  have hp0 : w.cell? ⟨p, 0, none⟩ = some (.bool true) := blk_cell hp 0
  have hp1 : w.cell? ⟨p, 1, none⟩ = some (.slice A n ca) := blk_cell hp 1
  have hps := lt_of_heap hp
  have HP := Lib.hid hp; clear hp
  have p1 : p < w.heap.size + 1 := by omega
  have p2 : p < w.heap.size + 1 + 1 := by omega
  have p3 : p < w.heap.size + 1 + 1 + 1 := by omega
  go_enter Try.func12, Try.ntmps12
  go_wp2
  go_ret
  exact ⟨rfl, (by repeat (first | exact Only.refl _ _ | refine Only.drewN ?_ _ | refine Only.drew ?_ | refine Only.alloc ?_ _ | refine Only.setCell ?_ (fun h => by first | (simp at h; done) | (simp at h; omega) | omega) _))⟩
set_option maxHeartbeats 1000000 in
theorem waiting_bad2 (p n ca : Nat) (A : Option Addr) (w : World) (hp : w.heap[p]? = some (.cells #[.bool true, .slice A n ca] 26 (0, 0))) (k side : Int)  (d1 : decide (k < 1) = false) (d2 : decide ((n : Int) < k) = true) :
    Calls Try.prog 12 #[.pointer (some ⟨p, 0, none⟩), .int .i64 k, .int .i64 side] w fun e w' => e = .returned (.int .i64 0) ∧ Quiet w w' := by
  have hp0 : w.cell? ⟨p, 0, none⟩ = some (.bool true) := blk_cell hp 0
  have hp1 : w.cell? ⟨p, 1, none⟩ = some (.slice A n ca) := blk_cell hp 1
  have hps := lt_of_heap hp
  have HP := Lib.hid hp; clear hp
  have p1 : p < w.heap.size + 1 := by omega
  have p2 : p < w.heap.size + 1 + 1 := by omega
  have p3 : p < w.heap.size + 1 + 1 + 1 := by omega
  go_enter Try.func12, Try.ntmps12
  go_wp2
  go_ret
  exact ⟨rfl, (by repeat (first | exact Only.refl _ _ | refine Only.drewN ?_ _ | refine Only.drew ?_ | refine Only.alloc ?_ _ | refine Only.setCell ?_ (fun h => by first | (simp at h; done) | (simp at h; omega) | omega) _))⟩
set_option maxHeartbeats 1000000 in
theorem waiting_bad3 (p n ca : Nat) (A : Option Addr) (w : World) (hp : w.heap[p]? = some (.cells #[.bool true, .slice A n ca] 26 (0, 0))) (k side : Int)  (d1 : decide (k < 1) = false) (d2 : decide ((n : Int) < k) = false) (d3 : decide (side < 0) = true) :
    Calls Try.prog 12 #[.pointer (some ⟨p, 0, none⟩), .int .i64 k, .int .i64 side] w fun e w' => e = .returned (.int .i64 0) ∧ Quiet w w' := by
  have hp0 : w.cell? ⟨p, 0, none⟩ = some (.bool true) := blk_cell hp 0
  have hp1 : w.cell? ⟨p, 1, none⟩ = some (.slice A n ca) := blk_cell hp 1
  have hps := lt_of_heap hp
  have HP := Lib.hid hp; clear hp
  have p1 : p < w.heap.size + 1 := by omega
  have p2 : p < w.heap.size + 1 + 1 := by omega
  have p3 : p < w.heap.size + 1 + 1 + 1 := by omega
  go_enter Try.func12, Try.ntmps12
  go_wp2
  go_ret
  exact ⟨rfl, (by repeat (first | exact Only.refl _ _ | refine Only.drewN ?_ _ | refine Only.drew ?_ | refine Only.alloc ?_ _ | refine Only.setCell ?_ (fun h => by first | (simp at h; done) | (simp at h; omega) | omega) _))⟩
set_option maxHeartbeats 1000000 in
theorem waiting_bad4 (p n ca : Nat) (A : Option Addr) (w : World) (hp : w.heap[p]? = some (.cells #[.bool true, .slice A n ca] 26 (0, 0))) (k side : Int)  (d1 : decide (k < 1) = false) (d2 : decide ((n : Int) < k) = false) (d3 : decide (side < 0) = false) (d4 : decide (1 < side) = true) :
    Calls Try.prog 12 #[.pointer (some ⟨p, 0, none⟩), .int .i64 k, .int .i64 side] w fun e w' => e = .returned (.int .i64 0) ∧ Quiet w w' := by
  have hp0 : w.cell? ⟨p, 0, none⟩ = some (.bool true) := blk_cell hp 0
  have hp1 : w.cell? ⟨p, 1, none⟩ = some (.slice A n ca) := blk_cell hp 1
  have hps := lt_of_heap hp
  have HP := Lib.hid hp; clear hp
  have p1 : p < w.heap.size + 1 := by omega
  have p2 : p < w.heap.size + 1 + 1 := by omega
  have p3 : p < w.heap.size + 1 + 1 + 1 := by omega
  go_enter Try.func12, Try.ntmps12
  go_wp2
  go_ret
  exact ⟨rfl, (by repeat (first | exact Only.refl _ _ | refine Only.drewN ?_ _ | refine Only.drew ?_ | refine Only.alloc ?_ _ | refine Only.setCell ?_ (fun h => by first | (simp at h; done) | (simp at h; omega) | omega) _))⟩
theorem waiting_bad (p n ca : Nat) (A : Option Addr) (w : World) (hp : w.heap[p]? = some (.cells #[.bool true, .slice A n ca] 26 (0, 0))) (k side : Int)  (h : k < 1 ∨ (n : Int) < k ∨ side < 0 ∨ 1 < side) :
    Calls Try.prog 12 #[.pointer (some ⟨p, 0, none⟩), .int .i64 k, .int .i64 side] w fun e w' => e = .returned (.int .i64 0) ∧ Quiet w w' := by
  by_cases h1 : k < 1
  · exact waiting_bad1 p n ca A w hp k side (by simp [h1])
  · by_cases h2 : (n : Int) < k
    · exact waiting_bad2 p n ca A w hp k side (by simp [h1]) (by simp [h2])
    · by_cases h3 : side < 0
      · exact waiting_bad3 p n ca A w hp k side (by simp [h1]) (by simp [h2]) (by simp [h3])
      · exact waiting_bad4 p n ca A w hp k side (by simp [h1]) (by simp [h2]) (by simp [h3]) (by simp; omega)
set_option maxHeartbeats 1000000 in
theorem ended_bad1 (p n ca : Nat) (A : Option Addr) (w : World) (hp : w.heap[p]? = some (.cells #[.bool true, .slice A n ca] 26 (0, 0))) (k side : Int)  (d1 : decide (k < 1) = true) :
    Calls Try.prog 13 #[.pointer (some ⟨p, 0, none⟩), .int .i64 k, .int .i64 side] w fun e w' => e = .returned (.bool true) ∧ Quiet w w' := by
  have hp0 : w.cell? ⟨p, 0, none⟩ = some (.bool true) := blk_cell hp 0
  have hp1 : w.cell? ⟨p, 1, none⟩ = some (.slice A n ca) := blk_cell hp 1
  have hps := lt_of_heap hp
  have HP := Lib.hid hp; clear hp
  have p1 : p < w.heap.size + 1 := by omega
  have p2 : p < w.heap.size + 1 + 1 := by omega
  have p3 : p < w.heap.size + 1 + 1 + 1 := by omega
  go_enter Try.func13, Try.ntmps13
  go_wp2
  go_ret
  exact ⟨rfl, (by repeat (first | exact Only.refl _ _ | refine Only.drewN ?_ _ | refine Only.drew ?_ | refine Only.alloc ?_ _ | refine Only.setCell ?_ (fun h => by first | (simp at h; done) | (simp at h; omega) | omega) _))⟩
set_option maxHeartbeats 1000000 in
theorem ended_bad2 (p n ca : Nat) (A : Option Addr) (w : World) (hp : w.heap[p]? = some (.cells #[.bool true, .slice A n ca] 26 (0, 0))) (k side : Int)  (d1 : decide (k < 1) = false) (d2 : decide ((n : Int) < k) = true) :
    Calls Try.prog 13 #[.pointer (some ⟨p, 0, none⟩), .int .i64 k, .int .i64 side] w fun e w' => e = .returned (.bool true) ∧ Quiet w w' := by
  have hp0 : w.cell? ⟨p, 0, none⟩ = some (.bool true) := blk_cell hp 0
  have hp1 : w.cell? ⟨p, 1, none⟩ = some (.slice A n ca) := blk_cell hp 1
  have hps := lt_of_heap hp
  have HP := Lib.hid hp; clear hp
  have p1 : p < w.heap.size + 1 := by omega
  have p2 : p < w.heap.size + 1 + 1 := by omega
  have p3 : p < w.heap.size + 1 + 1 + 1 := by omega
  go_enter Try.func13, Try.ntmps13
  go_wp2
  go_ret
  exact ⟨rfl, (by repeat (first | exact Only.refl _ _ | refine Only.drewN ?_ _ | refine Only.drew ?_ | refine Only.alloc ?_ _ | refine Only.setCell ?_ (fun h => by first | (simp at h; done) | (simp at h; omega) | omega) _))⟩
set_option maxHeartbeats 1000000 in
theorem ended_bad3 (p n ca : Nat) (A : Option Addr) (w : World) (hp : w.heap[p]? = some (.cells #[.bool true, .slice A n ca] 26 (0, 0))) (k side : Int)  (d1 : decide (k < 1) = false) (d2 : decide ((n : Int) < k) = false) (d3 : decide (side < 0) = true) :
    Calls Try.prog 13 #[.pointer (some ⟨p, 0, none⟩), .int .i64 k, .int .i64 side] w fun e w' => e = .returned (.bool true) ∧ Quiet w w' := by
  have hp0 : w.cell? ⟨p, 0, none⟩ = some (.bool true) := blk_cell hp 0
  have hp1 : w.cell? ⟨p, 1, none⟩ = some (.slice A n ca) := blk_cell hp 1
  have hps := lt_of_heap hp
  have HP := Lib.hid hp; clear hp
  have p1 : p < w.heap.size + 1 := by omega
  have p2 : p < w.heap.size + 1 + 1 := by omega
  have p3 : p < w.heap.size + 1 + 1 + 1 := by omega
  go_enter Try.func13, Try.ntmps13
  go_wp2
  go_ret
  exact ⟨rfl, (by repeat (first | exact Only.refl _ _ | refine Only.drewN ?_ _ | refine Only.drew ?_ | refine Only.alloc ?_ _ | refine Only.setCell ?_ (fun h => by first | (simp at h; done) | (simp at h; omega) | omega) _))⟩
set_option maxHeartbeats 1000000 in
theorem ended_bad4 (p n ca : Nat) (A : Option Addr) (w : World) (hp : w.heap[p]? = some (.cells #[.bool true, .slice A n ca] 26 (0, 0))) (k side : Int)  (d1 : decide (k < 1) = false) (d2 : decide ((n : Int) < k) = false) (d3 : decide (side < 0) = false) (d4 : decide (1 < side) = true) :
    Calls Try.prog 13 #[.pointer (some ⟨p, 0, none⟩), .int .i64 k, .int .i64 side] w fun e w' => e = .returned (.bool true) ∧ Quiet w w' := by
  have hp0 : w.cell? ⟨p, 0, none⟩ = some (.bool true) := blk_cell hp 0
  have hp1 : w.cell? ⟨p, 1, none⟩ = some (.slice A n ca) := blk_cell hp 1
  have hps := lt_of_heap hp
  have HP := Lib.hid hp; clear hp
  have p1 : p < w.heap.size + 1 := by omega
  have p2 : p < w.heap.size + 1 + 1 := by omega
  have p3 : p < w.heap.size + 1 + 1 + 1 := by omega
  go_enter Try.func13, Try.ntmps13
  go_wp2
  go_ret
  exact ⟨rfl, (by repeat (first | exact Only.refl _ _ | refine Only.drewN ?_ _ | refine Only.drew ?_ | refine Only.alloc ?_ _ | refine Only.setCell ?_ (fun h => by first | (simp at h; done) | (simp at h; omega) | omega) _))⟩
theorem ended_bad (p n ca : Nat) (A : Option Addr) (w : World) (hp : w.heap[p]? = some (.cells #[.bool true, .slice A n ca] 26 (0, 0))) (k side : Int)  (h : k < 1 ∨ (n : Int) < k ∨ side < 0 ∨ 1 < side) :
    Calls Try.prog 13 #[.pointer (some ⟨p, 0, none⟩), .int .i64 k, .int .i64 side] w fun e w' => e = .returned (.bool true) ∧ Quiet w w' := by
  by_cases h1 : k < 1
  · exact ended_bad1 p n ca A w hp k side (by simp [h1])
  · by_cases h2 : (n : Int) < k
    · exact ended_bad2 p n ca A w hp k side (by simp [h1]) (by simp [h2])
    · by_cases h3 : side < 0
      · exact ended_bad3 p n ca A w hp k side (by simp [h1]) (by simp [h2]) (by simp [h3])
      · exact ended_bad4 p n ca A w hp k side (by simp [h1]) (by simp [h2]) (by simp [h3]) (by simp; omega)
set_option maxHeartbeats 1000000 in
theorem take_neg (p n ca : Nat) (A : Option Addr) (w : World) (hp : w.heap[p]? = some (.cells #[.bool true, .slice A n ca] 26 (0, 0))) (k side most : Int) (hm : decide (most < 0) = true) :
    Calls Try.prog 8 #[.pointer (some ⟨p, 0, none⟩), .int .i64 k, .int .i64 side, .int .i64 most] w fun e w' => e = .returned (.tuple #[.slice none 0 0, .int .i64 2]) ∧ Quiet w w' := by
  have hp0 : w.cell? ⟨p, 0, none⟩ = some (.bool true) := blk_cell hp 0
  have hp1 : w.cell? ⟨p, 1, none⟩ = some (.slice A n ca) := blk_cell hp 1
  have hps := lt_of_heap hp
  have HP := Lib.hid hp; clear hp
  have p1 : p < w.heap.size + 1 := by omega
  have p2 : p < w.heap.size + 1 + 1 := by omega
  have p3 : p < w.heap.size + 1 + 1 + 1 := by omega
  go_enter Try.func8, Try.ntmps8
  go_wp2
  exact bodyPost_ret (v := .tuple #[.slice none 0 0, .int .i64 2]) (by simp [results, Try.results8, go_sem]) rfl ⟨rfl, (by repeat (first | exact Only.refl _ _ | refine Only.drewN ?_ _ | refine Only.drew ?_ | refine Only.alloc ?_ _ | refine Only.setCell ?_ (fun h => by first | (simp at h; done) | (simp at h; omega) | omega) _))⟩
end Go.Proofs.Ytdigeppbflkknaa
