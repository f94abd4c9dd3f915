/-
  What the program's Send does to a net that lies in memory. No conditions.
-/
import Derived.Test.YtdigeppbflkknaaWords
import Derived.Deep.QuietTactic
import Derived.BigQuiet
import Derived.Lib.Hide
import Derived.Deep.RegionLaw
namespace Go.Proofs.Ytdigeppbflkknaa
open Go.RowKit

set_option maxHeartbeats 1000000 in
theorem send0_lost (p ga oa n ca i : Nat) (m : WMem) (x : Wire) (w : World)
    (hp : w.heap[p]? = some (.cells #[.bool true, .slice (some ⟨ga, oa, none⟩) n ca] 26 (0, 0))) (hg : ga < w.heap.size) (hel : w.cell? ⟨ga, oa + i, none⟩ = some (ptr m.blk)) (hi : i < n) (hn : n ≤ 256) (hw : WireAt w m x) 
    (A : Option Addr) (c : Nat) (l : List UInt8) (hll : l.length ≤ maxLen) (hlost : x.lost = true) :
    Calls Try.prog 9 #[.pointer (some ⟨p, 0, none⟩), .int .i64 ((i : Int) + 1), .int .i64 0, .slice A l.length c] w fun e w' => e = .returned (.int .i64 20) ∧ Quiet w w' := by
  unfold maxLen at hll
  obtain ⟨i0, hi0, hz0, hz1, hz2⟩ := info_parts Try.info5
  have hp0 : w.cell? ⟨p, 0, none⟩ = some (.bool true) := blk_cell hp 0
  have hp1 : w.cell? ⟨p, 1, none⟩ = some (.slice (some ⟨ga, oa, none⟩) n ca) := blk_cell hp 1
  have hps := lt_of_heap hp
  have w0 : w.cell? ⟨m.blk, 0, none⟩ = some (.slice m.a0 x.q0.length m.c0) := blk_cell hw.blk 0
  have w1 : w.cell? ⟨m.blk, 1, none⟩ = some (.bool x.s0) := blk_cell hw.blk 1
  have w2 : w.cell? ⟨m.blk, 2, none⟩ = some (.slice m.a1 x.q1.length m.c1) := blk_cell hw.blk 2
  have w3 : w.cell? ⟨m.blk, 3, none⟩ = some (.bool x.s1) := blk_cell hw.blk 3
  have w4 : w.cell? ⟨m.blk, 4, none⟩ = some (.bool x.lost) := blk_cell hw.blk 4
  rw [hlost] at w4
  have wl := lt_of_heap hw.blk
  have hq0 := hw.small.1
  have hq1 := hw.small.2
  have HP := Lib.hid hp; clear hp
  have HW := Lib.hid hw; clear hw
  unfold ptr at hel
  have g1 : ga < w.heap.size + 1 := by omega
  have p1 : p < w.heap.size + 1 := by omega
  have b1 : m.blk < w.heap.size + 1 := by omega
  have g2 : ga < w.heap.size + 1 + 1 := by omega
  have p2 : p < w.heap.size + 1 + 1 := by omega
  have b2 : m.blk < w.heap.size + 1 + 1 := by omega
  have HL := Lib.hid hlost; clear hlost
  go_enter Try.func9, Try.ntmps9
  go_wp2
  go_ret
  exact ⟨rfl, (by repeat (first | exact Only.refl _ _ | refine Only.drewN ?_ _ | refine Only.drew ?_ | refine Only.alloc ?_ _))⟩
set_option maxHeartbeats 1000000 in
theorem send0_shut (p ga oa n ca i : Nat) (m : WMem) (x : Wire) (w : World)
    (hp : w.heap[p]? = some (.cells #[.bool true, .slice (some ⟨ga, oa, none⟩) n ca] 26 (0, 0))) (hg : ga < w.heap.size) (hel : w.cell? ⟨ga, oa + i, none⟩ = some (ptr m.blk)) (hi : i < n) (hn : n ≤ 256) (hw : WireAt w m x) 
    (A : Option Addr) (c : Nat) (l : List UInt8) (hll : l.length ≤ maxLen) (hlost : x.lost = false) (hs : x.s1 = true) :
    Calls Try.prog 9 #[.pointer (some ⟨p, 0, none⟩), .int .i64 ((i : Int) + 1), .int .i64 0, .slice A l.length c] w fun e w' => e = .returned (.int .i64 16) ∧ Quiet w w' := by
  unfold maxLen at hll
  obtain ⟨i0, hi0, hz0, hz1, hz2⟩ := info_parts Try.info5
  have hp0 : w.cell? ⟨p, 0, none⟩ = some (.bool true) := blk_cell hp 0
  have hp1 : w.cell? ⟨p, 1, none⟩ = some (.slice (some ⟨ga, oa, none⟩) n ca) := blk_cell hp 1
  have hps := lt_of_heap hp
  have w0 : w.cell? ⟨m.blk, 0, none⟩ = some (.slice m.a0 x.q0.length m.c0) := blk_cell hw.blk 0
  have w1 : w.cell? ⟨m.blk, 1, none⟩ = some (.bool x.s0) := blk_cell hw.blk 1
  have w2 : w.cell? ⟨m.blk, 2, none⟩ = some (.slice m.a1 x.q1.length m.c1) := blk_cell hw.blk 2
  have w3 : w.cell? ⟨m.blk, 3, none⟩ = some (.bool x.s1) := blk_cell hw.blk 3
  have w4 : w.cell? ⟨m.blk, 4, none⟩ = some (.bool x.lost) := blk_cell hw.blk 4
  rw [hlost] at w4
  rw [hs] at w3
  have wl := lt_of_heap hw.blk
  have hq0 := hw.small.1
  have hq1 := hw.small.2
  have HP := Lib.hid hp; clear hp
  have HW := Lib.hid hw; clear hw
  unfold ptr at hel
  have g1 : ga < w.heap.size + 1 := by omega
  have p1 : p < w.heap.size + 1 := by omega
  have b1 : m.blk < w.heap.size + 1 := by omega
  have g2 : ga < w.heap.size + 1 + 1 := by omega
  have p2 : p < w.heap.size + 1 + 1 := by omega
  have b2 : m.blk < w.heap.size + 1 + 1 := by omega
  have HL := Lib.hid hlost; clear hlost
  have HS := Lib.hid hs; clear hs
  go_enter Try.func9, Try.ntmps9
  go_wp2
  go_quiet (fail)
  go_wp2
  go_ret
  exact ⟨rfl, (by repeat (first | exact Only.refl _ _ | refine Only.drewN ?_ _ | refine Only.drew ?_ | refine Only.alloc ?_ _))⟩
set_option maxHeartbeats 1000000 in
theorem send0_big (p ga oa n ca i : Nat) (m : WMem) (x : Wire) (w : World)
    (hp : w.heap[p]? = some (.cells #[.bool true, .slice (some ⟨ga, oa, none⟩) n ca] 26 (0, 0))) (hg : ga < w.heap.size) (hel : w.cell? ⟨ga, oa + i, none⟩ = some (ptr m.blk)) (hi : i < n) (hn : n ≤ 256) (hw : WireAt w m x) 
    (A : Option Addr) (c : Nat) (l : List UInt8) (hll : l.length ≤ maxLen) (hlost : x.lost = false) (hs : x.s1 = false) (hr : 1048576 - (x.q1.length : Int) < (l.length : Int)) :
    Calls Try.prog 9 #[.pointer (some ⟨p, 0, none⟩), .int .i64 ((i : Int) + 1), .int .i64 0, .slice A l.length c] w fun e w' => e = .returned (.int .i64 14) ∧ Quiet w w' := by
  unfold maxLen at hll
  obtain ⟨i0, hi0, hz0, hz1, hz2⟩ := info_parts Try.info5
  have hp0 : w.cell? ⟨p, 0, none⟩ = some (.bool true) := blk_cell hp 0
  have hp1 : w.cell? ⟨p, 1, none⟩ = some (.slice (some ⟨ga, oa, none⟩) n ca) := blk_cell hp 1
  have hps := lt_of_heap hp
  have w0 : w.cell? ⟨m.blk, 0, none⟩ = some (.slice m.a0 x.q0.length m.c0) := blk_cell hw.blk 0
  have w1 : w.cell? ⟨m.blk, 1, none⟩ = some (.bool x.s0) := blk_cell hw.blk 1
  have w2 : w.cell? ⟨m.blk, 2, none⟩ = some (.slice m.a1 x.q1.length m.c1) := blk_cell hw.blk 2
  have w3 : w.cell? ⟨m.blk, 3, none⟩ = some (.bool x.s1) := blk_cell hw.blk 3
  have w4 : w.cell? ⟨m.blk, 4, none⟩ = some (.bool x.lost) := blk_cell hw.blk 4
  rw [hlost] at w4
  rw [hs] at w3
  have wl := lt_of_heap hw.blk
  have hq0 := hw.small.1
  have hq1 := hw.small.2
  have HP := Lib.hid hp; clear hp
  have HW := Lib.hid hw; clear hw
  unfold ptr at hel
  have g1 : ga < w.heap.size + 1 := by omega
  have p1 : p < w.heap.size + 1 := by omega
  have b1 : m.blk < w.heap.size + 1 := by omega
  have g2 : ga < w.heap.size + 1 + 1 := by omega
  have p2 : p < w.heap.size + 1 + 1 := by omega
  have b2 : m.blk < w.heap.size + 1 + 1 := by omega
  have HL := Lib.hid hlost; clear hlost
  have HS := Lib.hid hs; clear hs
  have dd : decide (1048576 - (x.q1.length : Int) < (l.length : Int)) = true := by simp; omega
  go_enter Try.func9, Try.ntmps9
  go_wp2
  go_quiet (fail)
  go_wp2
  go_quiet (fail)
  go_wp2
  go_ret
  exact ⟨rfl, (by repeat (first | exact Only.refl _ _ | refine Only.drewN ?_ _ | refine Only.drew ?_ | refine Only.alloc ?_ _))⟩
set_option maxHeartbeats 1000000 in
theorem send0_ok (p ga oa n ca i : Nat) (m : WMem) (x : Wire) (w : World)
    (hp : w.heap[p]? = some (.cells #[.bool true, .slice (some ⟨ga, oa, none⟩) n ca] 26 (0, 0))) (hg : ga < w.heap.size) (hel : w.cell? ⟨ga, oa + i, none⟩ = some (ptr m.blk)) (hi : i < n) (hn : n ≤ 256) (hw : WireAt w m x) 
    (A : Option Addr) (c : Nat) (l : List UInt8) (hll : l.length ≤ maxLen) (hlost : x.lost = false) (hs : x.s1 = false) (hr : (l.length : Int) ≤ 1048576 - x.q1.length)
    (hsrc : ∀ W, Quiet w W → Src W A (bytes l)) (hnil : A = none → l.length = 0) :
    Calls Try.prog 9 #[.pointer (some ⟨p, 0, none⟩), .int .i64 ((i : Int) + 1), .int .i64 0, .slice A l.length c] w fun e w' => e = .returned (.int .i64 0) ∧ ∃ A1 c1, WireAt w' { m with a1 := A1, c1 := c1 } { x with q1 := x.q1 ++ l } ∧ Only (fun k => k = m.blk ∨ RowOf m.a1 k) w w' ∧ ∀ k, RowOf A1 k → RowOf m.a1 k ∨ w.heap.size ≤ k := by
  unfold maxLen at hll
  obtain ⟨i0, hi0, hz0, hz1, hz2⟩ := info_parts Try.info5
  have hp0 : w.cell? ⟨p, 0, none⟩ = some (.bool true) := blk_cell hp 0
  have hp1 : w.cell? ⟨p, 1, none⟩ = some (.slice (some ⟨ga, oa, none⟩) n ca) := blk_cell hp 1
  have hps := lt_of_heap hp
  have w0 : w.cell? ⟨m.blk, 0, none⟩ = some (.slice m.a0 x.q0.length m.c0) := blk_cell hw.blk 0
  have w1 : w.cell? ⟨m.blk, 1, none⟩ = some (.bool x.s0) := blk_cell hw.blk 1
  have w2 : w.cell? ⟨m.blk, 2, none⟩ = some (.slice m.a1 x.q1.length m.c1) := blk_cell hw.blk 2
  have w3 : w.cell? ⟨m.blk, 3, none⟩ = some (.bool x.s1) := blk_cell hw.blk 3
  have w4 : w.cell? ⟨m.blk, 4, none⟩ = some (.bool x.lost) := blk_cell hw.blk 4
  rw [hlost] at w4
  rw [hs] at w3
  have wf := blk_frozen hw.blk 2
  have wl := lt_of_heap hw.blk
  have hq0 := hw.small.1
  have hq1 := hw.small.2
  have HP := Lib.hid hp; clear hp
  have HW := Lib.hid hw; clear hw
  unfold ptr at hel
  have g1 : ga < w.heap.size + 1 := by omega
  have p1 : p < w.heap.size + 1 := by omega
  have b1 : m.blk < w.heap.size + 1 := by omega
  have g2 : ga < w.heap.size + 1 + 1 := by omega
  have p2 : p < w.heap.size + 1 + 1 := by omega
  have b2 : m.blk < w.heap.size + 1 + 1 := by omega
  have HL := Lib.hid hlost; clear hlost
  have HS := Lib.hid hs; clear hs
  have dd : decide (1048576 - (x.q1.length : Int) < (l.length : Int)) = false := by simp; omega
  have HSRC := Lib.hid hsrc; clear hsrc
  go_enter Try.func9, Try.ntmps9
  go_wp2
  go_quiet (fail)
  go_wp2
  go_quiet (fail)
  go_wp2
  go_region_law (refine step_append_sl _ rfl (.tmp 31) (.tmp 32) 22 rfl 5 i0 (.int .u8 0) 1 Try.underlying22 hi0 hz0 hz1 hz2 rfl m.a1 x.q1.length m.c1 (bytes x.q1) rfl (HW.out.sl1.only (F := fun _ => False) (by repeat (first | exact Only.refl _ _ | refine Only.drewN ?_ _ | refine Only.drew ?_ | refine Only.alloc ?_ _)) (fun _ _ h => h)) A l.length c (bytes l) rfl (bytes_len l) (HSRC.out _ (by repeat (first | exact Only.refl _ _ | refine Only.drewN ?_ _ | refine Only.drew ?_ | refine Only.alloc ?_ _))) hnil (bytes_one l) (by unfold maxLen; omega) (by omega) ?_; intro A' c' w' hsl' hon' hrow'; have hblk' := hon'.keep (Only.keep (S := fun _ => False) (by repeat (first | exact Only.refl _ _ | refine Only.drewN ?_ _ | refine Only.drew ?_ | refine Only.alloc ?_ _)) HW.out.blk (fun h => h)) HW.out.nb1; have e2 := blk_cell hblk' 2; have ef := blk_frozen hblk' 2; simp only [wireCells, List.getElem?_toArray, List.getElem?_cons_zero, List.getElem?_cons_succ] at e2; clear hblk')
  all_goals
    go_wp2
    go_ret
    obtain ⟨r1, r2, r3⟩ := put_end1 HW.out (by repeat (first | exact Only.refl _ _ | refine Only.drewN ?_ _ | refine Only.drew ?_ | refine Only.alloc ?_ _)) hon' hsl' hrow' hr
    exact ⟨rfl, A', c', r1, r2, r3⟩
set_option maxHeartbeats 1000000 in
theorem send1_lost (p ga oa n ca i : Nat) (m : WMem) (x : Wire) (w : World)
    (hp : w.heap[p]? = some (.cells #[.bool true, .slice (some ⟨ga, oa, none⟩) n ca] 26 (0, 0))) (hg : ga < w.heap.size) (hel : w.cell? ⟨ga, oa + i, none⟩ = some (ptr m.blk)) (hi : i < n) (hn : n ≤ 256) (hw : WireAt w m x) 
    (A : Option Addr) (c : Nat) (l : List UInt8) (hll : l.length ≤ maxLen) (hlost : x.lost = true) :
    Calls Try.prog 9 #[.pointer (some ⟨p, 0, none⟩), .int .i64 ((i : Int) + 1), .int .i64 1, .slice A l.length c] w fun e w' => e = .returned (.int .i64 20) ∧ Quiet w w' := by
  unfold maxLen at hll
  obtain ⟨i0, hi0, hz0, hz1, hz2⟩ := info_parts Try.info5
  have hp0 : w.cell? ⟨p, 0, none⟩ = some (.bool true) := blk_cell hp 0
  have hp1 : w.cell? ⟨p, 1, none⟩ = some (.slice (some ⟨ga, oa, none⟩) n ca) := blk_cell hp 1
  have hps := lt_of_heap hp
  have w0 : w.cell? ⟨m.blk, 0, none⟩ = some (.slice m.a0 x.q0.length m.c0) := blk_cell hw.blk 0
  have w1 : w.cell? ⟨m.blk, 1, none⟩ = some (.bool x.s0) := blk_cell hw.blk 1
  have w2 : w.cell? ⟨m.blk, 2, none⟩ = some (.slice m.a1 x.q1.length m.c1) := blk_cell hw.blk 2
  have w3 : w.cell? ⟨m.blk, 3, none⟩ = some (.bool x.s1) := blk_cell hw.blk 3
  have w4 : w.cell? ⟨m.blk, 4, none⟩ = some (.bool x.lost) := blk_cell hw.blk 4
  rw [hlost] at w4
  have wl := lt_of_heap hw.blk
  have hq0 := hw.small.1
  have hq1 := hw.small.2
  have HP := Lib.hid hp; clear hp
  have HW := Lib.hid hw; clear hw
  unfold ptr at hel
  have g1 : ga < w.heap.size + 1 := by omega
  have p1 : p < w.heap.size + 1 := by omega
  have b1 : m.blk < w.heap.size + 1 := by omega
  have g2 : ga < w.heap.size + 1 + 1 := by omega
  have p2 : p < w.heap.size + 1 + 1 := by omega
  have b2 : m.blk < w.heap.size + 1 + 1 := by omega
  have HL := Lib.hid hlost; clear hlost
  go_enter Try.func9, Try.ntmps9
  go_wp2
  go_ret
  exact ⟨rfl, (by repeat (first | exact Only.refl _ _ | refine Only.drewN ?_ _ | refine Only.drew ?_ | refine Only.alloc ?_ _))⟩
set_option maxHeartbeats 1000000 in
theorem send1_shut (p ga oa n ca i : Nat) (m : WMem) (x : Wire) (w : World)
    (hp : w.heap[p]? = some (.cells #[.bool true, .slice (some ⟨ga, oa, none⟩) n ca] 26 (0, 0))) (hg : ga < w.heap.size) (hel : w.cell? ⟨ga, oa + i, none⟩ = some (ptr m.blk)) (hi : i < n) (hn : n ≤ 256) (hw : WireAt w m x) 
    (A : Option Addr) (c : Nat) (l : List UInt8) (hll : l.length ≤ maxLen) (hlost : x.lost = false) (hs : x.s0 = true) :
    Calls Try.prog 9 #[.pointer (some ⟨p, 0, none⟩), .int .i64 ((i : Int) + 1), .int .i64 1, .slice A l.length c] w fun e w' => e = .returned (.int .i64 16) ∧ Quiet w w' := by
  unfold maxLen at hll
  obtain ⟨i0, hi0, hz0, hz1, hz2⟩ := info_parts Try.info5
  have hp0 : w.cell? ⟨p, 0, none⟩ = some (.bool true) := blk_cell hp 0
  have hp1 : w.cell? ⟨p, 1, none⟩ = some (.slice (some ⟨ga, oa, none⟩) n ca) := blk_cell hp 1
  have hps := lt_of_heap hp
  have w0 : w.cell? ⟨m.blk, 0, none⟩ = some (.slice m.a0 x.q0.length m.c0) := blk_cell hw.blk 0
  have w1 : w.cell? ⟨m.blk, 1, none⟩ = some (.bool x.s0) := blk_cell hw.blk 1
  have w2 : w.cell? ⟨m.blk, 2, none⟩ = some (.slice m.a1 x.q1.length m.c1) := blk_cell hw.blk 2
  have w3 : w.cell? ⟨m.blk, 3, none⟩ = some (.bool x.s1) := blk_cell hw.blk 3
  have w4 : w.cell? ⟨m.blk, 4, none⟩ = some (.bool x.lost) := blk_cell hw.blk 4
  rw [hlost] at w4
  rw [hs] at w1
  have wl := lt_of_heap hw.blk
  have hq0 := hw.small.1
  have hq1 := hw.small.2
  have HP := Lib.hid hp; clear hp
  have HW := Lib.hid hw; clear hw
  unfold ptr at hel
  have g1 : ga < w.heap.size + 1 := by omega
  have p1 : p < w.heap.size + 1 := by omega
  have b1 : m.blk < w.heap.size + 1 := by omega
  have g2 : ga < w.heap.size + 1 + 1 := by omega
  have p2 : p < w.heap.size + 1 + 1 := by omega
  have b2 : m.blk < w.heap.size + 1 + 1 := by omega
  have HL := Lib.hid hlost; clear hlost
  have HS := Lib.hid hs; clear hs
  go_enter Try.func9, Try.ntmps9
  go_wp2
  go_quiet (fail)
  go_wp2
  go_ret
  exact ⟨rfl, (by repeat (first | exact Only.refl _ _ | refine Only.drewN ?_ _ | refine Only.drew ?_ | refine Only.alloc ?_ _))⟩
set_option maxHeartbeats 1000000 in
theorem send1_big (p ga oa n ca i : Nat) (m : WMem) (x : Wire) (w : World)
    (hp : w.heap[p]? = some (.cells #[.bool true, .slice (some ⟨ga, oa, none⟩) n ca] 26 (0, 0))) (hg : ga < w.heap.size) (hel : w.cell? ⟨ga, oa + i, none⟩ = some (ptr m.blk)) (hi : i < n) (hn : n ≤ 256) (hw : WireAt w m x) 
    (A : Option Addr) (c : Nat) (l : List UInt8) (hll : l.length ≤ maxLen) (hlost : x.lost = false) (hs : x.s0 = false) (hr : 1048576 - (x.q0.length : Int) < (l.length : Int)) :
    Calls Try.prog 9 #[.pointer (some ⟨p, 0, none⟩), .int .i64 ((i : Int) + 1), .int .i64 1, .slice A l.length c] w fun e w' => e = .returned (.int .i64 14) ∧ Quiet w w' := by
  unfold maxLen at hll
  obtain ⟨i0, hi0, hz0, hz1, hz2⟩ := info_parts Try.info5
  have hp0 : w.cell? ⟨p, 0, none⟩ = some (.bool true) := blk_cell hp 0
  have hp1 : w.cell? ⟨p, 1, none⟩ = some (.slice (some ⟨ga, oa, none⟩) n ca) := blk_cell hp 1
  have hps := lt_of_heap hp
  have w0 : w.cell? ⟨m.blk, 0, none⟩ = some (.slice m.a0 x.q0.length m.c0) := blk_cell hw.blk 0
  have w1 : w.cell? ⟨m.blk, 1, none⟩ = some (.bool x.s0) := blk_cell hw.blk 1
  have w2 : w.cell? ⟨m.blk, 2, none⟩ = some (.slice m.a1 x.q1.length m.c1) := blk_cell hw.blk 2
  have w3 : w.cell? ⟨m.blk, 3, none⟩ = some (.bool x.s1) := blk_cell hw.blk 3
  have w4 : w.cell? ⟨m.blk, 4, none⟩ = some (.bool x.lost) := blk_cell hw.blk 4
  rw [hlost] at w4
  rw [hs] at w1
  have wl := lt_of_heap hw.blk
  have hq0 := hw.small.1
  have hq1 := hw.small.2
  have HP := Lib.hid hp; clear hp
  have HW := Lib.hid hw; clear hw
  unfold ptr at hel
  have g1 : ga < w.heap.size + 1 := by omega
  have p1 : p < w.heap.size + 1 := by omega
  have b1 : m.blk < w.heap.size + 1 := by omega
  have g2 : ga < w.heap.size + 1 + 1 := by omega
  have p2 : p < w.heap.size + 1 + 1 := by omega
  have b2 : m.blk < w.heap.size + 1 + 1 := by omega
  have HL := Lib.hid hlost; clear hlost
  have HS := Lib.hid hs; clear hs
  have dd : decide (1048576 - (x.q0.length : Int) < (l.length : Int)) = true := by simp; omega
  go_enter Try.func9, Try.ntmps9
  go_wp2
  go_quiet (fail)
  go_wp2
  go_quiet (fail)
  go_wp2
  go_ret
  exact ⟨rfl, (by repeat (first | exact Only.refl _ _ | refine Only.drewN ?_ _ | refine Only.drew ?_ | refine Only.alloc ?_ _))⟩
set_option maxHeartbeats 1000000 in
theorem send1_ok (p ga oa n ca i : Nat) (m : WMem) (x : Wire) (w : World)
    (hp : w.heap[p]? = some (.cells #[.bool true, .slice (some ⟨ga, oa, none⟩) n ca] 26 (0, 0))) (hg : ga < w.heap.size) (hel : w.cell? ⟨ga, oa + i, none⟩ = some (ptr m.blk)) (hi : i < n) (hn : n ≤ 256) (hw : WireAt w m x) 
    (A : Option Addr) (c : Nat) (l : List UInt8) (hll : l.length ≤ maxLen) (hlost : x.lost = false) (hs : x.s0 = false) (hr : (l.length : Int) ≤ 1048576 - x.q0.length)
    (hsrc : ∀ W, Quiet w W → Src W A (bytes l)) (hnil : A = none → l.length = 0) :
    Calls Try.prog 9 #[.pointer (some ⟨p, 0, none⟩), .int .i64 ((i : Int) + 1), .int .i64 1, .slice A l.length c] w fun e w' => e = .returned (.int .i64 0) ∧ ∃ A1 c1, WireAt w' { m with a0 := A1, c0 := c1 } { x with q0 := x.q0 ++ l } ∧ Only (fun k => k = m.blk ∨ RowOf m.a0 k) w w' ∧ ∀ k, RowOf A1 k → RowOf m.a0 k ∨ w.heap.size ≤ k := by
  unfold maxLen at hll
  obtain ⟨i0, hi0, hz0, hz1, hz2⟩ := info_parts Try.info5
  have hp0 : w.cell? ⟨p, 0, none⟩ = some (.bool true) := blk_cell hp 0
  have hp1 : w.cell? ⟨p, 1, none⟩ = some (.slice (some ⟨ga, oa, none⟩) n ca) := blk_cell hp 1
  have hps := lt_of_heap hp
  have w0 : w.cell? ⟨m.blk, 0, none⟩ = some (.slice m.a0 x.q0.length m.c0) := blk_cell hw.blk 0
  have w1 : w.cell? ⟨m.blk, 1, none⟩ = some (.bool x.s0) := blk_cell hw.blk 1
  have w2 : w.cell? ⟨m.blk, 2, none⟩ = some (.slice m.a1 x.q1.length m.c1) := blk_cell hw.blk 2
  have w3 : w.cell? ⟨m.blk, 3, none⟩ = some (.bool x.s1) := blk_cell hw.blk 3
  have w4 : w.cell? ⟨m.blk, 4, none⟩ = some (.bool x.lost) := blk_cell hw.blk 4
  rw [hlost] at w4
  rw [hs] at w1
  have wf := blk_frozen hw.blk 0
  have wl := lt_of_heap hw.blk
  have hq0 := hw.small.1
  have hq1 := hw.small.2
  have HP := Lib.hid hp; clear hp
  have HW := Lib.hid hw; clear hw
  unfold ptr at hel
  have g1 : ga < w.heap.size + 1 := by omega
  have p1 : p < w.heap.size + 1 := by omega
  have b1 : m.blk < w.heap.size + 1 := by omega
  have g2 : ga < w.heap.size + 1 + 1 := by omega
  have p2 : p < w.heap.size + 1 + 1 := by omega
  have b2 : m.blk < w.heap.size + 1 + 1 := by omega
  have HL := Lib.hid hlost; clear hlost
  have HS := Lib.hid hs; clear hs
  have dd : decide (1048576 - (x.q0.length : Int) < (l.length : Int)) = false := by simp; omega
  have HSRC := Lib.hid hsrc; clear hsrc
  go_enter Try.func9, Try.ntmps9
  go_wp2
  go_quiet (fail)
  go_wp2
  go_quiet (fail)
  go_wp2
  go_region_law (refine step_append_sl _ rfl (.tmp 31) (.tmp 32) 22 rfl 5 i0 (.int .u8 0) 1 Try.underlying22 hi0 hz0 hz1 hz2 rfl m.a0 x.q0.length m.c0 (bytes x.q0) rfl (HW.out.sl0.only (F := fun _ => False) (by repeat (first | exact Only.refl _ _ | refine Only.drewN ?_ _ | refine Only.drew ?_ | refine Only.alloc ?_ _)) (fun _ _ h => h)) A l.length c (bytes l) rfl (bytes_len l) (HSRC.out _ (by repeat (first | exact Only.refl _ _ | refine Only.drewN ?_ _ | refine Only.drew ?_ | refine Only.alloc ?_ _))) hnil (bytes_one l) (by unfold maxLen; omega) (by omega) ?_; intro A' c' w' hsl' hon' hrow'; have hblk' := hon'.keep (Only.keep (S := fun _ => False) (by repeat (first | exact Only.refl _ _ | refine Only.drewN ?_ _ | refine Only.drew ?_ | refine Only.alloc ?_ _)) HW.out.blk (fun h => h)) HW.out.nb0; have e2 := blk_cell hblk' 0; have ef := blk_frozen hblk' 0; simp only [wireCells, List.getElem?_toArray, List.getElem?_cons_zero, List.getElem?_cons_succ] at e2; clear hblk')
  all_goals
    go_wp2
    go_ret
    obtain ⟨r1, r2, r3⟩ := put_end0 HW.out (by repeat (first | exact Only.refl _ _ | refine Only.drewN ?_ _ | refine Only.drew ?_ | refine Only.alloc ?_ _)) hon' hsl' hrow' hr
    exact ⟨rfl, A', c', r1, r2, r3⟩
end Go.Proofs.Ytdigeppbflkknaa
