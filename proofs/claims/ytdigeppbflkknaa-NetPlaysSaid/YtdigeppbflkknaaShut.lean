/-
  What the program's Shut and Reset do to a net that lies in memory, and what its Waiting and Ended tell. No conditions.
-/
import Derived.Test.YtdigeppbflkknaaWords
import Derived.Deep.QuietTactic
import Derived.BigQuiet
import Derived.Lib.Hide
import Derived.Deep.RegionLaw
namespace Go.Proofs.Ytdigeppbflkknaa
open Go.RowKit

theorem setS_at {w w' : World} {m : WMem} {x x' : Wire} (hw : WireAt w m x) (ho : Only (· = m.blk) w w') (hb : w'.heap[m.blk]? = some (.cells (wireCells m x') 65 (0, 0))) (h0 : x'.q0 = x.q0) (h1 : x'.q1 = x.q1) : WireAt w' m x' := by
  obtain ⟨q0, q1, s0, s1, lost⟩ := x'
  simp only [] at h0 h1
  subst h0 h1
  exact ⟨hb, hw.sl0.only ho (fun k hk e => by subst e; exact hw.nb0 hk), hw.sl1.only ho (fun k hk e => by subst e; exact hw.nb1 hk), hw.small, hw.apart⟩
set_option maxHeartbeats 1000000 in
theorem shut0_lost (p ga oa n ca i : Nat) (m : WMem) (x : Wire) (w : World)
    (hp : w.heap[p]? = some (.cells #[.bool true, .slice (some ⟨ga, oa, none⟩) n ca] 26 (0, 0))) (hg : ga < w.heap.size) (hel : w.cell? ⟨ga, oa + i, none⟩ = some (ptr m.blk)) (hi : i < n) (hn : n ≤ 256) (hw : WireAt w m x)
    (hlost : x.lost = true) :
    Calls Try.prog 10 #[.pointer (some ⟨p, 0, none⟩), .int .i64 ((i : Int) + 1), .int .i64 0] w fun e w' => e = .returned (.int .i64 20) ∧ Quiet w w' := by
  have hp0 : w.cell? ⟨p, 0, none⟩ = some (.bool true) := blk_cell hp 0
  have hp1 : w.cell? ⟨p, 1, none⟩ = some (.slice (some ⟨ga, oa, none⟩) n ca) := blk_cell hp 1
  have hps := lt_of_heap hp
  have w0 : w.cell? ⟨m.blk, 0, none⟩ = some (.slice m.a0 x.q0.length m.c0) := blk_cell hw.blk 0
  have w1 : w.cell? ⟨m.blk, 1, none⟩ = some (.bool x.s0) := blk_cell hw.blk 1
  have w2 : w.cell? ⟨m.blk, 2, none⟩ = some (.slice m.a1 x.q1.length m.c1) := blk_cell hw.blk 2
  have w3 : w.cell? ⟨m.blk, 3, none⟩ = some (.bool x.s1) := blk_cell hw.blk 3
  have w4 : w.cell? ⟨m.blk, 4, none⟩ = some (.bool x.lost) := blk_cell hw.blk 4
  rw [hlost] at w4
  have wl := lt_of_heap hw.blk
  have hq0 := hw.small.1
  have hq1 := hw.small.2
  have HP := Lib.hid hp; clear hp
  have HW := Lib.hid hw; clear hw
  unfold ptr at hel
  have g1 : ga < w.heap.size + 1 := by omega
  have p1 : p < w.heap.size + 1 := by omega
  have b1 : m.blk < w.heap.size + 1 := by omega
  have g2 : ga < w.heap.size + 1 + 1 := by omega
  have p2 : p < w.heap.size + 1 + 1 := by omega
  have b2 : m.blk < w.heap.size + 1 + 1 := by omega
  have HL := Lib.hid hlost; clear hlost
  go_enter Try.func10, Try.ntmps10
  go_wp2
  go_ret
  exact ⟨rfl, (by repeat (first | exact Only.refl _ _ | refine Only.drewN ?_ _ | refine Only.drew ?_ | refine Only.alloc ?_ _))⟩
set_option maxHeartbeats 1000000 in
theorem shut0_shut (p ga oa n ca i : Nat) (m : WMem) (x : Wire) (w : World)
    (hp : w.heap[p]? = some (.cells #[.bool true, .slice (some ⟨ga, oa, none⟩) n ca] 26 (0, 0))) (hg : ga < w.heap.size) (hel : w.cell? ⟨ga, oa + i, none⟩ = some (ptr m.blk)) (hi : i < n) (hn : n ≤ 256) (hw : WireAt w m x)
    (hlost : x.lost = false) (hs : x.s1 = true) :
    Calls Try.prog 10 #[.pointer (some ⟨p, 0, none⟩), .int .i64 ((i : Int) + 1), .int .i64 0] w fun e w' => e = .returned (.int .i64 16) ∧ Quiet w w' := by
  have hp0 : w.cell? ⟨p, 0, none⟩ = some (.bool true) := blk_cell hp 0
  have hp1 : w.cell? ⟨p, 1, none⟩ = some (.slice (some ⟨ga, oa, none⟩) n ca) := blk_cell hp 1
  have hps := lt_of_heap hp
  have w0 : w.cell? ⟨m.blk, 0, none⟩ = some (.slice m.a0 x.q0.length m.c0) := blk_cell hw.blk 0
  have w1 : w.cell? ⟨m.blk, 1, none⟩ = some (.bool x.s0) := blk_cell hw.blk 1
  have w2 : w.cell? ⟨m.blk, 2, none⟩ = some (.slice m.a1 x.q1.length m.c1) := blk_cell hw.blk 2
  have w3 : w.cell? ⟨m.blk, 3, none⟩ = some (.bool x.s1) := blk_cell hw.blk 3
  have w4 : w.cell? ⟨m.blk, 4, none⟩ = some (.bool x.lost) := blk_cell hw.blk 4
  rw [hlost] at w4
  rw [hs] at w3
  have wl := lt_of_heap hw.blk
  have hq0 := hw.small.1
  have hq1 := hw.small.2
  have HP := Lib.hid hp; clear hp
  have HW := Lib.hid hw; clear hw
  unfold ptr at hel
  have g1 : ga < w.heap.size + 1 := by omega
  have p1 : p < w.heap.size + 1 := by omega
  have b1 : m.blk < w.heap.size + 1 := by omega
  have g2 : ga < w.heap.size + 1 + 1 := by omega
  have p2 : p < w.heap.size + 1 + 1 := by omega
  have b2 : m.blk < w.heap.size + 1 + 1 := by omega
  have HL := Lib.hid hlost; clear hlost
  have HS := Lib.hid hs; clear hs
  go_enter Try.func10, Try.ntmps10
  go_wp2
  go_quiet (fail)
  go_wp2
  go_ret
  exact ⟨rfl, (by repeat (first | exact Only.refl _ _ | refine Only.drewN ?_ _ | refine Only.drew ?_ | refine Only.alloc ?_ _))⟩
set_option maxHeartbeats 1000000 in
theorem shut0_ok (p ga oa n ca i : Nat) (m : WMem) (x : Wire) (w : World)
    (hp : w.heap[p]? = some (.cells #[.bool true, .slice (some ⟨ga, oa, none⟩) n ca] 26 (0, 0))) (hg : ga < w.heap.size) (hel : w.cell? ⟨ga, oa + i, none⟩ = some (ptr m.blk)) (hi : i < n) (hn : n ≤ 256) (hw : WireAt w m x)
    (hlost : x.lost = false) (hs : x.s1 = false) :
    Calls Try.prog 10 #[.pointer (some ⟨p, 0, none⟩), .int .i64 ((i : Int) + 1), .int .i64 0] w fun e w' => e = .returned (.int .i64 0) ∧ WireAt w' m { x with s1 := true } ∧ Only (fun k => k = m.blk) w w' := by
  have hp0 : w.cell? ⟨p, 0, none⟩ = some (.bool true) := blk_cell hp 0
  have hp1 : w.cell? ⟨p, 1, none⟩ = some (.slice (some ⟨ga, oa, none⟩) n ca) := blk_cell hp 1
  have hps := lt_of_heap hp
  have w0 : w.cell? ⟨m.blk, 0, none⟩ = some (.slice m.a0 x.q0.length m.c0) := blk_cell hw.blk 0
  have w1 : w.cell? ⟨m.blk, 1, none⟩ = some (.bool x.s0) := blk_cell hw.blk 1
  have w2 : w.cell? ⟨m.blk, 2, none⟩ = some (.slice m.a1 x.q1.length m.c1) := blk_cell hw.blk 2
  have w3 : w.cell? ⟨m.blk, 3, none⟩ = some (.bool x.s1) := blk_cell hw.blk 3
  have w4 : w.cell? ⟨m.blk, 4, none⟩ = some (.bool x.lost) := blk_cell hw.blk 4
  rw [hlost] at w4
  rw [hs] at w3
  have wf := blk_frozen hw.blk 3
  have wl := lt_of_heap hw.blk
  have hq0 := hw.small.1
  have hq1 := hw.small.2
  have HP := Lib.hid hp; clear hp
  have HW := Lib.hid hw; clear hw
  unfold ptr at hel
  have g1 : ga < w.heap.size + 1 := by omega
  have p1 : p < w.heap.size + 1 := by omega
  have b1 : m.blk < w.heap.size + 1 := by omega
  have g2 : ga < w.heap.size + 1 + 1 := by omega
  have p2 : p < w.heap.size + 1 + 1 := by omega
  have b2 : m.blk < w.heap.size + 1 + 1 := by omega
  have HL := Lib.hid hlost; clear hlost
  have HS := Lib.hid hs; clear hs
  go_enter Try.func10, Try.ntmps10
  go_wp2
  go_quiet (fail)
  go_wp2
  go_region
  all_goals
    go_wp2
    go_ret
    have hb : ((w.alloc (.cells #[.int .i64 0] 3)).setCell ⟨m.blk, 3, none⟩ (.bool true)).heap[m.blk]? = some (.cells (wireCells m { x with s1 := true }) 65 (0, 0)) := by simpa [wireCells] using blk_set (blk_alloc HW.out.blk (.cells #[.int .i64 0] 3)) 3 (.bool true)
    have ho : Only (· = m.blk) w ((w.alloc (.cells #[.int .i64 0] 3)).setCell ⟨m.blk, 3, none⟩ (.bool true)) := Only.setCell (S := (· = m.blk)) ((Only.refl _ w).alloc _) (fun _ => rfl) _
    exact ⟨rfl, setS_at HW.out (ho.trans ⟨rfl, rfl, rfl, Nat.le_refl _, fun _ _ _ => rfl⟩) hb rfl rfl, ho.trans ⟨rfl, rfl, rfl, Nat.le_refl _, fun _ _ _ => rfl⟩⟩
set_option maxHeartbeats 1000000 in
theorem shut1_lost (p ga oa n ca i : Nat) (m : WMem) (x : Wire) (w : World)
    (hp : w.heap[p]? = some (.cells #[.bool true, .slice (some ⟨ga, oa, none⟩) n ca] 26 (0, 0))) (hg : ga < w.heap.size) (hel : w.cell? ⟨ga, oa + i, none⟩ = some (ptr m.blk)) (hi : i < n) (hn : n ≤ 256) (hw : WireAt w m x)
    (hlost : x.lost = true) :
    Calls Try.prog 10 #[.pointer (some ⟨p, 0, none⟩), .int .i64 ((i : Int) + 1), .int .i64 1] w fun e w' => e = .returned (.int .i64 20) ∧ Quiet w w' := by
  have hp0 : w.cell? ⟨p, 0, none⟩ = some (.bool true) := blk_cell hp 0
  have hp1 : w.cell? ⟨p, 1, none⟩ = some (.slice (some ⟨ga, oa, none⟩) n ca) := blk_cell hp 1
  have hps := lt_of_heap hp
  have w0 : w.cell? ⟨m.blk, 0, none⟩ = some (.slice m.a0 x.q0.length m.c0) := blk_cell hw.blk 0
  have w1 : w.cell? ⟨m.blk, 1, none⟩ = some (.bool x.s0) := blk_cell hw.blk 1
  have w2 : w.cell? ⟨m.blk, 2, none⟩ = some (.slice m.a1 x.q1.length m.c1) := blk_cell hw.blk 2
  have w3 : w.cell? ⟨m.blk, 3, none⟩ = some (.bool x.s1) := blk_cell hw.blk 3
  have w4 : w.cell? ⟨m.blk, 4, none⟩ = some (.bool x.lost) := blk_cell hw.blk 4
  rw [hlost] at w4
  have wl := lt_of_heap hw.blk
  have hq0 := hw.small.1
  have hq1 := hw.small.2
  have HP := Lib.hid hp; clear hp
  have HW := Lib.hid hw; clear hw
  unfold ptr at hel
  have g1 : ga < w.heap.size + 1 := by omega
  have p1 : p < w.heap.size + 1 := by omega
  have b1 : m.blk < w.heap.size + 1 := by omega
  have g2 : ga < w.heap.size + 1 + 1 := by omega
  have p2 : p < w.heap.size + 1 + 1 := by omega
  have b2 : m.blk < w.heap.size + 1 + 1 := by omega
  have HL := Lib.hid hlost; clear hlost
  go_enter Try.func10, Try.ntmps10
  go_wp2
  go_ret
  exact ⟨rfl, (by repeat (first | exact Only.refl _ _ | refine Only.drewN ?_ _ | refine Only.drew ?_ | refine Only.alloc ?_ _))⟩
set_option maxHeartbeats 1000000 in
theorem shut1_shut (p ga oa n ca i : Nat) (m : WMem) (x : Wire) (w : World)
    (hp : w.heap[p]? = some (.cells #[.bool true, .slice (some ⟨ga, oa, none⟩) n ca] 26 (0, 0))) (hg : ga < w.heap.size) (hel : w.cell? ⟨ga, oa + i, none⟩ = some (ptr m.blk)) (hi : i < n) (hn : n ≤ 256) (hw : WireAt w m x)
    (hlost : x.lost = false) (hs : x.s0 = true) :
    Calls Try.prog 10 #[.pointer (some ⟨p, 0, none⟩), .int .i64 ((i : Int) + 1), .int .i64 1] w fun e w' => e = .returned (.int .i64 16) ∧ Quiet w w' := by
  have hp0 : w.cell? ⟨p, 0, none⟩ = some (.bool true) := blk_cell hp 0
  have hp1 : w.cell? ⟨p, 1, none⟩ = some (.slice (some ⟨ga, oa, none⟩) n ca) := blk_cell hp 1
  have hps := lt_of_heap hp
  have w0 : w.cell? ⟨m.blk, 0, none⟩ = some (.slice m.a0 x.q0.length m.c0) := blk_cell hw.blk 0
  have w1 : w.cell? ⟨m.blk, 1, none⟩ = some (.bool x.s0) := blk_cell hw.blk 1
  have w2 : w.cell? ⟨m.blk, 2, none⟩ = some (.slice m.a1 x.q1.length m.c1) := blk_cell hw.blk 2
  have w3 : w.cell? ⟨m.blk, 3, none⟩ = some (.bool x.s1) := blk_cell hw.blk 3
  have w4 : w.cell? ⟨m.blk, 4, none⟩ = some (.bool x.lost) := blk_cell hw.blk 4
  rw [hlost] at w4
  rw [hs] at w1
  have wl := lt_of_heap hw.blk
  have hq0 := hw.small.1
  have hq1 := hw.small.2
  have HP := Lib.hid hp; clear hp
  have HW := Lib.hid hw; clear hw
  unfold ptr at hel
  have g1 : ga < w.heap.size + 1 := by omega
  have p1 : p < w.heap.size + 1 := by omega
  have b1 : m.blk < w.heap.size + 1 := by omega
  have g2 : ga < w.heap.size + 1 + 1 := by omega
  have p2 : p < w.heap.size + 1 + 1 := by omega
  have b2 : m.blk < w.heap.size + 1 + 1 := by omega
  have HL := Lib.hid hlost; clear hlost
  have HS := Lib.hid hs; clear hs
  go_enter Try.func10, Try.ntmps10
  go_wp2
  go_quiet (fail)
  go_wp2
  go_ret
  exact ⟨rfl, (by repeat (first | exact Only.refl _ _ | refine Only.drewN ?_ _ | refine Only.drew ?_ | refine Only.alloc ?_ _))⟩
set_option maxHeartbeats 1000000 in
theorem shut1_ok (p ga oa n ca i : Nat) (m : WMem) (x : Wire) (w : World)
    (hp : w.heap[p]? = some (.cells #[.bool true, .slice (some ⟨ga, oa, none⟩) n ca] 26 (0, 0))) (hg : ga < w.heap.size) (hel : w.cell? ⟨ga, oa + i, none⟩ = some (ptr m.blk)) (hi : i < n) (hn : n ≤ 256) (hw : WireAt w m x)
    (hlost : x.lost = false) (hs : x.s0 = false) :
    Calls Try.prog 10 #[.pointer (some ⟨p, 0, none⟩), .int .i64 ((i : Int) + 1), .int .i64 1] w fun e w' => e = .returned (.int .i64 0) ∧ WireAt w' m { x with s0 := true } ∧ Only (fun k => k = m.blk) w w' := by
  have hp0 : w.cell? ⟨p, 0, none⟩ = some (.bool true) := blk_cell hp 0
  have hp1 : w.cell? ⟨p, 1, none⟩ = some (.slice (some ⟨ga, oa, none⟩) n ca) := blk_cell hp 1
  have hps := lt_of_heap hp
  have w0 : w.cell? ⟨m.blk, 0, none⟩ = some (.slice m.a0 x.q0.length m.c0) := blk_cell hw.blk 0
  have w1 : w.cell? ⟨m.blk, 1, none⟩ = some (.bool x.s0) := blk_cell hw.blk 1
  have w2 : w.cell? ⟨m.blk, 2, none⟩ = some (.slice m.a1 x.q1.length m.c1) := blk_cell hw.blk 2
  have w3 : w.cell? ⟨m.blk, 3, none⟩ = some (.bool x.s1) := blk_cell hw.blk 3
  have w4 : w.cell? ⟨m.blk, 4, none⟩ = some (.bool x.lost) := blk_cell hw.blk 4
  rw [hlost] at w4
  rw [hs] at w1
  have wf := blk_frozen hw.blk 1
  have wl := lt_of_heap hw.blk
  have hq0 := hw.small.1
  have hq1 := hw.small.2
  have HP := Lib.hid hp; clear hp
  have HW := Lib.hid hw; clear hw
  unfold ptr at hel
  have g1 : ga < w.heap.size + 1 := by omega
  have p1 : p < w.heap.size + 1 := by omega
  have b1 : m.blk < w.heap.size + 1 := by omega
  have g2 : ga < w.heap.size + 1 + 1 := by omega
  have p2 : p < w.heap.size + 1 + 1 := by omega
  have b2 : m.blk < w.heap.size + 1 + 1 := by omega
  have HL := Lib.hid hlost; clear hlost
  have HS := Lib.hid hs; clear hs
  go_enter Try.func10, Try.ntmps10
  go_wp2
  go_quiet (fail)
  go_wp2
  go_region
  all_goals
    go_wp2
    go_ret
    have hb : ((w.alloc (.cells #[.int .i64 1] 3)).setCell ⟨m.blk, 1, none⟩ (.bool true)).heap[m.blk]? = some (.cells (wireCells m { x with s0 := true }) 65 (0, 0)) := by simpa [wireCells] using blk_set (blk_alloc HW.out.blk (.cells #[.int .i64 1] 3)) 1 (.bool true)
    have ho : Only (· = m.blk) w ((w.alloc (.cells #[.int .i64 1] 3)).setCell ⟨m.blk, 1, none⟩ (.bool true)) := Only.setCell (S := (· = m.blk)) ((Only.refl _ w).alloc _) (fun _ => rfl) _
    exact ⟨rfl, setS_at HW.out (ho.trans ⟨rfl, rfl, rfl, Nat.le_refl _, fun _ _ _ => rfl⟩) hb rfl rfl, ho.trans ⟨rfl, rfl, rfl, Nat.le_refl _, fun _ _ _ => rfl⟩⟩
set_option maxHeartbeats 1000000 in
theorem reset_lost (p ga oa n ca i : Nat) (m : WMem) (x : Wire) (w : World)
    (hp : w.heap[p]? = some (.cells #[.bool true, .slice (some ⟨ga, oa, none⟩) n ca] 26 (0, 0))) (hg : ga < w.heap.size) (hel : w.cell? ⟨ga, oa + i, none⟩ = some (ptr m.blk)) (hi : i < n) (hn : n ≤ 256) (hw : WireAt w m x)
    (hlost : x.lost = true) :
    Calls Try.prog 11 #[.pointer (some ⟨p, 0, none⟩), .int .i64 ((i : Int) + 1)] w fun e w' => e = .returned (.int .i64 20) ∧ Quiet w w' := by
  have hp0 : w.cell? ⟨p, 0, none⟩ = some (.bool true) := blk_cell hp 0
  have hp1 : w.cell? ⟨p, 1, none⟩ = some (.slice (some ⟨ga, oa, none⟩) n ca) := blk_cell hp 1
  have hps := lt_of_heap hp
  have w0 : w.cell? ⟨m.blk, 0, none⟩ = some (.slice m.a0 x.q0.length m.c0) := blk_cell hw.blk 0
  have w1 : w.cell? ⟨m.blk, 1, none⟩ = some (.bool x.s0) := blk_cell hw.blk 1
  have w2 : w.cell? ⟨m.blk, 2, none⟩ = some (.slice m.a1 x.q1.length m.c1) := blk_cell hw.blk 2
  have w3 : w.cell? ⟨m.blk, 3, none⟩ = some (.bool x.s1) := blk_cell hw.blk 3
  have w4 : w.cell? ⟨m.blk, 4, none⟩ = some (.bool x.lost) := blk_cell hw.blk 4
  rw [hlost] at w4
  have wl := lt_of_heap hw.blk
  have hq0 := hw.small.1
  have hq1 := hw.small.2
  have HP := Lib.hid hp; clear hp
  have HW := Lib.hid hw; clear hw
  unfold ptr at hel
  have g1 : ga < w.heap.size + 1 := by omega
  have p1 : p < w.heap.size + 1 := by omega
  have b1 : m.blk < w.heap.size + 1 := by omega
  have g2 : ga < w.heap.size + 1 + 1 := by omega
  have p2 : p < w.heap.size + 1 + 1 := by omega
  have b2 : m.blk < w.heap.size + 1 + 1 := by omega
  have HL := Lib.hid hlost; clear hlost
  go_enter Try.func11, Try.ntmps11
  go_wp2
  go_ret
  exact ⟨rfl, (by repeat (first | exact Only.refl _ _ | refine Only.drewN ?_ _ | refine Only.drew ?_ | refine Only.alloc ?_ _))⟩
set_option maxHeartbeats 1000000 in
theorem reset_ok (p ga oa n ca i : Nat) (m : WMem) (x : Wire) (w : World)
    (hp : w.heap[p]? = some (.cells #[.bool true, .slice (some ⟨ga, oa, none⟩) n ca] 26 (0, 0))) (hg : ga < w.heap.size) (hel : w.cell? ⟨ga, oa + i, none⟩ = some (ptr m.blk)) (hi : i < n) (hn : n ≤ 256) (hw : WireAt w m x)
    (hlost : x.lost = false) :
    Calls Try.prog 11 #[.pointer (some ⟨p, 0, none⟩), .int .i64 ((i : Int) + 1)] w fun e w' => e = .returned (.int .i64 0) ∧ WireAt w' { m with a0 := none, c0 := 0, a1 := none, c1 := 0 } lostWire ∧ Only (fun k => k = m.blk) w w' := by
  have hp0 : w.cell? ⟨p, 0, none⟩ = some (.bool true) := blk_cell hp 0
  have hp1 : w.cell? ⟨p, 1, none⟩ = some (.slice (some ⟨ga, oa, none⟩) n ca) := blk_cell hp 1
  have hps := lt_of_heap hp
  have w0 : w.cell? ⟨m.blk, 0, none⟩ = some (.slice m.a0 x.q0.length m.c0) := blk_cell hw.blk 0
  have w1 : w.cell? ⟨m.blk, 1, none⟩ = some (.bool x.s0) := blk_cell hw.blk 1
  have w2 : w.cell? ⟨m.blk, 2, none⟩ = some (.slice m.a1 x.q1.length m.c1) := blk_cell hw.blk 2
  have w3 : w.cell? ⟨m.blk, 3, none⟩ = some (.bool x.s1) := blk_cell hw.blk 3
  have w4 : w.cell? ⟨m.blk, 4, none⟩ = some (.bool x.lost) := blk_cell hw.blk 4
  rw [hlost] at w4
  have wf0 := blk_frozen hw.blk 0
  have wf1 := blk_frozen hw.blk 1
  have wf2 := blk_frozen hw.blk 2
  have wf3 := blk_frozen hw.blk 3
  have wf4 := blk_frozen hw.blk 4
  have wl := lt_of_heap hw.blk
  have hq0 := hw.small.1
  have hq1 := hw.small.2
  have HP := Lib.hid hp; clear hp
  have HW := Lib.hid hw; clear hw
  unfold ptr at hel
  have g1 : ga < w.heap.size + 1 := by omega
  have p1 : p < w.heap.size + 1 := by omega
  have b1 : m.blk < w.heap.size + 1 := by omega
  have g2 : ga < w.heap.size + 1 + 1 := by omega
  have p2 : p < w.heap.size + 1 + 1 := by omega
  have b2 : m.blk < w.heap.size + 1 + 1 := by omega
  have HL := Lib.hid hlost; clear hlost
  go_enter Try.func11, Try.ntmps11
  go_wp2
  go_ret
  have hb := blk_set (blk_set (blk_set (blk_set (blk_set HW.out.blk 0 (.slice none 0 0)) 1 (.bool false)) 2 (.slice none 0 0)) 3 (.bool false)) 4 (.bool true)
  refine ⟨rfl, ⟨by simpa [wireCells, lostWire] using hb, Sl.nil _ _, Sl.nil _ _, by simp [lostWire], fun k hk => by obtain ⟨a, h, _⟩ := hk; cases h⟩, ?_⟩
  repeat (first | exact Only.refl _ _ | refine Only.setCell (S := (· = m.blk)) ?_ (fun _ => rfl) _)
set_option maxHeartbeats 1000000 in
theorem waiting0_at (p ga oa n ca i : Nat) (m : WMem) (x : Wire) (w : World)
    (hp : w.heap[p]? = some (.cells #[.bool true, .slice (some ⟨ga, oa, none⟩) n ca] 26 (0, 0))) (hg : ga < w.heap.size) (hel : w.cell? ⟨ga, oa + i, none⟩ = some (ptr m.blk)) (hi : i < n) (hn : n ≤ 256) (hw : WireAt w m x) :
    Calls Try.prog 12 #[.pointer (some ⟨p, 0, none⟩), .int .i64 ((i : Int) + 1), .int .i64 0] w fun e w' => e = .returned (.int .i64 x.q0.length) ∧ Quiet w w' := by
  have hp0 : w.cell? ⟨p, 0, none⟩ = some (.bool true) := blk_cell hp 0
  have hp1 : w.cell? ⟨p, 1, none⟩ = some (.slice (some ⟨ga, oa, none⟩) n ca) := blk_cell hp 1
  have hps := lt_of_heap hp
  have w0 : w.cell? ⟨m.blk, 0, none⟩ = some (.slice m.a0 x.q0.length m.c0) := blk_cell hw.blk 0
  have w1 : w.cell? ⟨m.blk, 1, none⟩ = some (.bool x.s0) := blk_cell hw.blk 1
  have w2 : w.cell? ⟨m.blk, 2, none⟩ = some (.slice m.a1 x.q1.length m.c1) := blk_cell hw.blk 2
  have w3 : w.cell? ⟨m.blk, 3, none⟩ = some (.bool x.s1) := blk_cell hw.blk 3
  have w4 : w.cell? ⟨m.blk, 4, none⟩ = some (.bool x.lost) := blk_cell hw.blk 4
  have wl := lt_of_heap hw.blk
  have hq0 := hw.small.1
  have hq1 := hw.small.2
  have HP := Lib.hid hp; clear hp
  have HW := Lib.hid hw; clear hw
  unfold ptr at hel
  have g1 : ga < w.heap.size + 1 := by omega
  have p1 : p < w.heap.size + 1 := by omega
  have b1 : m.blk < w.heap.size + 1 := by omega
  have g2 : ga < w.heap.size + 1 + 1 := by omega
  have p2 : p < w.heap.size + 1 + 1 := by omega
  have b2 : m.blk < w.heap.size + 1 + 1 := by omega
  go_enter Try.func12, Try.ntmps12
  go_wp2
  go_ret
  exact ⟨rfl, (by repeat (first | exact Only.refl _ _ | refine Only.drewN ?_ _ | refine Only.drew ?_ | refine Only.alloc ?_ _))⟩
set_option maxHeartbeats 1000000 in
theorem ended0_at (p ga oa n ca i : Nat) (m : WMem) (x : Wire) (w : World)
    (hp : w.heap[p]? = some (.cells #[.bool true, .slice (some ⟨ga, oa, none⟩) n ca] 26 (0, 0))) (hg : ga < w.heap.size) (hel : w.cell? ⟨ga, oa + i, none⟩ = some (ptr m.blk)) (hi : i < n) (hn : n ≤ 256) (hw : WireAt w m x) :
    Calls Try.prog 13 #[.pointer (some ⟨p, 0, none⟩), .int .i64 ((i : Int) + 1), .int .i64 0] w fun e w' => e = .returned (.bool (x.lost || (x.s0 && decide (x.q0.length = 0)))) ∧ Quiet w w' := by
  cases hl : x.lost with
  | true =>
    have hp0 : w.cell? ⟨p, 0, none⟩ = some (.bool true) := blk_cell hp 0
    have hp1 : w.cell? ⟨p, 1, none⟩ = some (.slice (some ⟨ga, oa, none⟩) n ca) := blk_cell hp 1
    have hps := lt_of_heap hp
    have w0 : w.cell? ⟨m.blk, 0, none⟩ = some (.slice m.a0 x.q0.length m.c0) := blk_cell hw.blk 0
    have w1 : w.cell? ⟨m.blk, 1, none⟩ = some (.bool x.s0) := blk_cell hw.blk 1
    have w2 : w.cell? ⟨m.blk, 2, none⟩ = some (.slice m.a1 x.q1.length m.c1) := blk_cell hw.blk 2
    have w3 : w.cell? ⟨m.blk, 3, none⟩ = some (.bool x.s1) := blk_cell hw.blk 3
    have w4 : w.cell? ⟨m.blk, 4, none⟩ = some (.bool x.lost) := blk_cell hw.blk 4
    rw [hl] at w4
    have wl := lt_of_heap hw.blk
    have hq0 := hw.small.1
    have hq1 := hw.small.2
    have HP := Lib.hid hp; clear hp
    have HW := Lib.hid hw; clear hw
    unfold ptr at hel
    have g1 : ga < w.heap.size + 1 := by omega
    have p1 : p < w.heap.size + 1 := by omega
    have b1 : m.blk < w.heap.size + 1 := by omega
    have g2 : ga < w.heap.size + 1 + 1 := by omega
    have p2 : p < w.heap.size + 1 + 1 := by omega
    have b2 : m.blk < w.heap.size + 1 + 1 := by omega
    clear hl
    go_enter Try.func13, Try.ntmps13
    go_wp2
    go_ret
    exact ⟨rfl, (by repeat (first | exact Only.refl _ _ | refine Only.drewN ?_ _ | refine Only.drew ?_ | refine Only.alloc ?_ _))⟩
  | false =>
    cases hs : x.s0 with
    | false =>
      have hp0 : w.cell? ⟨p, 0, none⟩ = some (.bool true) := blk_cell hp 0
      have hp1 : w.cell? ⟨p, 1, none⟩ = some (.slice (some ⟨ga, oa, none⟩) n ca) := blk_cell hp 1
      have hps := lt_of_heap hp
      have w0 : w.cell? ⟨m.blk, 0, none⟩ = some (.slice m.a0 x.q0.length m.c0) := blk_cell hw.blk 0
      have w1 : w.cell? ⟨m.blk, 1, none⟩ = some (.bool x.s0) := blk_cell hw.blk 1
      have w2 : w.cell? ⟨m.blk, 2, none⟩ = some (.slice m.a1 x.q1.length m.c1) := blk_cell hw.blk 2
      have w3 : w.cell? ⟨m.blk, 3, none⟩ = some (.bool x.s1) := blk_cell hw.blk 3
      have w4 : w.cell? ⟨m.blk, 4, none⟩ = some (.bool x.lost) := blk_cell hw.blk 4
      rw [hl] at w4
      rw [hs] at w1
      have wl := lt_of_heap hw.blk
      have hq0 := hw.small.1
      have hq1 := hw.small.2
      have HP := Lib.hid hp; clear hp
      have HW := Lib.hid hw; clear hw
      unfold ptr at hel
      have g1 : ga < w.heap.size + 1 := by omega
      have p1 : p < w.heap.size + 1 := by omega
      have b1 : m.blk < w.heap.size + 1 := by omega
      have g2 : ga < w.heap.size + 1 + 1 := by omega
      have p2 : p < w.heap.size + 1 + 1 := by omega
      have b2 : m.blk < w.heap.size + 1 + 1 := by omega
      clear hl hs
      go_enter Try.func13, Try.ntmps13
      go_wp2
      go_ret
      exact ⟨rfl, (by repeat (first | exact Only.refl _ _ | refine Only.drewN ?_ _ | refine Only.drew ?_ | refine Only.alloc ?_ _))⟩
    | true =>
      by_cases hz : x.q0.length = 0
      · have dz : ((x.q0.length : Int) == 0) = true := by simp [hz]
        have hp0 : w.cell? ⟨p, 0, none⟩ = some (.bool true) := blk_cell hp 0
        have hp1 : w.cell? ⟨p, 1, none⟩ = some (.slice (some ⟨ga, oa, none⟩) n ca) := blk_cell hp 1
        have hps := lt_of_heap hp
        have w0 : w.cell? ⟨m.blk, 0, none⟩ = some (.slice m.a0 x.q0.length m.c0) := blk_cell hw.blk 0
        have w1 : w.cell? ⟨m.blk, 1, none⟩ = some (.bool x.s0) := blk_cell hw.blk 1
        have w2 : w.cell? ⟨m.blk, 2, none⟩ = some (.slice m.a1 x.q1.length m.c1) := blk_cell hw.blk 2
        have w3 : w.cell? ⟨m.blk, 3, none⟩ = some (.bool x.s1) := blk_cell hw.blk 3
        have w4 : w.cell? ⟨m.blk, 4, none⟩ = some (.bool x.lost) := blk_cell hw.blk 4
        rw [hl] at w4
        rw [hs] at w1
        have wl := lt_of_heap hw.blk
        have hq0 := hw.small.1
        have hq1 := hw.small.2
        have HP := Lib.hid hp; clear hp
        have HW := Lib.hid hw; clear hw
        unfold ptr at hel
        have g1 : ga < w.heap.size + 1 := by omega
        have p1 : p < w.heap.size + 1 := by omega
        have b1 : m.blk < w.heap.size + 1 := by omega
        have g2 : ga < w.heap.size + 1 + 1 := by omega
        have p2 : p < w.heap.size + 1 + 1 := by omega
        have b2 : m.blk < w.heap.size + 1 + 1 := by omega
        have HZ := Lib.hid hz
        clear hl hs hz
        go_enter Try.func13, Try.ntmps13
        go_wp2
        go_ret
        exact ⟨by simp [HZ.out], (by repeat (first | exact Only.refl _ _ | refine Only.drewN ?_ _ | refine Only.drew ?_ | refine Only.alloc ?_ _))⟩
      · have dz : ((x.q0.length : Int) == 0) = false := by simpa using hz
        have hp0 : w.cell? ⟨p, 0, none⟩ = some (.bool true) := blk_cell hp 0
        have hp1 : w.cell? ⟨p, 1, none⟩ = some (.slice (some ⟨ga, oa, none⟩) n ca) := blk_cell hp 1
        have hps := lt_of_heap hp
        have w0 : w.cell? ⟨m.blk, 0, none⟩ = some (.slice m.a0 x.q0.length m.c0) := blk_cell hw.blk 0
        have w1 : w.cell? ⟨m.blk, 1, none⟩ = some (.bool x.s0) := blk_cell hw.blk 1
        have w2 : w.cell? ⟨m.blk, 2, none⟩ = some (.slice m.a1 x.q1.length m.c1) := blk_cell hw.blk 2
        have w3 : w.cell? ⟨m.blk, 3, none⟩ = some (.bool x.s1) := blk_cell hw.blk 3
        have w4 : w.cell? ⟨m.blk, 4, none⟩ = some (.bool x.lost) := blk_cell hw.blk 4
        rw [hl] at w4
        rw [hs] at w1
        have wl := lt_of_heap hw.blk
        have hq0 := hw.small.1
        have hq1 := hw.small.2
        have HP := Lib.hid hp; clear hp
        have HW := Lib.hid hw; clear hw
        unfold ptr at hel
        have g1 : ga < w.heap.size + 1 := by omega
        have p1 : p < w.heap.size + 1 := by omega
        have b1 : m.blk < w.heap.size + 1 := by omega
        have g2 : ga < w.heap.size + 1 + 1 := by omega
        have p2 : p < w.heap.size + 1 + 1 := by omega
        have b2 : m.blk < w.heap.size + 1 + 1 := by omega
        have HZ := Lib.hid hz
        clear hl hs hz
        go_enter Try.func13, Try.ntmps13
        go_wp2
        go_ret
        exact ⟨by simp [HZ.out], (by repeat (first | exact Only.refl _ _ | refine Only.drewN ?_ _ | refine Only.drew ?_ | refine Only.alloc ?_ _))⟩
set_option maxHeartbeats 1000000 in
theorem waiting1_at (p ga oa n ca i : Nat) (m : WMem) (x : Wire) (w : World)
    (hp : w.heap[p]? = some (.cells #[.bool true, .slice (some ⟨ga, oa, none⟩) n ca] 26 (0, 0))) (hg : ga < w.heap.size) (hel : w.cell? ⟨ga, oa + i, none⟩ = some (ptr m.blk)) (hi : i < n) (hn : n ≤ 256) (hw : WireAt w m x) :
    Calls Try.prog 12 #[.pointer (some ⟨p, 0, none⟩), .int .i64 ((i : Int) + 1), .int .i64 1] w fun e w' => e = .returned (.int .i64 x.q1.length) ∧ Quiet w w' := by
  have hp0 : w.cell? ⟨p, 0, none⟩ = some (.bool true) := blk_cell hp 0
  have hp1 : w.cell? ⟨p, 1, none⟩ = some (.slice (some ⟨ga, oa, none⟩) n ca) := blk_cell hp 1
  have hps := lt_of_heap hp
  have w0 : w.cell? ⟨m.blk, 0, none⟩ = some (.slice m.a0 x.q0.length m.c0) := blk_cell hw.blk 0
  have w1 : w.cell? ⟨m.blk, 1, none⟩ = some (.bool x.s0) := blk_cell hw.blk 1
  have w2 : w.cell? ⟨m.blk, 2, none⟩ = some (.slice m.a1 x.q1.length m.c1) := blk_cell hw.blk 2
  have w3 : w.cell? ⟨m.blk, 3, none⟩ = some (.bool x.s1) := blk_cell hw.blk 3
  have w4 : w.cell? ⟨m.blk, 4, none⟩ = some (.bool x.lost) := blk_cell hw.blk 4
  have wl := lt_of_heap hw.blk
  have hq0 := hw.small.1
  have hq1 := hw.small.2
  have HP := Lib.hid hp; clear hp
  have HW := Lib.hid hw; clear hw
  unfold ptr at hel
  have g1 : ga < w.heap.size + 1 := by omega
  have p1 : p < w.heap.size + 1 := by omega
  have b1 : m.blk < w.heap.size + 1 := by omega
  have g2 : ga < w.heap.size + 1 + 1 := by omega
  have p2 : p < w.heap.size + 1 + 1 := by omega
  have b2 : m.blk < w.heap.size + 1 + 1 := by omega
  go_enter Try.func12, Try.ntmps12
  go_wp2
  go_ret
  exact ⟨rfl, (by repeat (first | exact Only.refl _ _ | refine Only.drewN ?_ _ | refine Only.drew ?_ | refine Only.alloc ?_ _))⟩
set_option maxHeartbeats 1000000 in
theorem ended1_at (p ga oa n ca i : Nat) (m : WMem) (x : Wire) (w : World)
    (hp : w.heap[p]? = some (.cells #[.bool true, .slice (some ⟨ga, oa, none⟩) n ca] 26 (0, 0))) (hg : ga < w.heap.size) (hel : w.cell? ⟨ga, oa + i, none⟩ = some (ptr m.blk)) (hi : i < n) (hn : n ≤ 256) (hw : WireAt w m x) :
    Calls Try.prog 13 #[.pointer (some ⟨p, 0, none⟩), .int .i64 ((i : Int) + 1), .int .i64 1] w fun e w' => e = .returned (.bool (x.lost || (x.s1 && decide (x.q1.length = 0)))) ∧ Quiet w w' := by
  cases hl : x.lost with
  | true =>
    have hp0 : w.cell? ⟨p, 0, none⟩ = some (.bool true) := blk_cell hp 0
    have hp1 : w.cell? ⟨p, 1, none⟩ = some (.slice (some ⟨ga, oa, none⟩) n ca) := blk_cell hp 1
    have hps := lt_of_heap hp
    have w0 : w.cell? ⟨m.blk, 0, none⟩ = some (.slice m.a0 x.q0.length m.c0) := blk_cell hw.blk 0
    have w1 : w.cell? ⟨m.blk, 1, none⟩ = some (.bool x.s0) := blk_cell hw.blk 1
    have w2 : w.cell? ⟨m.blk, 2, none⟩ = some (.slice m.a1 x.q1.length m.c1) := blk_cell hw.blk 2
    have w3 : w.cell? ⟨m.blk, 3, none⟩ = some (.bool x.s1) := blk_cell hw.blk 3
    have w4 : w.cell? ⟨m.blk, 4, none⟩ = some (.bool x.lost) := blk_cell hw.blk 4
    rw [hl] at w4
    have wl := lt_of_heap hw.blk
    have hq0 := hw.small.1
    have hq1 := hw.small.2
    have HP := Lib.hid hp; clear hp
    have HW := Lib.hid hw; clear hw
    unfold ptr at hel
    have g1 : ga < w.heap.size + 1 := by omega
    have p1 : p < w.heap.size + 1 := by omega
    have b1 : m.blk < w.heap.size + 1 := by omega
    have g2 : ga < w.heap.size + 1 + 1 := by omega
    have p2 : p < w.heap.size + 1 + 1 := by omega
    have b2 : m.blk < w.heap.size + 1 + 1 := by omega
    clear hl
    go_enter Try.func13, Try.ntmps13
    go_wp2
    go_ret
    exact ⟨rfl, (by repeat (first | exact Only.refl _ _ | refine Only.drewN ?_ _ | refine Only.drew ?_ | refine Only.alloc ?_ _))⟩
  | false =>
    cases hs : x.s1 with
    | false =>
      have hp0 : w.cell? ⟨p, 0, none⟩ = some (.bool true) := blk_cell hp 0
      have hp1 : w.cell? ⟨p, 1, none⟩ = some (.slice (some ⟨ga, oa, none⟩) n ca) := blk_cell hp 1
      have hps := lt_of_heap hp
      have w0 : w.cell? ⟨m.blk, 0, none⟩ = some (.slice m.a0 x.q0.length m.c0) := blk_cell hw.blk 0
      have w1 : w.cell? ⟨m.blk, 1, none⟩ = some (.bool x.s0) := blk_cell hw.blk 1
      have w2 : w.cell? ⟨m.blk, 2, none⟩ = some (.slice m.a1 x.q1.length m.c1) := blk_cell hw.blk 2
      have w3 : w.cell? ⟨m.blk, 3, none⟩ = some (.bool x.s1) := blk_cell hw.blk 3
      have w4 : w.cell? ⟨m.blk, 4, none⟩ = some (.bool x.lost) := blk_cell hw.blk 4
      rw [hl] at w4
      rw [hs] at w3
      have wl := lt_of_heap hw.blk
      have hq0 := hw.small.1
      have hq1 := hw.small.2
      have HP := Lib.hid hp; clear hp
      have HW := Lib.hid hw; clear hw
      unfold ptr at hel
      have g1 : ga < w.heap.size + 1 := by omega
      have p1 : p < w.heap.size + 1 := by omega
      have b1 : m.blk < w.heap.size + 1 := by omega
      have g2 : ga < w.heap.size + 1 + 1 := by omega
      have p2 : p < w.heap.size + 1 + 1 := by omega
      have b2 : m.blk < w.heap.size + 1 + 1 := by omega
      clear hl hs
      go_enter Try.func13, Try.ntmps13
      go_wp2
      go_ret
      exact ⟨rfl, (by repeat (first | exact Only.refl _ _ | refine Only.drewN ?_ _ | refine Only.drew ?_ | refine Only.alloc ?_ _))⟩
    | true =>
      by_cases hz : x.q1.length = 0
      · have dz : ((x.q1.length : Int) == 0) = true := by simp [hz]
        have hp0 : w.cell? ⟨p, 0, none⟩ = some (.bool true) := blk_cell hp 0
        have hp1 : w.cell? ⟨p, 1, none⟩ = some (.slice (some ⟨ga, oa, none⟩) n ca) := blk_cell hp 1
        have hps := lt_of_heap hp
        have w0 : w.cell? ⟨m.blk, 0, none⟩ = some (.slice m.a0 x.q0.length m.c0) := blk_cell hw.blk 0
        have w1 : w.cell? ⟨m.blk, 1, none⟩ = some (.bool x.s0) := blk_cell hw.blk 1
        have w2 : w.cell? ⟨m.blk, 2, none⟩ = some (.slice m.a1 x.q1.length m.c1) := blk_cell hw.blk 2
        have w3 : w.cell? ⟨m.blk, 3, none⟩ = some (.bool x.s1) := blk_cell hw.blk 3
        have w4 : w.cell? ⟨m.blk, 4, none⟩ = some (.bool x.lost) := blk_cell hw.blk 4
        rw [hl] at w4
        rw [hs] at w3
        have wl := lt_of_heap hw.blk
        have hq0 := hw.small.1
        have hq1 := hw.small.2
        have HP := Lib.hid hp; clear hp
        have HW := Lib.hid hw; clear hw
        unfold ptr at hel
        have g1 : ga < w.heap.size + 1 := by omega
        have p1 : p < w.heap.size + 1 := by omega
        have b1 : m.blk < w.heap.size + 1 := by omega
        have g2 : ga < w.heap.size + 1 + 1 := by omega
        have p2 : p < w.heap.size + 1 + 1 := by omega
        have b2 : m.blk < w.heap.size + 1 + 1 := by omega
        have HZ := Lib.hid hz
        clear hl hs hz
        go_enter Try.func13, Try.ntmps13
        go_wp2
        go_ret
        exact ⟨by simp [HZ.out], (by repeat (first | exact Only.refl _ _ | refine Only.drewN ?_ _ | refine Only.drew ?_ | refine Only.alloc ?_ _))⟩
      · have dz : ((x.q1.length : Int) == 0) = false := by simpa using hz
        have hp0 : w.cell? ⟨p, 0, none⟩ = some (.bool true) := blk_cell hp 0
        have hp1 : w.cell? ⟨p, 1, none⟩ = some (.slice (some ⟨ga, oa, none⟩) n ca) := blk_cell hp 1
        have hps := lt_of_heap hp
        have w0 : w.cell? ⟨m.blk, 0, none⟩ = some (.slice m.a0 x.q0.length m.c0) := blk_cell hw.blk 0
        have w1 : w.cell? ⟨m.blk, 1, none⟩ = some (.bool x.s0) := blk_cell hw.blk 1
        have w2 : w.cell? ⟨m.blk, 2, none⟩ = some (.slice m.a1 x.q1.length m.c1) := blk_cell hw.blk 2
        have w3 : w.cell? ⟨m.blk, 3, none⟩ = some (.bool x.s1) := blk_cell hw.blk 3
        have w4 : w.cell? ⟨m.blk, 4, none⟩ = some (.bool x.lost) := blk_cell hw.blk 4
        rw [hl] at w4
        rw [hs] at w3
        have wl := lt_of_heap hw.blk
        have hq0 := hw.small.1
        have hq1 := hw.small.2
        have HP := Lib.hid hp; clear hp
        have HW := Lib.hid hw; clear hw
        unfold ptr at hel
        have g1 : ga < w.heap.size + 1 := by omega
        have p1 : p < w.heap.size + 1 := by omega
        have b1 : m.blk < w.heap.size + 1 := by omega
        have g2 : ga < w.heap.size + 1 + 1 := by omega
        have p2 : p < w.heap.size + 1 + 1 := by omega
        have b2 : m.blk < w.heap.size + 1 + 1 := by omega
        have HZ := Lib.hid hz
        clear hl hs hz
        go_enter Try.func13, Try.ntmps13
        go_wp2
        go_ret
        exact ⟨by simp [HZ.out], (by repeat (first | exact Only.refl _ _ | refine Only.drewN ?_ _ | refine Only.drew ?_ | refine Only.alloc ?_ _))⟩
end Go.Proofs.Ytdigeppbflkknaa
