/-
  The reference's Waiting and Ended. No conditions.
-/
import Derived.Test.YtdigeppbflkknaaRefMem
namespace Go.Proofs.Ytdigeppbflkknaa
open Go.RowKit
set_option linter.unusedVariables false
set_option linter.unusedSimpArgs false

theorem at_zero {ys : List (RW × Wire)} {k side : Int} (h : (at_ (wires ys) k side).1 = 0) : ∃ (i : Nat) (y : RW × Wire), k = (i : Int) + 1 ∧ ys[i]? = some y ∧ y.2.lost = false ∧ (side = 0 ∨ side = 1) ∧ at_ (wires ys) k side = (0, y.2) := by
  have hl : (wires ys).length = ys.length := by simp [wires]
  by_cases hb : k < 1 ∨ ((wires ys).length : Int) < k ∨ side < 0 ∨ 1 < side
  · rw [at_bad hb] at h
    exact absurd h (by decide)
  · obtain ⟨i, rfl⟩ : ∃ i : Nat, k = (i : Int) + 1 := ⟨(k - 1).toNat, by omega⟩
    obtain ⟨y, hy⟩ : ∃ y, ys[i]? = some y := ⟨_, List.getElem?_eq_getElem (by omega)⟩
    have e := at_ok (side := side) (wires_at hy) (by omega)
    rw [e] at h
    cases hlo : y.2.lost with
    | true => rw [hlo] at h; simp at h
    | false => exact ⟨i, y, rfl, hy, hlo, by omega, by rw [e, hlo]; rfl⟩
theorem waiting_no {ys : List (RW × Wire)} (hg : ∀ y ∈ ys, y.2.lost = true → y.2 = lostWire) {k side : Int} (h : (at_ (wires ys) k side).1 ≠ 0) : waitingF (wires ys) k side = 0 := by
  have hl : (wires ys).length = ys.length := by simp [wires]
  unfold waitingF
  by_cases hb : k < 1 ∨ ((wires ys).length : Int) < k ∨ side < 0 ∨ 1 < side
  · rw [at_bad hb]; rfl
  · obtain ⟨i, rfl⟩ : ∃ i : Nat, k = (i : Int) + 1 := ⟨(k - 1).toNat, by omega⟩
    obtain ⟨y, hy⟩ : ∃ y, ys[i]? = some y := ⟨_, List.getElem?_eq_getElem (by omega)⟩
    have e := at_ok (side := side) (wires_at hy) (by omega)
    rw [e] at h ⊢
    cases hlo : y.2.lost with
    | false => rw [hlo] at h; exact absurd rfl h
    | true =>
      rw [hg y (List.mem_of_getElem? hy) hlo]
      simp [Wire.q, lostWire]
set_option maxHeartbeats 4000000 in
theorem rwaiting_at {base : Nat} {w wr : World} {p : Nat} {v : Value} {ys : List (RW × Wire)} (h : RNet base w wr p v ys) (k side : Int) :
    Calls Try.prog 20 #[.pointer (some ⟨p, 0, none⟩), .int .i64 k, .int .i64 side] wr fun e w' => e = .returned (.int .i64 (waitingF (wires ys) k side)) ∧ Quiet wr w' := by
  have W := Lib.hid (wrong_at h k side)
  by_cases hc : (at_ (wires ys) k side).1 = 0
  · obtain ⟨i, y, rfl, hy, hlo, hs, e⟩ := at_zero hc
    have hw : waitingF (wires ys) ((i : Int) + 1) side = ((y.2.q side).length : Int) := by unfold waitingF; rw [e]; rfl
    rw [hw]
    rw [hc] at W
    have hsm := h.small
    have hi : i < ys.length := (List.getElem?_eq_some_iff.1 hy).1
    have C := Lib.hid (fun (W : World) (hW : Quiet wr W) => (h.quiet hW).net)
    have D := Lib.hid (fun (W : World) (hW : Quiet wr W) => (h.quiet hW).cells hy)
    obtain ⟨g, cap, rfl, hcap, hcm, gs, _, hcl⟩ := h.cells hy
    unfold maxLen at hcm
    have GC := Lib.hid (fun (W : World) (hW : Quiet wr W) => show W.cell? ⟨p, 0, none⟩ = some (.slice (some ⟨g, 0, none⟩) ys.length cap) ∧ W.cell? ⟨g, i * 5, none⟩ = some (.slice y.1.A0 y.2.q0.length y.1.c0) ∧ W.cell? ⟨g, i * 5 + 1, none⟩ = some (.slice y.1.A1 y.2.q1.length y.1.c1) from
      ⟨blk_cell (h.quiet hW).net 0, (hW.cell (p := ⟨g, i * 5, none⟩) gs (fun x => x)).trans (hcl 0 (by omega)), (hW.cell (p := ⟨g, i * 5 + 1, none⟩) gs (fun x => x)).trans (hcl 1 (by omega))⟩)
    obtain ⟨N, hN⟩ : ∃ N, N = ys.length := ⟨_, rfl⟩
    rw [← hN] at GC hi hsm hcap
    clear hN h C D hcl hy hc e hw hlo
    have i0 : (0 : Int) ≤ (i : Int) := by omega
    have i1 : (i : Int) < (N : Int) := by omega
    rcases hs with rfl | rfl
    all_goals
      go_enter Try.func20, Try.ntmps20
      go_wp2_with (go_at_call 28; refine W.out.mono ?_; rintro e w2 ⟨rfl, hq⟩; have Q2 := Lib.hid hq; clear hq; obtain ⟨t0, t1, t2⟩ := GC.out w2 Q2.out)
      go_ret
      exact ⟨rfl, Q2.out⟩
  · rw [waiting_no h.gone hc]
    obtain ⟨c, hcc⟩ : ∃ c, c = (at_ (wires ys) k side).1 := ⟨_, rfl⟩
    rw [← hcc] at W hc
    have dc : (c != 0) = true := by simpa using hc
    clear hcc h hc
    go_enter Try.func20, Try.ntmps20
    go_wp2_with (go_at_call 28; refine W.out.mono ?_; rintro e w2 ⟨rfl, hq⟩; have Q2 := Lib.hid hq; clear hq)
    go_ret
    exact ⟨rfl, Q2.out⟩
theorem ended_no {ys : List (RW × Wire)} {k side : Int} (h : (at_ (wires ys) k side).1 ≠ 0) : endedF (wires ys) k side = true := by
  unfold endedF
  simp [h]
set_option maxHeartbeats 4000000 in
theorem rended_at {base : Nat} {w wr : World} {p : Nat} {v : Value} {ys : List (RW × Wire)} (h : RNet base w wr p v ys) (k side : Int) :
    Calls Try.prog 21 #[.pointer (some ⟨p, 0, none⟩), .int .i64 k, .int .i64 side] wr fun e w' => e = .returned (.bool (endedF (wires ys) k side)) ∧ Quiet wr w' := by
  have W := Lib.hid (wrong_at h k side)
  by_cases hc : (at_ (wires ys) k side).1 = 0
  · obtain ⟨i, y, rfl, hy, hlo, hs, e⟩ := at_zero hc
    have hw : endedF (wires ys) ((i : Int) + 1) side = (y.2.s side && decide ((y.2.q side).length = 0)) := by unfold endedF; rw [e]; simp
    rw [hw]
    rw [hc] at W
    have hsm := h.small
    have hi : i < ys.length := (List.getElem?_eq_some_iff.1 hy).1
    obtain ⟨g, cap, rfl, hcap, hcm, gs, _, hcl⟩ := h.cells hy
    unfold maxLen at hcm
    have GC := Lib.hid (fun (W : World) (hW : Quiet wr W) => show W.cell? ⟨p, 0, none⟩ = some (.slice (some ⟨g, 0, none⟩) ys.length cap) ∧ (W.cell? ⟨g, i * 5, none⟩ = some (.slice y.1.A0 y.2.q0.length y.1.c0) ∧ W.cell? ⟨g, i * 5 + 1, none⟩ = some (.slice y.1.A1 y.2.q1.length y.1.c1) ∧ W.cell? ⟨g, i * 5 + 2, none⟩ = some (.bool y.2.s1) ∧ W.cell? ⟨g, i * 5 + 3, none⟩ = some (.bool y.2.s0) ∧ W.cell? ⟨g, i * 5 + 4, none⟩ = some (.bool y.2.lost)) ∧ g < W.heap.size from
      ⟨blk_cell (h.quiet hW).net 0, ⟨(hW.cell (p := ⟨g, i * 5, none⟩) gs (fun x => x)).trans (hcl 0 (by omega)), (hW.cell (p := ⟨g, i * 5 + 1, none⟩) gs (fun x => x)).trans (hcl 1 (by omega)), (hW.cell (p := ⟨g, i * 5 + 2, none⟩) gs (fun x => x)).trans (hcl 2 (by omega)), (hW.cell (p := ⟨g, i * 5 + 3, none⟩) gs (fun x => x)).trans (hcl 3 (by omega)), (hW.cell (p := ⟨g, i * 5 + 4, none⟩) gs (fun x => x)).trans (hcl 4 (by omega))⟩, Nat.lt_of_lt_of_le gs hW.size⟩)
    obtain ⟨N, hN⟩ : ∃ N, N = ys.length := ⟨_, rfl⟩
    rw [← hN] at GC hi hsm hcap
    have hz0 : ((y.2.q0.length : Int) == 0) = decide (y.2.q0.length = 0) := by rw [Bool.eq_iff_iff]; simp
    have hz1 : ((y.2.q1.length : Int) == 0) = decide (y.2.q1.length = 0) := by rw [Bool.eq_iff_iff]; simp
    simp only [Wire.s, Wire.q]
    have i0 : (0 : Int) ≤ (i : Int) := by omega
    have i1 : (i : Int) < (N : Int) := by omega
    clear hN h hcl hy hc e hw hlo
    rcases hs with rfl | rfl
    all_goals
      go_enter Try.func21, Try.ntmps21
      go_wp2_with (go_at_call 28; refine W.out.mono ?_; rintro e w2 ⟨rfl, hq⟩; have Q2 := Lib.hid hq; clear hq; obtain ⟨t0, ⟨t1, t2, t3, t4, t5⟩, t6⟩ := GC.out w2 Q2.out)
      all_goals
        go_ret
        exact ⟨by first | rfl | (simp; done) | simp_all, Q2.out.alloc _⟩
  · rw [ended_no hc]
    obtain ⟨c, hcc⟩ : ∃ c, c = (at_ (wires ys) k side).1 := ⟨_, rfl⟩
    rw [← hcc] at W hc
    have dc : (c != 0) = true := by simpa using hc
    clear hcc h hc
    go_enter Try.func21, Try.ntmps21
    go_wp2_with (go_at_call 28; refine W.out.mono ?_; rintro e w2 ⟨rfl, hq⟩; have Q2 := Lib.hid hq; clear hq)
    go_ret
    exact ⟨rfl, Q2.out⟩
end Go.Proofs.Ytdigeppbflkknaa
