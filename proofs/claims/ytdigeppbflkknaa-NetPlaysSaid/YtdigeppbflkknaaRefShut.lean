/-
  The reference's Shut and Reset. No conditions.
-/
import Derived.Test.YtdigeppbflkknaaRefTurn
namespace Go.Proofs.Ytdigeppbflkknaa
open Go.RowKit
set_option linter.unusedVariables false
set_option linter.unusedSimpArgs false

theorem RNet.facts {base : Nat} {w wr : World} {p : Nat} {v : Value} {ys : List (RW × Wire)} (h : RNet base w wr p v ys) {i : Nat} {y : RW × Wire} (hy : ys[i]? = some y) :
    ∃ g cap, v = .slice (some ⟨g, 0, none⟩) ys.length cap ∧ ys.length ≤ cap ∧ cap ≤ maxLen ∧ g < wr.heap.size ∧ p < wr.heap.size ∧ ∀ W, Quiet wr W → W.cell? ⟨p, 0, none⟩ = some (.slice (some ⟨g, 0, none⟩) ys.length cap) ∧
      (W.cell? ⟨g, i * 5, none⟩ = some (.slice y.1.A0 y.2.q0.length y.1.c0) ∧ W.cell? ⟨g, i * 5 + 1, none⟩ = some (.slice y.1.A1 y.2.q1.length y.1.c1) ∧ W.cell? ⟨g, i * 5 + 2, none⟩ = some (.bool y.2.s1) ∧ W.cell? ⟨g, i * 5 + 3, none⟩ = some (.bool y.2.s0) ∧ W.cell? ⟨g, i * 5 + 4, none⟩ = some (.bool y.2.lost)) ∧
      g < W.heap.size ∧ p < W.heap.size ∧ (∀ j, W.frozen? ⟨g, j, none⟩ = false) ∧ W.frozen? ⟨p, 0, none⟩ = false := by
  obtain ⟨g, cap, rfl, hcap, hcm, gs, _, hcl⟩ := h.cells hy
  have ps := lt_of_heap h.net
  refine ⟨g, cap, rfl, hcap, hcm, gs, ps, fun W hW => ?_⟩
  obtain ⟨cur, hg⟩ := (h.quiet hW).gside.2
  exact ⟨blk_cell (h.quiet hW).net 0, ⟨(hW.cell (p := ⟨g, i * 5, none⟩) gs (fun x => x)).trans (hcl 0 (by omega)), (hW.cell (p := ⟨g, i * 5 + 1, none⟩) gs (fun x => x)).trans (hcl 1 (by omega)), (hW.cell (p := ⟨g, i * 5 + 2, none⟩) gs (fun x => x)).trans (hcl 2 (by omega)), (hW.cell (p := ⟨g, i * 5 + 3, none⟩) gs (fun x => x)).trans (hcl 3 (by omega)), (hW.cell (p := ⟨g, i * 5 + 4, none⟩) gs (fun x => x)).trans (hcl 4 (by omega))⟩,
    Nat.lt_of_lt_of_le gs hW.size, Nat.lt_of_lt_of_le ps hW.size, fun j => blk_frozen hg j, blk_frozen (h.quiet hW).net 0⟩
/-- What a call of the reference's leaves. -/
def RPost (base : Nat) (w wr : World) (p : Nat) (ys : List (RW × Wire)) (xs : List Wire) (w' : World) : Prop := ∃ v' ys', RNet base w w' p v' ys' ∧ wires ys' = xs ∧ RStep wr w' ys ys'
theorem RPost.same {base : Nat} {w wr w' : World} {p : Nat} {v : Value} {ys : List (RW × Wire)} (h : RNet base w wr p v ys) (hq : Quiet wr w') : RPost base w wr p ys (wires ys) w' := ⟨v, ys, h.quiet hq, rfl, RStep.quiet hq⟩
theorem RPost.quiet {base : Nat} {w wr w1 w' : World} {p : Nat} {ys : List (RW × Wire)} {xs : List Wire} (h : RPost base w wr p ys xs w1) (hq : Quiet w1 w') : RPost base w wr p ys xs w' := by
  obtain ⟨v', ys', h1, h2, h3⟩ := h
  exact ⟨v', ys', h1.quiet hq, h2, h3.only.trans (hq.mono (fun _ _ x => x.elim)), h3.grow⟩
theorem shut1_post {base : Nat} {w wr W : World} {p g cap N : Nat} {ys : List (RW × Wire)} (h : RNet base w wr p (.slice (some ⟨g, 0, none⟩) N cap) ys) (hN : N = ys.length) (hq : Quiet wr W) {i : Nat} {y : RW × Wire} (hy : ys[i]? = some y) (hlo : y.2.lost = false) :
    RPost base w wr p ys ((wires ys).set i (y.2.setS 1)) (W.setCell ⟨g, i * 5 + 2, none⟩ (.bool true)) := by
  subst hN
  have hs := (h.quiet hq).sl y (List.mem_of_getElem? hy)
  obtain ⟨h1, h2, h3⟩ := h.turn1 hq hy (y.1, y.2.setS 1) 2 (.bool true) (by decide) rfl hs (fun e => by have e : y.2.lost = true := e; rw [hlo] at e; cases e) (fun k hk => .inl (rb_at hy hk))
  exact ⟨_, _, h1, h2, h3⟩
theorem shut0_post {base : Nat} {w wr W : World} {p g cap N : Nat} {ys : List (RW × Wire)} (h : RNet base w wr p (.slice (some ⟨g, 0, none⟩) N cap) ys) (hN : N = ys.length) (hq : Quiet wr W) {i : Nat} {y : RW × Wire} (hy : ys[i]? = some y) (hlo : y.2.lost = false) :
    RPost base w wr p ys ((wires ys).set i (y.2.setS 0)) (W.setCell ⟨g, i * 5 + 3, none⟩ (.bool true)) := by
  subst hN
  have hs := (h.quiet hq).sl y (List.mem_of_getElem? hy)
  obtain ⟨h1, h2, h3⟩ := h.turn1 hq hy (y.1, y.2.setS 0) 3 (.bool true) (by decide) rfl hs (fun e => by have e : y.2.lost = true := e; rw [hlo] at e; cases e) (fun k hk => .inl (rb_at hy hk))
  exact ⟨_, _, h1, h2, h3⟩
set_option maxHeartbeats 4000000 in
theorem rshut_at {base : Nat} {w wr : World} {p : Nat} {v : Value} {ys : List (RW × Wire)} (h : RNet base w wr p v ys) (k side : Int) :
    Calls Try.prog 18 #[.pointer (some ⟨p, 0, none⟩), .int .i64 k, .int .i64 side] wr fun e w' => e = .returned (.int .i64 (shutF (wires ys) k side).1) ∧ RPost base w wr p ys (shutF (wires ys) k side).2 w' := by
  have W := Lib.hid (wrong_at h k side)
  by_cases hc : (at_ (wires ys) k side).1 = 0
  · obtain ⟨i, y, rfl, hy, hlo, hs, e⟩ := at_zero hc
    have hsm := h.small
    have hi : i < ys.length := (List.getElem?_eq_some_iff.1 hy).1
    obtain ⟨g, cap, rfl, hcap, hcm, gs, ps, hf⟩ := h.facts hy
    unfold maxLen at hcm
    have HF := Lib.hid hf; clear hf
    rw [hc] at W
    unfold shutF
    rw [e]
    have HY := Lib.hid hy; clear hy
    have H := Lib.hid h; clear h
    obtain ⟨N, hN⟩ : ∃ N, N = ys.length := ⟨_, rfl⟩
    have HN := Lib.hid hN
    rw [← hN] at HF H hi hsm hcap
    clear hN hc e
    have i0 : (0 : Int) ≤ (i : Int) := by omega
    have i1 : (i : Int) < (N : Int) := by omega
    rcases hs with rfl | rfl
    · simp only [Wire.s, show ¬ ((1 : Int) - 0 = 0) by decide, if_false]
      cases hss : y.2.s1
      all_goals
        have HSS := Lib.hid hss
        go_enter Try.func18, Try.ntmps18
        go_wp2_with (go_at_call 28; refine W.out.mono ?_; rintro e w2 ⟨rfl, hq⟩; have Q2 := Lib.hid hq; clear hq; obtain ⟨t0, ⟨t1, t2, t3, t4, t5⟩, t6, t7, t8, t9⟩ := HF.out w2 Q2.out; have t10 := t8 (i * 5 + 2); clear t8; rw [hss] at t3; clear hss)
        all_goals go_ret
      · exact ⟨rfl, (shut1_post H.out HN.out Q2.out HY.out hlo).quiet ((Only.refl _ _).alloc _)⟩
      · exact ⟨rfl, RPost.same (HN.out ▸ H.out) (Q2.out.alloc _)⟩
    · simp only [Wire.s, show ((1 : Int) - 1 = 0) by decide, if_true]
      cases hss : y.2.s0
      all_goals
        have HSS := Lib.hid hss
        go_enter Try.func18, Try.ntmps18
        go_wp2_with (go_at_call 28; refine W.out.mono ?_; rintro e w2 ⟨rfl, hq⟩; have Q2 := Lib.hid hq; clear hq; obtain ⟨t0, ⟨t1, t2, t3, t4, t5⟩, t6, t7, t8, t9⟩ := HF.out w2 Q2.out; have t10 := t8 (i * 5 + 3); clear t8; rw [hss] at t4; clear hss)
        all_goals go_ret
      · exact ⟨rfl, (shut0_post H.out HN.out Q2.out HY.out hlo).quiet ((Only.refl _ _).alloc _)⟩
      · exact ⟨rfl, RPost.same (HN.out ▸ H.out) (Q2.out.alloc _)⟩
  · have e0 : shutF (wires ys) k side = ((at_ (wires ys) k side).1, wires ys) := by simp [shutF, hc]
    rw [e0]
    obtain ⟨c, hcc⟩ : ∃ c, c = (at_ (wires ys) k side).1 := ⟨_, rfl⟩
    rw [← hcc] at W hc ⊢
    have dc : (c != 0) = true := by simpa using hc
    have H := Lib.hid h
    clear hcc h hc e0
    go_enter Try.func18, Try.ntmps18
    go_wp2_with (go_at_call 28; refine W.out.mono ?_; rintro e w2 ⟨rfl, hq⟩; have Q2 := Lib.hid hq; clear hq)
    go_ret
    exact ⟨rfl, RPost.same H.out Q2.out⟩
end Go.Proofs.Ytdigeppbflkknaa
