/-
  The reference's Reset. No conditions.
-/
import Derived.Test.YtdigeppbflkknaaRefShut
namespace Go.Proofs.Ytdigeppbflkknaa
open Go.RowKit
set_option linter.unusedVariables false
set_option linter.unusedSimpArgs false

theorem reset_post {base : Nat} {w wr W : World} {p g cap N : Nat} {ys : List (RW × Wire)} (h : RNet base w wr p (.slice (some ⟨g, 0, none⟩) N cap) ys) (hN : N = ys.length) (hq : Quiet wr W) {i : Nat} {y : RW × Wire} (hy : ys[i]? = some y) :
    RPost base w wr p ys ((wires ys).set i lostWire) (set5 W g (i * 5) (.slice none 0 0) (.slice none 0 0) (.bool false) (.bool false) (.bool true)) := by
  subst hN
  have hno : ∀ (k : Nat), RowOf none k → False := fun k ⟨a, e, _⟩ => nomatch e
  obtain ⟨h1, h2, h3⟩ := h.turn5 hq hy (⟨none, 0, none, 0⟩, lostWire) (.slice none 0 0) (.slice none 0 0) (.bool false) (.bool false) (.bool true) rfl ⟨Sl.nil _ _, Sl.nil _ _⟩ (fun _ => rfl) (fun k hk => (hk.elim (hno k) (hno k)).elim)
  exact ⟨_, _, h1, h2, h3⟩
set_option maxHeartbeats 4000000 in
theorem rreset_at {base : Nat} {w wr : World} {p : Nat} {v : Value} {ys : List (RW × Wire)} (h : RNet base w wr p v ys) (k : Int) :
    Calls Try.prog 19 #[.pointer (some ⟨p, 0, none⟩), .int .i64 k] wr fun e w' => e = .returned (.int .i64 (resetF (wires ys) k).1) ∧ RPost base w wr p ys (resetF (wires ys) k).2 w' := by
  have W := Lib.hid (wrong_at h k 0)
  by_cases hc : (at_ (wires ys) k 0).1 = 0
  · obtain ⟨i, y, rfl, hy, hlo, hs, e⟩ := at_zero hc
    have hsm := h.small
    have hi : i < ys.length := (List.getElem?_eq_some_iff.1 hy).1
    obtain ⟨g, cap, rfl, hcap, hcm, gs, ps, hf⟩ := h.facts hy
    unfold maxLen at hcm
    have HF := Lib.hid hf; clear hf
    rw [hc] at W
    unfold resetF
    rw [e]
    have HY := Lib.hid hy; clear hy
    have H := Lib.hid h; clear h
    obtain ⟨N, hN⟩ : ∃ N, N = ys.length := ⟨_, rfl⟩
    have HN := Lib.hid hN
    rw [← hN] at HF H hi hsm hcap
    clear hN hc e hs
    have i0 : (0 : Int) ≤ (i : Int) := by omega
    have i1 : (i : Int) < (N : Int) := by omega
    go_enter Try.func19, Try.ntmps19
    go_wp2_with (go_at_call 28; refine W.out.mono ?_; rintro e w2 ⟨rfl, hq⟩; have Q2 := Lib.hid hq; clear hq; obtain ⟨t0, ⟨t1, t2, t3, t4, t5⟩, t6, t7, t8, t9⟩ := HF.out w2 Q2.out; have t10 := t8 (i * 5); have t11 := t8 (i * 5 + 1); have t12 := t8 (i * 5 + 2); have t13 := t8 (i * 5 + 3); have t14 := t8 (i * 5 + 4); clear t8)
    go_ret
    exact ⟨rfl, reset_post H.out HN.out Q2.out HY.out⟩
  · have e0 : resetF (wires ys) k = ((at_ (wires ys) k 0).1, wires ys) := by simp [resetF, hc]
    rw [e0]
    obtain ⟨c, hcc⟩ : ∃ c, c = (at_ (wires ys) k 0).1 := ⟨_, rfl⟩
    rw [← hcc] at W hc ⊢
    have dc : (c != 0) = true := by simpa using hc
    have H := Lib.hid h
    clear hcc h hc e0
    go_enter Try.func19, Try.ntmps19
    go_wp2_with (go_at_call 28; refine W.out.mono ?_; rintro e w2 ⟨rfl, hq⟩; have Q2 := Lib.hid hq; clear hq)
    go_ret
    exact ⟨rfl, RPost.same H.out Q2.out⟩
end Go.Proofs.Ytdigeppbflkknaa
