/-
  The reference's Take, at whatever place. No conditions.
-/
import Derived.Test.YtdigeppbflkknaaRefTake
namespace Go.Proofs.Ytdigeppbflkknaa
open Go.RowKit
set_option linter.unusedVariables false
set_option linter.unusedSimpArgs false

theorem Sl.bts {w : World} {A : Option Addr} {n c : Nat} {l : List UInt8} (h : Sl w 5 A n c (bytes l)) : Bts w A n c l := by
  have hl : l.length = n := by have := h.len; rwa [bytes_len] at this
  refine ⟨hl, h.le, h.capLe, fun e => ?_, fun h0 => ?_⟩
  · rcases h.2 with ⟨_, h5, h6⟩ | ⟨g, off, cur, h5, _⟩
    · exact ⟨h5, h6⟩
    · rw [e] at h5; cases h5
  · obtain ⟨b, off, h5, h6⟩ := h.src (by rw [bytes_len, hl]; exact h0)
    exact ⟨b, off, h5, h.lt ⟨_, h5, rfl⟩, h6⟩
theorem bts_nil (w : World) : Bts w none 0 0 [] := (Sl.nil w 5).bts
set_option maxHeartbeats 2000000 in
theorem rtake_neg {wr : World} (p : Nat) (k side most : Int) (hm : most < 0) :
    Calls Try.prog 17 #[.pointer (some ⟨p, 0, none⟩), .int .i64 k, .int .i64 side, .int .i64 most] wr fun e w' => e = .returned (.tuple #[.slice none 0 0, .int .i64 2]) ∧ Quiet wr w' := by
  have dm : decide (most < 0) = true := by simpa using hm
  clear hm
  go_enter Try.func17, Try.ntmps17
  go_wp2
  exact bodyPost_ret (v := .tuple #[.slice none 0 0, .int .i64 2]) (by simp [results, Try.results17, go_sem]) rfl ⟨rfl, Only.refl _ _⟩
set_option maxHeartbeats 2000000 in
theorem rtake_bad {base : Nat} {w wr : World} {p : Nat} {v : Value} {ys : List (RW × Wire)} (h : RNet base w wr p v ys) (k side most : Int) (hm : 0 ≤ most) (hc : (at_ (wires ys) k side).1 ≠ 0) :
    Calls Try.prog 17 #[.pointer (some ⟨p, 0, none⟩), .int .i64 k, .int .i64 side, .int .i64 most] wr fun e w' => e = .returned (.tuple #[.slice none 0 0, .int .i64 (at_ (wires ys) k side).1]) ∧ Quiet wr w' := by
  have W := Lib.hid (wrong_at h k side)
  obtain ⟨c', hcc⟩ : ∃ c, c = (at_ (wires ys) k side).1 := ⟨_, rfl⟩
  rw [← hcc] at W hc ⊢
  have dc : (c' != 0) = true := by simpa using hc
  have dm : decide (most < 0) = false := by simp; omega
  clear hcc h hc hm
  go_enter Try.func17, Try.ntmps17
  go_wp2_with (go_at_call 28; refine W.out.mono ?_; rintro e w2 ⟨rfl, hq⟩; have Q2 := Lib.hid hq; clear hq)
  exact bodyPost_ret (v := .tuple #[.slice none 0 0, .int .i64 c']) (by simp [results, Try.results17, go_sem]) rfl ⟨rfl, Q2.out⟩
/-- What Take tells: bytes that can be read. -/
def TPost (base : Nat) (w wr : World) (p : Nat) (ys : List (RW × Wire)) (r : Int × List UInt8 × List Wire) (e : Ending) (w' : World) : Prop :=
  ∃ A c, e = .returned (.tuple #[.slice A r.2.1.length c, .int .i64 r.1]) ∧ Bts w' A r.2.1.length c r.2.1 ∧ RPost base w wr p ys r.2.2 w'
theorem take_min (l : List UInt8) (m : Int) (hm : 0 ≤ m) : ∃ k : Nat, k ≤ l.length ∧ (m = k ∨ ((l.length : Int) < m ∧ k = l.length)) ∧ l.take m.toNat = l.take k ∧ l.drop m.toNat = l.drop k ∧ (l.take k).length = k := by
  by_cases h : (l.length : Int) < m
  · refine ⟨l.length, Nat.le_refl _, .inr ⟨h, rfl⟩, ?_, ?_, by simp⟩
    · rw [List.take_of_length_le (by omega), List.take_of_length_le (Nat.le_refl _)]
    · rw [List.drop_of_length_le (by omega), List.drop_of_length_le (Nat.le_refl _)]
  · exact ⟨m.toNat, by omega, .inl (by omega), rfl, rfl, by rw [List.length_take]; omega⟩
theorem rtake_at {base : Nat} {w wr : World} {p : Nat} {v : Value} {ys : List (RW × Wire)} (h : RNet base w wr p v ys) (k side most : Int) (hbnd : ∀ x ∈ wires ys, x.q0.length ≤ 1048576 ∧ x.q1.length ≤ 1048576) :
    Calls Try.prog 17 #[.pointer (some ⟨p, 0, none⟩), .int .i64 k, .int .i64 side, .int .i64 most] wr (TPost base w wr p ys (takeF (wires ys) k side most)) := by
  by_cases hm : most < 0
  · have e0 : takeF (wires ys) k side most = (2, [], wires ys) := by simp [takeF, hm]
    rw [e0]
    refine (rtake_neg p k side most hm).mono ?_
    rintro e w' ⟨rfl, hq⟩
    exact ⟨none, 0, rfl, bts_nil _, RPost.same h hq⟩
  · by_cases hc : (at_ (wires ys) k side).1 = 0
    · obtain ⟨i, y, rfl, hy, hlo, hs, e⟩ := at_zero hc
      obtain ⟨b0, b1⟩ := hbnd _ (List.mem_of_getElem? (wires_at hy))
      obtain ⟨g, cap, rfl, _⟩ := h.facts hy
      have e0 : takeF (wires ys) ((i : Int) + 1) side most = (0, (y.2.q side).take most.toNat, (wires ys).set i (y.2.setQ side ((y.2.q side).drop most.toNat))) := by
        simp only [takeF, if_neg hm, e]
        simp
      rw [e0]
      obtain ⟨n, h1, h2, h3, h4, h5⟩ := take_min (y.2.q side) most (by omega)
      rw [h3, h4]
      rcases hs with rfl | rfl
      · have q0 : y.2.q 0 = y.2.q0 := rfl
        rw [q0] at h1 h2 h5 ⊢
        refine (rtake0_ok h rfl hy hlo most (by omega) b0 n h1 h2).mono ?_
        rintro e w' ⟨A, c, rfl, r1, r2, r3⟩
        refine ⟨A, c, by simp only [h5], ?_, r3⟩
        simp only [h5]
        exact r1.bts
      · have q1 : y.2.q 1 = y.2.q1 := rfl
        rw [q1] at h1 h2 h5 ⊢
        refine (rtake1_ok h rfl hy hlo most (by omega) b1 n h1 h2).mono ?_
        rintro e w' ⟨A, c, rfl, r1, r2, r3⟩
        refine ⟨A, c, by simp only [h5], ?_, r3⟩
        simp only [h5]
        exact r1.bts
    · have e0 : takeF (wires ys) k side most = ((at_ (wires ys) k side).1, [], wires ys) := by simp [takeF, hm, hc]
      rw [e0]
      refine (rtake_bad h k side most (by omega) hc).mono ?_
      rintro e w' ⟨rfl, hq⟩
      exact ⟨none, 0, rfl, bts_nil _, RPost.same h hq⟩
end Go.Proofs.Ytdigeppbflkknaa
