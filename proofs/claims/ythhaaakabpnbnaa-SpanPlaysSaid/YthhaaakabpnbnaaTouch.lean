/-
  What a span touches of a set. No conditions.
-/
import Derived.Test.YthhaaakabpnbnaaFirst
namespace Go.Proofs.Ythhaaakabpnbnaa
open Go.RowKit
set_option linter.unusedVariables false
set_option linter.unusedSimpArgs false

theorem Sps.cut {w : World} {a : Addr} {n c : Nat} {l : List Sp} (h : Sps w (some a) n c l) {i m c' : Nat} (him : i + m ≤ n) (hm : m ≤ c') (hc : c' ≤ c) : Sps w (some (a.add (i * 2))) m c' ((l.drop i).take m) := by
  refine ⟨by rw [List.length_take, List.length_drop, h.len]; omega, hm, Nat.le_trans hc h.cap, fun e => (nomatch e), fun h0 => ?_⟩
  obtain ⟨b, off, h1, h2, h3⟩ := h.src (by omega)
  obtain rfl := Option.some.inj h1
  refine ⟨b, off + i * 2, by rw [Addr.add_lit], h2, fun j x hx => ?_⟩
  rw [List.getElem?_take] at hx
  split at hx
  · rw [List.getElem?_drop] at hx
    have := h3 (i + j) x hx
    rw [show off + (i + j) * 2 = off + i * 2 + j * 2 by omega] at this
    exact this
  · cases hx
theorem tw_take (p : Sp → Bool) (l : List Sp) : l.takeWhile p = l.take (l.takeWhile p).length := List.prefix_iff_eq_take.1 (List.takeWhile_prefix _)
theorem tw_drop (p : Sp → Bool) : ∀ l : List Sp, l.dropWhile p = l.drop (l.takeWhile p).length
  | [] => rfl
  | x :: l => by
    rw [List.dropWhile_cons, List.takeWhile_cons]
    split
    · rw [tw_drop p l, List.length_cons, List.drop_succ_cons]
    · rfl
theorem tw_le (p : Sp → Bool) (l : List Sp) : (l.takeWhile p).length ≤ l.length := (List.takeWhile_prefix p).length_le
theorem Sps.cutIf {w : World} {a : Addr} {n c : Nat} {l : List Sp} (h : Sps w (some a) n c l) {i m c' : Nat} (him : i + m ≤ n) (hm : m ≤ c') (hc : c' ≤ c) {P : Prop} [Decidable P] (hP : P → m = 0) : Sps w (if P then some a else some (a.add (i * 2))) m c' ((l.drop i).take m) := by
  split
  · rename_i hp
    obtain rfl := hP hp
    rw [List.take_zero]
    exact ⟨rfl, hm, Nat.le_trans hc h.cap, fun e => (nomatch e), fun h0 => absurd h0 (by omega)⟩
  · exact h.cut him hm hc
theorem Sps.rest {w : World} {a : Addr} {n c : Nat} {l : List Sp} (h : Sps w (some a) n c l) {i : Nat} (hi : i ≤ n) : Sps w (if c = i then some a else some (a.add (i * 2))) (n - i) (c - i) (l.drop i) := by
  have hle := h.le
  have := h.cutIf (i := i) (m := n - i) (c' := c - i) (by omega) (by omega) (by omega) (P := c = i) (by omega)
  rwa [List.take_of_length_le (by rw [List.length_drop, h.len]; omega)] at this
theorem Sps.hd {w : World} {a : Addr} {n c : Nat} {l : List Sp} (h : Sps w (some a) n c l) {i : Nat} (hi : i ≤ n) : Sps w (some a) i i (l.take i) :=
  ⟨by rw [List.length_take, h.len]; omega, Nat.le_refl _, Nat.le_trans hi (Nat.le_trans h.le h.cap), fun e => (nomatch e), fun h0 => by
    obtain ⟨b, off, h1, h2, h3⟩ := h.src (by omega)
    refine ⟨b, off, h1, h2, fun j x hx => h3 j x ?_⟩
    rw [List.getElem?_take] at hx
    split at hx
    · exact hx
    · cases hx⟩
theorem Sps.md {w : World} {a : Addr} {n c : Nat} {l : List Sp} (h : Sps w (some a) n c l) {i m c' : Nat} {A' : Option Addr} (hA : A' = some (a.add (i * 2)) ∨ (m = 0 ∧ ∃ b, A' = some b)) (him : i + m ≤ n) (hm : m ≤ c') (hc : c' ≤ c) : Sps w A' m c' ((l.drop i).take m) := by
  rcases hA with rfl | ⟨rfl, b, rfl⟩
  · exact h.cut him hm hc
  · rw [List.take_zero]
    exact ⟨rfl, hm, Nat.le_trans hc h.cap, fun e => (nomatch e), fun h0 => absurd h0 (by omega)⟩
theorem Sps.tl {w : World} {a : Addr} {n c : Nat} {l : List Sp} (h : Sps w (some a) n c l) {k c' : Nat} {A' : Option Addr} (hA : A' = some (a.add (k * 2)) ∨ (n = k ∧ ∃ b, A' = some b)) (hk : k ≤ n) (hc : c' = c - k) : Sps w A' (n - k) c' (l.drop k) := by
  have hle := h.le
  have := h.md (i := k) (m := n - k) (c' := c') (A' := A') (hA.imp_right fun q => ⟨by omega, q.2⟩) (by omega) (by omega) (by omega)
  rwa [List.take_of_length_le (by rw [List.length_drop, h.len]; omega)] at this
set_option maxHeartbeats 1000000 in
theorem touched_at {w : World} {A : Option Addr} {n c : Nat} {l : List Sp} (h : Sps w A n c l) (s : Sp) :
    Calls Try.prog 27 #[.slice A n c, .agg #[.int .i64 s.1, .int .i64 s.2]] w fun e w' => ∃ A1 c1 A2 c2 A3 c3,
      e = .returned (.tuple #[.slice A1 (aheadF l s).length c1, .slice A2 (ownF l s).length c2, .slice A3 (behindF l s).length c3]) ∧
      (∀ W, Sps W A n c l → Sps W A1 (aheadF l s).length c1 (aheadF l s) ∧ Sps W A2 (ownF l s).length c2 (ownF l s) ∧ Sps W A3 (behindF l s).length c3 (behindF l s)) ∧ Quiet w w' := by
  have hcm := h.cap
  have hnc := h.le
  have hn := h.len
  unfold maxLen at hcm
  obtain ⟨i, hi⟩ : ∃ i, i = (l.takeWhile (early s)).length := ⟨_, rfl⟩
  have hin : i ≤ n := by rw [hi, ← hn]; exact tw_le _ _
  have er : restF l s = l.drop i := by rw [hi]; exact tw_drop _ _
  obtain ⟨m, hm⟩ : ∃ m, m = ((l.drop i).takeWhile (soon s)).length := ⟨_, rfl⟩
  have hmn : i + m ≤ n := by have := tw_le (soon s) (l.drop i); rw [List.length_drop] at this; omega
  have ea : aheadF l s = l.take i := by rw [hi]; exact tw_take _ _
  have eo : ownF l s = (l.drop i).take m := by unfold ownF; rw [er, hm]; exact tw_take _ _
  have eb : behindF l s = l.drop (i + m) := by unfold behindF; rw [er, hm, tw_drop, List.drop_drop]
  have la : (aheadF l s).length = i := by rw [ea, List.length_take]; omega
  have lo : (ownF l s).length = m := by rw [eo, List.length_take, List.length_drop]; omega
  have lb : (behindF l s).length = n - (i + m) := by rw [eb, List.length_drop, hn]
  rw [la, lo, lb, ea, eo, eb]
  clear la lo lb ea eo eb er
  have HI := Lib.hid hi; clear hi
  have HM := Lib.hid hm; clear hm
  have HN := Lib.hid hn; clear hn
  have mf := hmf
  cases A with
  | none =>
    obtain ⟨rfl, rfl⟩ := h.nil rfl
    have H := Lib.hid h; clear h
    have hl0 : l = [] := List.eq_nil_of_length_eq_zero HN.out
    subst hl0
    obtain rfl : i = 0 := by omega
    obtain rfl : m = 0 := by omega
    go_enter Try.func27, Try.ntmps27
    have C1 := Lib.hid (first_to (q := w.heap.size) (s := s) (H.out.quiet ((Only.refl _ _).alloc (.cells #[.int .i64 s.1, .int .i64 s.2] 28))) (blk_new w _))
    go_upto_region 2 with (go_at_call 32; refine C1.out.mono ?_; rintro e w1 ⟨rfl, hq1⟩; have HQ1 := Lib.hid hq1; clear hq1)
    have C2 := Lib.hid (first_from (q := w.heap.size) (s := s) (H.out.quiet (((Only.refl _ _).alloc _).trans HQ1.out)) (HQ1.out.keep (blk_new w _) (fun x => x)))
    go_upto_region 3 with (go_at_call 32; refine C2.out.mono ?_; rintro e w2 ⟨rfl, hq2⟩; have HQ2 := Lib.hid hq2; clear hq2)
    clear C1 C2
    go_region
    all_goals try go_wp2
    all_goals
      refine bodyPost_ret (v := .tuple #[.slice none 0 0, .slice none 0 0, .slice none 0 0]) (by simp [results, Try.results27, go_sem]) rfl ?_
      exact ⟨_, _, _, _, _, _, rfl, fun _ _ => ⟨Sps.nil' _, Sps.nil' _, Sps.nil' _⟩, ((Only.refl _ _).alloc _).trans (HQ1.out.trans (by repeat (first | exact HQ2.out | refine Only.drewN ?_ _ | refine Only.drew ?_)))⟩
  | some a =>
    have H := Lib.hid h; clear h
    have C1 := Lib.hid (first_to (q := w.heap.size) (s := s) (H.out.quiet ((Only.refl _ _).alloc (.cells #[.int .i64 s.1, .int .i64 s.2] 28))) (blk_new w _))
    rw [← HI.out] at C1
    have hi1 : ¬ (n : Int) < (i : Int) := by omega
    go_enter Try.func27, Try.ntmps27
    go_upto_region 2 with (go_at_call 32; refine C1.out.mono ?_; rintro e w1 ⟨rfl, hq1⟩; have HQ1 := Lib.hid hq1; clear hq1)
    have C2 := Lib.hid (first_from (q := w.heap.size) (s := s) ((H.out.quiet (((Only.refl _ _).alloc _).trans HQ1.out)).rest hin) (HQ1.out.keep (blk_new w _) (fun x => x)))
    rw [← HM.out] at C2
    go_upto_region 3 with (go_at_call 32; refine C2.out.mono ?_; rintro e w2 ⟨rfl, hq2⟩; have HQ2 := Lib.hid hq2; clear hq2)
    clear C1 C2
    go_region
    all_goals try go_wp2
    all_goals
      refine bodyPost_ret (v := ?_) ?_ rfl ?_
      rotate_left
      · simp [results, Try.results27, go_sem]
        rfl
      · by_cases hm0 : m = 0
        · subst hm0
          exact ⟨_, _, _, _, _, _, rfl, fun W HS => ⟨HS.hd hin, (by first | exact HS.md (.inl rfl) hmn (by omega) (by omega) | exact HS.md (.inr ⟨by omega, _, rfl⟩) hmn (by omega) (by omega)), (by first | exact HS.tl (.inl rfl) (by omega) (by omega) | exact HS.tl (.inr ⟨by omega, _, rfl⟩) (by omega) (by omega))⟩, ((Only.refl _ _).alloc _).trans (HQ1.out.trans (Only.drew HQ2.out))⟩
        · first
          | (exfalso; omega)
          | exact ⟨_, _, _, _, _, _, rfl, fun W HS => ⟨HS.hd hin, (by first | exact HS.md (.inl rfl) hmn (by omega) (by omega) | exact HS.md (.inr ⟨by omega, _, rfl⟩) hmn (by omega) (by omega)), (by first | exact HS.tl (.inl rfl) (by omega) (by omega) | exact HS.tl (.inr ⟨by omega, _, rfl⟩) (by omega) (by omega))⟩, ((Only.refl _ _).alloc _).trans (HQ1.out.trans (Only.drew HQ2.out))⟩
end Go.Proofs.Ythhaaakabpnbnaa
