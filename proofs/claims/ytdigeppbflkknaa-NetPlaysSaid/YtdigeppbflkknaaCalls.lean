/-
  What each of the program's calls does to a whole net that lies in memory. No conditions.
-/
import Derived.Test.YtdigeppbflkknaaNets
import Derived.Test.YtdigeppbflkknaaSend
import Derived.Test.YtdigeppbflkknaaShut
import Derived.Test.YtdigeppbflkknaaTake
import Derived.Test.YtdigeppbflkknaaBad
namespace Go.Proofs.Ytdigeppbflkknaa
open Go.RowKit

theorem set_self {α : Type} {l : List α} {i : Nat} {x : α} (h : l[i]? = some x) : l.set i x = l := by
  refine List.ext_getElem? fun j => ?_
  rw [List.getElem?_set]
  split
  · rename_i hj
    subst hj
    rw [if_pos (List.getElem?_eq_some_iff.1 h).1, h]
  · rfl
theorem send_at {N : NMem} {xs : List Wire} {w : World} (h : NetAt w N xs) (k side : Int) (A : Option Addr) (c : Nat) (l : List UInt8) (hll : l.length ≤ maxLen) (hsrc : ∀ W, Quiet w W → Src W A (bytes l)) (hnil : A = none → l.length = 0) :
    Calls Try.prog 9 #[.pointer (some ⟨N.p, 0, none⟩), .int .i64 k, .int .i64 side, .slice A l.length c] w fun e w' => e = .returned (.int .i64 (sendF xs k side l).1) ∧ ∃ N', NetAt w' N' (sendF xs k side l).2 ∧ NStep w w' N N' := by
  by_cases hb : k < 1 ∨ (xs.length : Int) < k ∨ side < 0 ∨ 1 < side
  · have e0 : sendF xs k side l = (2, xs) := by simp [sendF, at_bad hb]
    rw [e0]
    refine (send_bad N.p _ _ _ w h.net k side A l.length c hb).mono ?_
    rintro e w' ⟨rfl, hq⟩
    exact ⟨rfl, N, h.quiet hq, NStep.refl N hq⟩
  · obtain ⟨i, rfl⟩ : ∃ i : Nat, k = (i : Int) + 1 := ⟨(k - 1).toNat, by omega⟩
    have hi : i < xs.length := by omega
    obtain ⟨m, x, hm, hx, hw⟩ := h.there hi
    obtain ⟨ga, oa, hA, hg, hel⟩ := h.elem hm
    have hp := h.net
    rw [hA] at hp
    have hz : ((i : Int) + 1 - 1).toNat = i := by omega
    rcases (show side = 0 ∨ side = 1 by omega) with rfl | rfl
    · have hat := at_ok hx (side := 0) (by decide)
      cases hl : x.lost with
      | true =>
        rw [hl] at hat
        have e0 : sendF xs ((i : Int) + 1) 0 l = (20, xs) := by simp [sendF, hat]
        rw [e0]
        refine (send0_lost N.p ga oa xs.length N.c i m x w hp hg hel hi h.small hw A c l hll hl).mono ?_
        rintro e w' ⟨rfl, hq⟩
        exact ⟨rfl, N, h.quiet hq, NStep.refl N hq⟩
      | false =>
        rw [hl] at hat
        cases hs : x.s1 with
        | true =>
          have e0 : sendF xs ((i : Int) + 1) 0 l = (16, xs) := by simp [sendF, hat, Wire.s, hs]
          rw [e0]
          refine (send0_shut N.p ga oa xs.length N.c i m x w hp hg hel hi h.small hw A c l hll hl hs).mono ?_
          rintro e w' ⟨rfl, hq⟩
          exact ⟨rfl, N, h.quiet hq, NStep.refl N hq⟩
        | false =>
          by_cases hr : 1048576 - (x.q1.length : Int) < (l.length : Int)
          · have e0 : sendF xs ((i : Int) + 1) 0 l = (14, xs) := by simp [sendF, hat, Wire.s, Wire.q, hs, hr]
            rw [e0]
            refine (send0_big N.p ga oa xs.length N.c i m x w hp hg hel hi h.small hw A c l hll hl hs hr).mono ?_
            rintro e w' ⟨rfl, hq⟩
            exact ⟨rfl, N, h.quiet hq, NStep.refl N hq⟩
          · have e0 : sendF xs ((i : Int) + 1) 0 l = (0, xs.set i { x with q1 := x.q1 ++ l }) := by
              simp only [sendF, hat, Wire.s, Wire.q, Wire.setQ, hz]
              simp [hs, hr]
            rw [e0]
            refine (send0_ok N.p ga oa xs.length N.c i m x w hp hg hel hi h.small hw A c l hll hl hs (by omega) hsrc hnil).mono ?_
            rintro e w' ⟨rfl, A1, c1, r1, r2, r3⟩
            obtain ⟨s1, s2⟩ := h.upd hm r1 (r2.mono (fun k _ hk => hk.elim .inl (fun hk => .inr (.inr hk)))) rfl (fun k hk => by
              rcases hk with hk | hk | hk
              · exact .inl (.inl hk)
              · exact .inl (.inr (.inl hk))
              · exact (r3 k hk).imp (fun hk => .inr (.inr hk)) id)
            exact ⟨rfl, _, s1, s2⟩
    · have hat := at_ok hx (side := 1) (by decide)
      cases hl : x.lost with
      | true =>
        rw [hl] at hat
        have e0 : sendF xs ((i : Int) + 1) 1 l = (20, xs) := by simp [sendF, hat]
        rw [e0]
        refine (send1_lost N.p ga oa xs.length N.c i m x w hp hg hel hi h.small hw A c l hll hl).mono ?_
        rintro e w' ⟨rfl, hq⟩
        exact ⟨rfl, N, h.quiet hq, NStep.refl N hq⟩
      | false =>
        rw [hl] at hat
        cases hs : x.s0 with
        | true =>
          have e0 : sendF xs ((i : Int) + 1) 1 l = (16, xs) := by simp [sendF, hat, Wire.s, hs]
          rw [e0]
          refine (send1_shut N.p ga oa xs.length N.c i m x w hp hg hel hi h.small hw A c l hll hl hs).mono ?_
          rintro e w' ⟨rfl, hq⟩
          exact ⟨rfl, N, h.quiet hq, NStep.refl N hq⟩
        | false =>
          by_cases hr : 1048576 - (x.q0.length : Int) < (l.length : Int)
          · have e0 : sendF xs ((i : Int) + 1) 1 l = (14, xs) := by simp [sendF, hat, Wire.s, Wire.q, hs, hr]
            rw [e0]
            refine (send1_big N.p ga oa xs.length N.c i m x w hp hg hel hi h.small hw A c l hll hl hs hr).mono ?_
            rintro e w' ⟨rfl, hq⟩
            exact ⟨rfl, N, h.quiet hq, NStep.refl N hq⟩
          · have e0 : sendF xs ((i : Int) + 1) 1 l = (0, xs.set i { x with q0 := x.q0 ++ l }) := by
              simp only [sendF, hat, Wire.s, Wire.q, Wire.setQ, hz]
              simp [hs, hr]
            rw [e0]
            refine (send1_ok N.p ga oa xs.length N.c i m x w hp hg hel hi h.small hw A c l hll hl hs (by omega) hsrc hnil).mono ?_
            rintro e w' ⟨rfl, A1, c1, r1, r2, r3⟩
            obtain ⟨s1, s2⟩ := h.upd hm r1 (r2.mono (fun k _ hk => hk.elim .inl (fun hk => .inr (.inl hk)))) rfl (fun k hk => by
              rcases hk with hk | hk | hk
              · exact .inl (.inl hk)
              · exact (r3 k hk).imp (fun hk => .inr (.inl hk)) id
              · exact .inl (.inr (.inr hk)))
            exact ⟨rfl, _, s1, s2⟩
theorem shut_at {N : NMem} {xs : List Wire} {w : World} (h : NetAt w N xs) (k side : Int) :
    Calls Try.prog 10 #[.pointer (some ⟨N.p, 0, none⟩), .int .i64 k, .int .i64 side] w fun e w' => e = .returned (.int .i64 (shutF xs k side).1) ∧ ∃ N', NetAt w' N' (shutF xs k side).2 ∧ NStep w w' N N' := by
  by_cases hb : k < 1 ∨ (xs.length : Int) < k ∨ side < 0 ∨ 1 < side
  · have e0 : shutF xs k side = (2, xs) := by simp [shutF, at_bad hb]
    rw [e0]
    refine (shut_bad N.p _ _ _ w h.net k side hb).mono ?_
    rintro e w' ⟨rfl, hq⟩
    exact ⟨rfl, N, h.quiet hq, NStep.refl N hq⟩
  · obtain ⟨i, rfl⟩ : ∃ i : Nat, k = (i : Int) + 1 := ⟨(k - 1).toNat, by omega⟩
    have hi : i < xs.length := by omega
    obtain ⟨m, x, hm, hx, hw⟩ := h.there hi
    obtain ⟨ga, oa, hA, hg, hel⟩ := h.elem hm
    have hp := h.net
    rw [hA] at hp
    have hz : ((i : Int) + 1 - 1).toNat = i := by omega
    rcases (show side = 0 ∨ side = 1 by omega) with rfl | rfl
    · have hat := at_ok hx (side := 0) (by decide)
      cases hl : x.lost with
      | true =>
        rw [hl] at hat
        have e0 : shutF xs ((i : Int) + 1) 0 = (20, xs) := by simp [shutF, hat]
        rw [e0]
        refine (shut0_lost N.p ga oa xs.length N.c i m x w hp hg hel hi h.small hw hl).mono ?_
        rintro e w' ⟨rfl, hq⟩
        exact ⟨rfl, N, h.quiet hq, NStep.refl N hq⟩
      | false =>
        rw [hl] at hat
        cases hs : x.s1 with
        | true =>
          have e0 : shutF xs ((i : Int) + 1) 0 = (16, xs) := by simp [shutF, hat, Wire.s, hs]
          rw [e0]
          refine (shut0_shut N.p ga oa xs.length N.c i m x w hp hg hel hi h.small hw hl hs).mono ?_
          rintro e w' ⟨rfl, hq⟩
          exact ⟨rfl, N, h.quiet hq, NStep.refl N hq⟩
        | false =>
          have e0 : shutF xs ((i : Int) + 1) 0 = (0, xs.set i { x with s1 := true }) := by
            simp only [shutF, hat, Wire.s, Wire.setS, hz]
            simp [hs]
          rw [e0]
          refine (shut0_ok N.p ga oa xs.length N.c i m x w hp hg hel hi h.small hw hl hs).mono ?_
          rintro e w' ⟨rfl, r1, r2⟩
          obtain ⟨s1, s2⟩ := h.upd hm r1 (r2.mono (fun k _ hk => .inl hk)) rfl (fun k hk => .inl hk)
          exact ⟨rfl, _, s1, s2⟩
    · have hat := at_ok hx (side := 1) (by decide)
      cases hl : x.lost with
      | true =>
        rw [hl] at hat
        have e0 : shutF xs ((i : Int) + 1) 1 = (20, xs) := by simp [shutF, hat]
        rw [e0]
        refine (shut1_lost N.p ga oa xs.length N.c i m x w hp hg hel hi h.small hw hl).mono ?_
        rintro e w' ⟨rfl, hq⟩
        exact ⟨rfl, N, h.quiet hq, NStep.refl N hq⟩
      | false =>
        rw [hl] at hat
        cases hs : x.s0 with
        | true =>
          have e0 : shutF xs ((i : Int) + 1) 1 = (16, xs) := by simp [shutF, hat, Wire.s, hs]
          rw [e0]
          refine (shut1_shut N.p ga oa xs.length N.c i m x w hp hg hel hi h.small hw hl hs).mono ?_
          rintro e w' ⟨rfl, hq⟩
          exact ⟨rfl, N, h.quiet hq, NStep.refl N hq⟩
        | false =>
          have e0 : shutF xs ((i : Int) + 1) 1 = (0, xs.set i { x with s0 := true }) := by
            simp only [shutF, hat, Wire.s, Wire.setS, hz]
            simp [hs]
          rw [e0]
          refine (shut1_ok N.p ga oa xs.length N.c i m x w hp hg hel hi h.small hw hl hs).mono ?_
          rintro e w' ⟨rfl, r1, r2⟩
          obtain ⟨s1, s2⟩ := h.upd hm r1 (r2.mono (fun k _ hk => .inl hk)) rfl (fun k hk => .inl hk)
          exact ⟨rfl, _, s1, s2⟩
theorem reset_at {N : NMem} {xs : List Wire} {w : World} (h : NetAt w N xs) (k : Int) :
    Calls Try.prog 11 #[.pointer (some ⟨N.p, 0, none⟩), .int .i64 k] w fun e w' => e = .returned (.int .i64 (resetF xs k).1) ∧ ∃ N', NetAt w' N' (resetF xs k).2 ∧ NStep w w' N N' := by
  by_cases hb : k < 1 ∨ (xs.length : Int) < k
  · have e0 : resetF xs k = (2, xs) := by simp [resetF, at_bad (side := 0) (xs := xs) (k := k) (by omega)]
    rw [e0]
    refine (reset_bad N.p _ _ _ w h.net k hb).mono ?_
    rintro e w' ⟨rfl, hq⟩
    exact ⟨rfl, N, h.quiet hq, NStep.refl N hq⟩
  · obtain ⟨i, rfl⟩ : ∃ i : Nat, k = (i : Int) + 1 := ⟨(k - 1).toNat, by omega⟩
    have hi : i < xs.length := by omega
    obtain ⟨m, x, hm, hx, hw⟩ := h.there hi
    obtain ⟨ga, oa, hA, hg, hel⟩ := h.elem hm
    have hp := h.net
    rw [hA] at hp
    have hz : ((i : Int) + 1 - 1).toNat = i := by omega
    have hat := at_ok hx (side := 0) (by decide)
    cases hl : x.lost with
    | true =>
      rw [hl] at hat
      have e0 : resetF xs ((i : Int) + 1) = (20, xs) := by simp [resetF, hat]
      rw [e0]
      refine (reset_lost N.p ga oa xs.length N.c i m x w hp hg hel hi h.small hw hl).mono ?_
      rintro e w' ⟨rfl, hq⟩
      exact ⟨rfl, N, h.quiet hq, NStep.refl N hq⟩
    | false =>
      rw [hl] at hat
      have e0 : resetF xs ((i : Int) + 1) = (0, xs.set i lostWire) := by
        simp only [resetF, hat, hz]
        simp
      rw [e0]
      refine (reset_ok N.p ga oa xs.length N.c i m x w hp hg hel hi h.small hw hl).mono ?_
      rintro e w' ⟨rfl, r1, r2⟩
      obtain ⟨s1, s2⟩ := h.upd hm r1 (r2.mono (fun k _ hk => .inl hk)) rfl (fun k hk => by
        rcases hk with hk | ⟨a, hk, _⟩ | ⟨a, hk, _⟩
        · exact .inl (.inl hk)
        · cases hk
        · cases hk)
      exact ⟨rfl, _, s1, s2⟩
theorem waiting_at {N : NMem} {xs : List Wire} {w : World} (h : NetAt w N xs) (k side : Int) :
    Calls Try.prog 12 #[.pointer (some ⟨N.p, 0, none⟩), .int .i64 k, .int .i64 side] w fun e w' => e = .returned (.int .i64 (waitingF xs k side)) ∧ Quiet w w' := by
  by_cases hb : k < 1 ∨ (xs.length : Int) < k ∨ side < 0 ∨ 1 < side
  · have e0 : waitingF xs k side = 0 := by simp [waitingF, at_bad hb]
    rw [e0]
    exact waiting_bad N.p _ _ _ w h.net k side hb
  · obtain ⟨i, rfl⟩ : ∃ i : Nat, k = (i : Int) + 1 := ⟨(k - 1).toNat, by omega⟩
    have hi : i < xs.length := by omega
    obtain ⟨m, x, hm, hx, hw⟩ := h.there hi
    obtain ⟨ga, oa, hA, hg, hel⟩ := h.elem hm
    have hp := h.net
    rw [hA] at hp
    have hz : ((i : Int) + 1 - 1).toNat = i := by omega
    rcases (show side = 0 ∨ side = 1 by omega) with rfl | rfl
    · have hat := at_ok hx (side := 0) (by decide)
      have e0 : waitingF xs ((i : Int) + 1) 0 = (x.q0.length : Int) := by
        simp only [waitingF, hat, Wire.q, Wire.s]
        cases x.lost <;> simp
      rw [e0]
      exact waiting0_at N.p ga oa xs.length N.c i m x w hp hg hel hi h.small hw
    · have hat := at_ok hx (side := 1) (by decide)
      have e0 : waitingF xs ((i : Int) + 1) 1 = (x.q1.length : Int) := by
        simp only [waitingF, hat, Wire.q, Wire.s]
        cases x.lost <;> simp
      rw [e0]
      exact waiting1_at N.p ga oa xs.length N.c i m x w hp hg hel hi h.small hw
theorem ended_at {N : NMem} {xs : List Wire} {w : World} (h : NetAt w N xs) (k side : Int) :
    Calls Try.prog 13 #[.pointer (some ⟨N.p, 0, none⟩), .int .i64 k, .int .i64 side] w fun e w' => e = .returned (.bool (endedF xs k side)) ∧ Quiet w w' := by
  by_cases hb : k < 1 ∨ (xs.length : Int) < k ∨ side < 0 ∨ 1 < side
  · have e0 : endedF xs k side = true := by simp [endedF, at_bad hb]
    rw [e0]
    exact ended_bad N.p _ _ _ w h.net k side hb
  · obtain ⟨i, rfl⟩ : ∃ i : Nat, k = (i : Int) + 1 := ⟨(k - 1).toNat, by omega⟩
    have hi : i < xs.length := by omega
    obtain ⟨m, x, hm, hx, hw⟩ := h.there hi
    obtain ⟨ga, oa, hA, hg, hel⟩ := h.elem hm
    have hp := h.net
    rw [hA] at hp
    have hz : ((i : Int) + 1 - 1).toNat = i := by omega
    rcases (show side = 0 ∨ side = 1 by omega) with rfl | rfl
    · have hat := at_ok hx (side := 0) (by decide)
      have e0 : endedF xs ((i : Int) + 1) 0 = (x.lost || (x.s0 && decide (x.q0.length = 0))) := by
        simp only [endedF, hat, Wire.q, Wire.s]
        cases x.lost <;> simp
      rw [e0]
      exact ended0_at N.p ga oa xs.length N.c i m x w hp hg hel hi h.small hw
    · have hat := at_ok hx (side := 1) (by decide)
      have e0 : endedF xs ((i : Int) + 1) 1 = (x.lost || (x.s1 && decide (x.q1.length = 0))) := by
        simp only [endedF, hat, Wire.q, Wire.s]
        cases x.lost <;> simp
      rw [e0]
      exact ended1_at N.p ga oa xs.length N.c i m x w hp hg hel hi h.small hw
theorem take_at {N : NMem} {xs : List Wire} {w : World} (h : NetAt w N xs) (k side most : Int) :
    Calls Try.prog 8 #[.pointer (some ⟨N.p, 0, none⟩), .int .i64 k, .int .i64 side, .int .i64 most] w fun e w' => ∃ A c, e = .returned (.tuple #[.slice A (takeF xs k side most).2.1.length c, .int .i64 (takeF xs k side most).1]) ∧
      Sl w' 5 A (takeF xs k side most).2.1.length c (bytes (takeF xs k side most).2.1) ∧ (∀ k, RowOf A k → w.heap.size ≤ k) ∧ ∃ N', NetAt w' N' (takeF xs k side most).2.2 ∧ NStep w w' N N' ∧ ∀ k, RowOf A k → ¬ NOwns N' k := by
  have none_row : ∀ k, ¬ RowOf none k := fun k ⟨a, ha, _⟩ => by cases ha
  by_cases hneg : most < 0
  · have e0 : takeF xs k side most = (2, [], xs) := by simp [takeF, hneg]
    rw [e0]
    refine (take_neg N.p _ _ _ w h.net k side most (by simp [hneg])).mono ?_
    rintro e w' ⟨rfl, hq⟩
    exact ⟨none, 0, rfl, Sl.nil _ _, fun k hk => (none_row k hk).elim, N, h.quiet hq, NStep.refl N hq, fun k hk => (none_row k hk).elim⟩
  by_cases hb : k < 1 ∨ (xs.length : Int) < k ∨ side < 0 ∨ 1 < side
  · have e0 : takeF xs k side most = (2, [], xs) := by simp [takeF, at_bad hb, hneg]
    rw [e0]
    refine (take_bad N.p _ _ _ w h.net k side most (by simp [hneg]) hb).mono ?_
    rintro e w' ⟨rfl, hq⟩
    exact ⟨none, 0, rfl, Sl.nil _ _, fun k hk => (none_row k hk).elim, N, h.quiet hq, NStep.refl N hq, fun k hk => (none_row k hk).elim⟩
  · obtain ⟨i, rfl⟩ : ∃ i : Nat, k = (i : Int) + 1 := ⟨(k - 1).toNat, by omega⟩
    have hi : i < xs.length := by omega
    obtain ⟨m, x, hm, hx, hw⟩ := h.there hi
    obtain ⟨ga, oa, hA, hg, hel⟩ := h.elem hm
    have hp := h.net
    rw [hA] at hp
    have hz : ((i : Int) + 1 - 1).toNat = i := by omega
    rcases (show side = 0 ∨ side = 1 by omega) with rfl | rfl
    · have hat := at_ok hx (side := 0) (by decide)
      cases hl : x.lost with
      | true =>
        rw [hl] at hat
        have e0 : takeF xs ((i : Int) + 1) 0 most = (20, [], xs) := by simp [takeF, hat, hneg]
        rw [e0]
        refine (take0_lost N.p ga oa xs.length N.c i m x w hp hg hel hi h.small hw most (by omega) hl).mono ?_
        rintro e w' ⟨rfl, hq⟩
        exact ⟨none, 0, rfl, Sl.nil _ _, fun k hk => (none_row k hk).elim, N, h.quiet hq, NStep.refl N hq, fun k hk => (none_row k hk).elim⟩
      | false =>
        rw [hl] at hat
        by_cases hr : most ≤ x.q0.length
        · · have e0 : takeF xs ((i : Int) + 1) 0 most = (0, x.q0.take most.toNat, xs.set i { x with q0 := x.q0.drop most.toNat }) := by
              simp only [takeF, hat, Wire.q, Wire.setQ, hz]
              simp [hneg]
            rw [e0]
            have hlen : (x.q0.take most.toNat).length = most.toNat := by rw [List.length_take]; omega
            refine (take0_ok N.p ga oa xs.length N.c i m x w hp hg hel hi h.small hw most (by omega) hl hr).mono ?_
            rintro e w' ⟨A', c', rfl, r1, r2, r3, r4⟩
            obtain ⟨s1, s2⟩ := h.upd hm r3 (r4.mono (fun k _ hk => .inl hk)) rfl (fun k hk => .inl (by
              rcases hk with hk | hk | hk
              · exact .inl hk
              · exact .inr (.inl (rowOf_cut hk))
              · exact .inr (.inr hk)))
            refine ⟨A', c', by simp only [hlen], by simpa only [hlen] using r1, r2, _, s1, s2, fun k hk hk' => ?_⟩
            have hk1 := r2 k hk
            rcases hk' with hk' | hk' | ⟨m2, hm2, hk'⟩
            · subst hk'; have := lt_of_heap h.net; simp at hk1; omega
            · have := h.row.lt hk'; omega
            · rcases List.mem_or_eq_of_mem_set hm2 with hm2 | rfl
              · have := h.lt (.inr (.inr ⟨m2, hm2, hk'⟩)); omega
              · have := hw.lt (k := k) (by
                  rcases hk' with hk' | hk' | hk'
                  · exact .inl hk'
                  · exact .inr (.inl (rowOf_cut hk'))
                  · exact .inr (.inr hk'))
                omega
        · · have e0 : takeF xs ((i : Int) + 1) 0 most = (0, x.q0.take x.q0.length, xs.set i { x with q0 := x.q0.drop x.q0.length }) := by
              simp only [takeF, hat, Wire.q, Wire.setQ, hz]
              simp [hneg]
              rw [List.take_of_length_le (by omega), List.drop_eq_nil_of_le (by omega)]
              exact ⟨rfl, rfl⟩
            rw [e0]
            have hlen : (x.q0.take x.q0.length).length = x.q0.length := by simp
            refine (take0_all N.p ga oa xs.length N.c i m x w hp hg hel hi h.small hw most (by omega) hl (by omega)).mono ?_
            rintro e w' ⟨A', c', rfl, r1, r2, r3, r4⟩
            obtain ⟨s1, s2⟩ := h.upd hm r3 (r4.mono (fun k _ hk => .inl hk)) rfl (fun k hk => .inl (by
              rcases hk with hk | hk | hk
              · exact .inl hk
              · exact .inr (.inl (rowOf_cut hk))
              · exact .inr (.inr hk)))
            refine ⟨A', c', by simp only [hlen], by simpa only [hlen] using r1, r2, _, s1, s2, fun k hk hk' => ?_⟩
            have hk1 := r2 k hk
            rcases hk' with hk' | hk' | ⟨m2, hm2, hk'⟩
            · subst hk'; have := lt_of_heap h.net; simp at hk1; omega
            · have := h.row.lt hk'; omega
            · rcases List.mem_or_eq_of_mem_set hm2 with hm2 | rfl
              · have := h.lt (.inr (.inr ⟨m2, hm2, hk'⟩)); omega
              · have := hw.lt (k := k) (by
                  rcases hk' with hk' | hk' | hk'
                  · exact .inl hk'
                  · exact .inr (.inl (rowOf_cut hk'))
                  · exact .inr (.inr hk'))
                omega
    · have hat := at_ok hx (side := 1) (by decide)
      cases hl : x.lost with
      | true =>
        rw [hl] at hat
        have e0 : takeF xs ((i : Int) + 1) 1 most = (20, [], xs) := by simp [takeF, hat, hneg]
        rw [e0]
        refine (take1_lost N.p ga oa xs.length N.c i m x w hp hg hel hi h.small hw most (by omega) hl).mono ?_
        rintro e w' ⟨rfl, hq⟩
        exact ⟨none, 0, rfl, Sl.nil _ _, fun k hk => (none_row k hk).elim, N, h.quiet hq, NStep.refl N hq, fun k hk => (none_row k hk).elim⟩
      | false =>
        rw [hl] at hat
        by_cases hr : most ≤ x.q1.length
        · · have e0 : takeF xs ((i : Int) + 1) 1 most = (0, x.q1.take most.toNat, xs.set i { x with q1 := x.q1.drop most.toNat }) := by
              simp only [takeF, hat, Wire.q, Wire.setQ, hz]
              simp [hneg]
            rw [e0]
            have hlen : (x.q1.take most.toNat).length = most.toNat := by rw [List.length_take]; omega
            refine (take1_ok N.p ga oa xs.length N.c i m x w hp hg hel hi h.small hw most (by omega) hl hr).mono ?_
            rintro e w' ⟨A', c', rfl, r1, r2, r3, r4⟩
            obtain ⟨s1, s2⟩ := h.upd hm r3 (r4.mono (fun k _ hk => .inl hk)) rfl (fun k hk => .inl (by
              rcases hk with hk | hk | hk
              · exact .inl hk
              · exact .inr (.inl hk)
              · exact .inr (.inr (rowOf_cut hk))))
            refine ⟨A', c', by simp only [hlen], by simpa only [hlen] using r1, r2, _, s1, s2, fun k hk hk' => ?_⟩
            have hk1 := r2 k hk
            rcases hk' with hk' | hk' | ⟨m2, hm2, hk'⟩
            · subst hk'; have := lt_of_heap h.net; simp at hk1; omega
            · have := h.row.lt hk'; omega
            · rcases List.mem_or_eq_of_mem_set hm2 with hm2 | rfl
              · have := h.lt (.inr (.inr ⟨m2, hm2, hk'⟩)); omega
              · have := hw.lt (k := k) (by
                  rcases hk' with hk' | hk' | hk'
                  · exact .inl hk'
                  · exact .inr (.inl hk')
                  · exact .inr (.inr (rowOf_cut hk')))
                omega
        · · have e0 : takeF xs ((i : Int) + 1) 1 most = (0, x.q1.take x.q1.length, xs.set i { x with q1 := x.q1.drop x.q1.length }) := by
              simp only [takeF, hat, Wire.q, Wire.setQ, hz]
              simp [hneg]
              rw [List.take_of_length_le (by omega), List.drop_eq_nil_of_le (by omega)]
              exact ⟨rfl, rfl⟩
            rw [e0]
            have hlen : (x.q1.take x.q1.length).length = x.q1.length := by simp
            refine (take1_all N.p ga oa xs.length N.c i m x w hp hg hel hi h.small hw most (by omega) hl (by omega)).mono ?_
            rintro e w' ⟨A', c', rfl, r1, r2, r3, r4⟩
            obtain ⟨s1, s2⟩ := h.upd hm r3 (r4.mono (fun k _ hk => .inl hk)) rfl (fun k hk => .inl (by
              rcases hk with hk | hk | hk
              · exact .inl hk
              · exact .inr (.inl hk)
              · exact .inr (.inr (rowOf_cut hk))))
            refine ⟨A', c', by simp only [hlen], by simpa only [hlen] using r1, r2, _, s1, s2, fun k hk hk' => ?_⟩
            have hk1 := r2 k hk
            rcases hk' with hk' | hk' | ⟨m2, hm2, hk'⟩
            · subst hk'; have := lt_of_heap h.net; simp at hk1; omega
            · have := h.row.lt hk'; omega
            · rcases List.mem_or_eq_of_mem_set hm2 with hm2 | rfl
              · have := h.lt (.inr (.inr ⟨m2, hm2, hk'⟩)); omega
              · have := hw.lt (k := k) (by
                  rcases hk' with hk' | hk' | hk'
                  · exact .inl hk'
                  · exact .inr (.inl hk')
                  · exact .inr (.inr (rowOf_cut hk')))
                omega
end Go.Proofs.Ytdigeppbflkknaa
