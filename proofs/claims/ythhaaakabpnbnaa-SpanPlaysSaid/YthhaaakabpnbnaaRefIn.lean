/-
  The reference's small functions: right, in, Same. No conditions.
-/
import Derived.Test.YthhaaakabpnbnaaSmall
namespace Go.Proofs.Ythhaaakabpnbnaa
open Go.RowKit
set_option linter.unusedVariables false
set_option linter.unusedSimpArgs false

set_option maxHeartbeats 2000000 in
theorem rright_at (w : World) (s : Sp) : Calls Try.prog 30 #[.agg #[.int .i64 s.1, .int .i64 s.2]] w fun e w' => e = .returned (.bool (isSp s)) ∧ Quiet w w' := by
  unfold isSp
  by_cases h1 : 0 ≤ s.1
  · have d1 : decide ((0 : Int) ≤ s.1) = true := by simpa using h1
    by_cases h2 : s.1 ≤ s.2
    · have d2 : decide (s.1 ≤ s.2) = true := by simpa using h2
      rw [d1, d2]
      go_enter Try.func30, Try.ntmps30
      go_wp2
      go_ret
      exact ⟨by simp, by repeat (first | exact Only.refl _ _ | refine Only.drewN ?_ _ | refine Only.drew ?_ | refine Only.alloc ?_ _)⟩
    · have d2 : decide (s.1 ≤ s.2) = false := by simpa using h2
      rw [d1, d2]
      go_enter Try.func30, Try.ntmps30
      go_wp2
      go_ret
      exact ⟨by simp, by repeat (first | exact Only.refl _ _ | refine Only.drewN ?_ _ | refine Only.drew ?_ | refine Only.alloc ?_ _)⟩
  · have d1 : decide ((0 : Int) ≤ s.1) = false := by simpa using h1
    rw [d1]
    go_enter Try.func30, Try.ntmps30
    go_wp2
    go_ret
    exact ⟨by simp, by repeat (first | exact Only.refl _ _ | refine Only.drewN ?_ _ | refine Only.drew ?_ | refine Only.alloc ?_ _)⟩
set_option maxHeartbeats 2000000 in
theorem rin_at {w : World} {A : Option Addr} {n c : Nat} {l : List Sp} (h : Sps w A n c l) (z : Int) :
    Calls Try.prog 36 #[.slice A n c, .int .i64 z] w fun e w' => e = .returned (.bool (inn l z)) ∧ Quiet w w' := by
  have hcm := h.cap
  have hnc := h.le
  have hn := h.len
  unfold maxLen at hcm
  have HN := Lib.hid hn; clear hn
  have H := Lib.hid h; clear h
  go_enter Try.func36, Try.ntmps36
  go_wp2
  go_loopw [5] (fun i wr => wr = w ∧ ∃ k : Nat, k ≤ n ∧ i = .int .i64 k ∧ ∀ (j : Nat) (y : Sp), j < k → l[j]? = some y → ¬ (y.1 ≤ z ∧ z < y.2)) (fun i _ => n - (intOf i).toNat)
  case atStart => exact ⟨rfl, 0, by omega, rfl, fun j y hj => absurd hj (by omega)⟩
  case round =>
    obtain ⟨rfl, k, hk, rfl, hall⟩ := hrel
    have HA := Lib.hid hall; clear hall
    by_cases hc : k < n
    · have dd : decide ((k : Int) < (n : Int)) = true := by simpa using hc
      obtain ⟨b, o, rfl, hb2, hcell⟩ := H.out.src (by omega)
      obtain ⟨x, hx⟩ : ∃ x, l[k]? = some x := ⟨_, List.getElem?_eq_getElem (by have := HN.out; omega)⟩
      obtain ⟨c0, c1⟩ := hcell k x hx
      have HX := Lib.hid hx; clear hx hcell
      by_cases h1 : x.1 ≤ z
      · have d1 : decide (x.1 ≤ z) = true := by simpa using h1
        by_cases h2 : z < x.2
        · have d2 : decide (z < x.2) = true := by simpa using h2
          have hi := Lib.hid (inn_true HX.out h1 h2)
          go_wp2
          go_ret
          exact ⟨by rw [hi.out]; rfl, Only.refl _ _⟩
        · have d2 : decide (z < x.2) = false := by simpa using h2
          have HA2 := Lib.hid (show ∀ (j : Nat) (y : Sp), j < k + 1 → l[j]? = some y → ¬ (y.1 ≤ z ∧ z < y.2) from fun j y hj hy => by
            rcases Nat.lt_succ_iff_lt_or_eq.1 hj with q | rfl
            · exact HA.out j y q hy
            · have := HX.out; rw [hy] at this; obtain rfl := Option.some.inj this; exact fun q => h2 q.2)
          go_wp2
          go_roundw
          case rel => exact ⟨trivial, k + 1, by omega, by go_num, HA2.out⟩
          case measure => simp [intOf]; omega
      · have d1 : decide (x.1 ≤ z) = false := by simpa using h1
        have HA2 := Lib.hid (show ∀ (j : Nat) (y : Sp), j < k + 1 → l[j]? = some y → ¬ (y.1 ≤ z ∧ z < y.2) from fun j y hj hy => by
          rcases Nat.lt_succ_iff_lt_or_eq.1 hj with q | rfl
          · exact HA.out j y q hy
          · have := HX.out; rw [hy] at this; obtain rfl := Option.some.inj this; exact fun q => h1 q.1)
        go_wp2
        go_roundw
        case rel => exact ⟨trivial, k + 1, by omega, by go_num, HA2.out⟩
        case measure => simp [intOf]; omega
    · have dd : decide ((k : Int) < (n : Int)) = false := by simpa using hc
      have hi := Lib.hid (inn_false (l := l) (z := z) fun j y hj hy => HA.out j y (by have := HN.out; omega) hy)
      go_wp2
      go_ret
      exact ⟨by rw [hi.out]; rfl, Only.refl _ _⟩
set_option maxHeartbeats 2000000 in
theorem same_at {w : World} {A B : Option Addr} {n c d : Nat} {l : List Sp} (ha : Sps w A n c l) (hb : Sps w B n d l) :
    Calls Try.prog 12 #[.slice A n c, .slice B n d] w fun e w' => e = .returned (.bool true) ∧ Quiet w w' := by
  have hcm := ha.cap
  have hnc := ha.le
  unfold maxLen at hcm
  have HN := Lib.hid ha.len
  have HA := Lib.hid ha; clear ha
  have HB := Lib.hid hb; clear hb
  have dn : ((n : Int) != (n : Int)) = false := by simp
  go_enter Try.func12, Try.ntmps12
  go_wp2
  go_loopw [5] (fun i wr => ∃ k : Nat, k ≤ n ∧ i = .int .i64 k ∧ Quiet w wr) (fun i _ => n - (intOf i).toNat)
  case atStart => exact ⟨0, by omega, rfl, Only.refl _ _⟩
  case round =>
    obtain ⟨k, hk, rfl, hq⟩ := hrel
    have HQ := Lib.hid hq; clear hq
    by_cases hc : k < n
    · have dd : decide ((k : Int) < (n : Int)) = true := by simpa using hc
      have k0 : (0 : Int) ≤ (k : Int) := by omega
      have k1 : (k : Int) < (n : Int) := by omega
      obtain ⟨b, o, rfl, hb2, hcell⟩ := (HA.out.quiet HQ.out).src (by omega)
      obtain ⟨b', o', rfl, hb3, hcell'⟩ := (HB.out.quiet HQ.out).src (by omega)
      obtain ⟨x, hx⟩ : ∃ x, l[k]? = some x := ⟨_, List.getElem?_eq_getElem (by have := HN.out; omega)⟩
      obtain ⟨c0, c1⟩ := hcell k x hx
      obtain ⟨c2, c3⟩ := hcell' k x hx
      clear hcell hcell' hx
      go_upto_region 6 with (fail)
      go_quiet (fail)
      go_wp2
      go_roundw
      case rel => exact ⟨k + 1, by omega, by go_num, by repeat (first | exact HQ.out | refine Only.drewN ?_ _ | refine Only.drew ?_)⟩
      case measure => simp [intOf]; omega
    · have dd : decide ((k : Int) < (n : Int)) = false := by simpa using hc
      go_wp2
      go_ret
      exact ⟨rfl, HQ.out⟩
end Go.Proofs.Ythhaaakabpnbnaa
