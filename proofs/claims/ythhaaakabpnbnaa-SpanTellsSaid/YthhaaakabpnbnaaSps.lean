/-
  Spans that can be read; whether a span is one; whether spans are a set. No conditions.
-/
import Derived.Test.YthhaaakabpnbnaaLaws
import Derived.Test.YthhaaakabpnbnaaSlices
import Derived.Test.YthhaaakabpnbnaaArgs
import Derived.Test.YthhaaakabpnbnaaProg
import Derived.Deep.QuietTactic
import Derived.BigQuiet
import Derived.Lib.Hide
import Derived.Deep.RegionLaw
import Derived.Deep.DeepCutAuto
import Derived.Deep.RegionHeld3
namespace Go.Proofs.Ythhaaakabpnbnaa
open Go.RowKit
set_option linter.unusedVariables false
set_option linter.unusedSimpArgs false

abbrev Quiet (w w' : World) : Prop := Only (fun _ => False) w w'
abbrev spv (x : Sp) : Value := .agg #[.int .i64 x.1, .int .i64 x.2]
def spCells (x : Sp) : List Value := [.int .i64 x.1, .int .i64 x.2]
/-- Spans that can be read. -/
structure Sps (w : World) (A : Option Addr) (n c : Nat) (l : List Sp) : Prop where
  len : l.length = n
  le : n ≤ c
  cap : c ≤ maxLen
  nil : A = none → n = 0 ∧ c = 0
  src : 0 < n → ∃ b off, A = some ⟨b, off, none⟩ ∧ b < w.heap.size ∧ ∀ i x, l[i]? = some x → w.cell? ⟨b, off + i * 2, none⟩ = some (.int .i64 x.1) ∧ w.cell? ⟨b, off + i * 2 + 1, none⟩ = some (.int .i64 x.2)
theorem Sps.only {F : Nat → Prop} {w w' : World} {A : Option Addr} {n c : Nat} {l : List Sp} (h : Sps w A n c l) (ho : Only F w w') (hF : ∀ k, k < w.heap.size → ¬ F k) : Sps w' A n c l :=
  ⟨h.len, h.le, h.cap, h.nil, fun h0 => by
    obtain ⟨b, off, h1, h2, h3⟩ := h.src h0
    exact ⟨b, off, h1, Nat.lt_of_lt_of_le h2 ho.size, fun i x hx => ⟨(ho.cell (p := ⟨b, off + i * 2, none⟩) h2 (hF b h2)).trans (h3 i x hx).1, (ho.cell (p := ⟨b, off + i * 2 + 1, none⟩) h2 (hF b h2)).trans (h3 i x hx).2⟩⟩⟩
theorem Sps.quiet {w w' : World} {A : Option Addr} {n c : Nat} {l : List Sp} (h : Sps w A n c l) (ho : Quiet w w') : Sps w' A n c l := h.only ho fun _ _ x => x
theorem Sps.nil' (w : World) : Sps w none 0 0 [] := ⟨rfl, Nat.le_refl _, by unfold maxLen; omega, fun _ => ⟨rfl, rfl⟩, fun h => absurd h (by omega)⟩
theorem Sps.of_arg {w : World} {A : Option Addr} {n c : Nat} {l : List Sp} (hnc : n ≤ c) (hcm : c ≤ maxLen) (hnl : A = none → n = 0 ∧ c = 0) (h : StructsArg spCells 2 w A n l) : Sps w A n c l :=
  ⟨h.1, hnc, hcm, hnl, fun h0 => by
    obtain ⟨b, off, h1, h2, h3⟩ := h.2 h0
    exact ⟨b, off, h1, h2, fun i x hx => ⟨h3 i x hx 0 (by omega), h3 i x hx 1 (by omega)⟩⟩⟩
theorem Try.row28 : (Try.prog.info? 28).map (fun i => (i.zero, i.size, i.bytes)) = some (some (.agg #[.int .i64 0, .int .i64 0]), 2, 16) := by kernel_rfl
set_option maxHeartbeats 2000000 in
theorem is_at (w : World) (s : Sp) : Calls Try.prog 25 #[.agg #[.int .i64 s.1, .int .i64 s.2]] w fun e w' => e = .returned (.bool (isSp s)) ∧ Quiet w w' := by
  unfold isSp
  by_cases h1 : 0 ≤ s.1
  · have d1 : decide ((0 : Int) ≤ s.1) = true := by simpa using h1
    by_cases h2 : s.1 ≤ s.2
    · have d2 : decide (s.1 ≤ s.2) = true := by simpa using h2
      rw [d1, d2]
      go_enter Try.func25, Try.ntmps25
      go_wp2
      go_ret
      exact ⟨by simp, by repeat (first | exact Only.refl _ _ | refine Only.drewN ?_ _ | refine Only.drew ?_ | refine Only.alloc ?_ _)⟩
    · have d2 : decide (s.1 ≤ s.2) = false := by simpa using h2
      rw [d1, d2]
      go_enter Try.func25, Try.ntmps25
      go_wp2
      go_ret
      exact ⟨by simp, by repeat (first | exact Only.refl _ _ | refine Only.drewN ?_ _ | refine Only.drew ?_ | refine Only.alloc ?_ _)⟩
  · have d1 : decide ((0 : Int) ≤ s.1) = false := by simpa using h1
    rw [d1]
    go_enter Try.func25, Try.ntmps25
    go_wp2
    go_ret
    exact ⟨by simp, by repeat (first | exact Only.refl _ _ | refine Only.drewN ?_ _ | refine Only.drew ?_ | refine Only.alloc ?_ _)⟩
end Go.Proofs.Ythhaaakabpnbnaa
