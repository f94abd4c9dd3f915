/-
  The reference's Size and ends. No conditions.
-/
import Derived.Test.YthhaaakabpnbnaaRefValid
import Derived.Test.YthhaaakabpnbnaaSortFacts
namespace Go.Proofs.Ythhaaakabpnbnaa
open Go.RowKit
set_option linter.unusedVariables false
set_option linter.unusedSimpArgs false

set_option maxHeartbeats 2000000 in
theorem rsize_at {w : World} {A : Option Addr} {n c : Nat} {l : List Sp} (h : Sps w A n c l) :
    Calls Try.prog 14 #[.slice A n c] w fun e w' => e = .returned (.int .i64 (sizeF l)) ∧ Quiet w w' := by
  have hcm := h.cap
  have hnc := h.le
  unfold maxLen at hcm
  have HN := Lib.hid h.len
  have V := Lib.hid (fun (W : World) (hW : Quiet w W) => rvalid_at (h.quiet hW))
  have H := Lib.hid h; clear h
  unfold sizeF
  cases hv : validF l with
  | false =>
    rw [hv] at V
    have h0 : n ≠ 0 := by
      intro q
      have hl : l = [] := List.eq_nil_of_length_eq_zero (by rw [HN.out, q])
      rw [hl] at hv
      exact absurd hv (by decide)
    have dd : decide ((0 : Int) < (n : Int)) = true := by simp; omega
    have dd' : decide (0 < n) = true := by simp; omega
    go_enter Try.func14, Try.ntmps14
    go_wp2
    go_loopw [3, 4] (fun v i wr => v = .int .i64 0 ∧ i = .int .i64 0 ∧ wr = w) (fun _ _ _ => 0)
    case atStart => exact ⟨rfl, rfl, rfl⟩
    case round =>
      obtain ⟨rfl, rfl, rfl⟩ := hrel
      go_wp2_with (go_at_call 21; refine (V.out _ (Only.refl _ _)).mono ?_; rintro e w2 ⟨rfl, hq2⟩; have HQ2 := Lib.hid hq2; clear hq2)
      go_ret
      exact ⟨by simp, HQ2.out⟩
  | true =>
    rw [hv] at V
    obtain ⟨hg, h32⟩ := validF_iff.1 hv
    have OK := Lib.hid hg.ok
    clear hv hg
    have hn32 : n ≤ 32 := by have := HN.out; omega
    clear h32
    rw [if_pos rfl]
    go_enter Try.func14, Try.ntmps14
    go_wp2
    go_loopw [3, 4] (fun v i wr => ∃ k : Nat, k ≤ n ∧ i = .int .i64 k ∧ v = .int .i64 (sumF (l.take k)) ∧ Quiet w wr) (fun _ i _ => n - (intOf i).toNat)
    case atStart => exact ⟨0, by omega, rfl, rfl, Only.refl _ _⟩
    case round =>
      obtain ⟨k, hk, rfl, rfl, hq⟩ := hrel
      have HQ := Lib.hid hq; clear hq
      by_cases hc : k < n
      · have dd : decide ((k : Int) < (n : Int)) = true := by simpa using hc
        have k0 : (0 : Int) ≤ (k : Int) := by omega
        have k1 : (k : Int) < (n : Int) := by omega
        obtain ⟨z0, z1⟩ := sum_take OK.out k
        obtain ⟨x, hx⟩ : ∃ x, l[k]? = some x := ⟨_, List.getElem?_eq_getElem (by have := HN.out; omega)⟩
        have hox := OK.out x (List.mem_of_getElem? hx)
        unfold Ok1 at hox
        obtain ⟨x0, x01, x1⟩ := hox
        have SS := Lib.hid (sum_step hx)
        have HX := Lib.hid hx; clear hx
        obtain ⟨z, hz⟩ : ∃ z, z = sumF (l.take k) := ⟨_, rfl⟩
        rw [← hz] at z0 z1 SS ⊢
        clear hz
        go_upto_region 5 with (go_at_call 21; refine (V.out _ HQ.out).mono ?_; rintro e w2 ⟨rfl, hq2⟩; have HQ2 := Lib.hid (HQ.out.trans hq2); clear hq2)
        obtain ⟨b, o, rfl, hb2, hcell⟩ := (H.out.quiet HQ2.out).src (by omega)
        obtain ⟨c0, c1⟩ := hcell k x HX.out
        clear hcell
        go_quiet (fail)
        go_wp2
        go_roundw
        case rel => exact ⟨k + 1, by omega, by go_num, by rw [SS.out]; congr 1; omega, by repeat (first | exact HQ2.out | refine Only.drewN ?_ _ | refine Only.drew ?_)⟩
        case measure => simp [intOf]; omega
      · have dd : decide ((k : Int) < (n : Int)) = false := by simpa using hc
        have ht : l.take k = l := List.take_of_length_le (by have := HN.out; omega)
        rw [ht]
        go_wp2
        go_ret
        exact ⟨rfl, HQ.out⟩
end Go.Proofs.Ythhaaakabpnbnaa
