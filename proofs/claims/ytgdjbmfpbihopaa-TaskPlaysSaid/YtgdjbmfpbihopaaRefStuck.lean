/-
  The reference's Stuck. No conditions.
-/
import Derived.Test.YtgdjbmfpbihopaaRefStateAt
namespace Go.Proofs.Ytgdjbmfpbihopaa
open Go.RowKit Go.MapKept
set_option linter.unusedVariables false
set_option linter.unusedSimpArgs false

theorem countF_mono (W : Wd) (s : Int) : ∀ (n m : Nat), n ≤ m → countF W n s ≤ countF W m s
  | n, m, h => by
    induction m with
    | zero => obtain rfl : n = 0 := by omega
              exact Nat.le_refl _
    | succ m ih =>
      by_cases e : n = m + 1
      · subst e; exact Nat.le_refl _
      · have := ih (by omega)
        simp only [countF]
        omega
theorem countF_next (W : Wd) (k : Nat) (s : Int) : countF W (k + 1) s = countF W k s + if stateF W (k : Int) = s then 1 else 0 := rfl
theorem stuck_one {W : Wd} {k n : Nat} (hk : k < n) (hn : n = W.tasks.length) (h : stateF W (k : Int) = 1) : stuckF W = false := by
  have h1 := countF_mono W 1 (k + 1) W.tasks.length (by omega)
  have h2 := countF_next W k 1
  rw [if_pos h] at h2
  unfold stuckF
  rw [decide_eq_false (p := countF W W.tasks.length 1 = 0) (by omega), Bool.and_false]
def StRel (w : World) (W : Wd) (n : Nat) (vl vi : Value) (wr : World) : Prop := ∃ k, k ≤ n ∧ vi = .int .i64 (k : Nat) ∧ vl = .bool (decide (0 < countF W k 2)) ∧ countF W k 1 = 0 ∧ Quiet w wr
theorem st_two {W : Wd} {k : Nat} {s : Int} (h : stateF W (k : Int) = s) (h1 : s ≠ 1) (hc : countF W k 1 = 0) : countF W (k + 1) 1 = 0 ∧ decide (0 < countF W (k + 1) 2) = (decide (0 < countF W k 2) || decide (s = 2)) := by
  subst h
  rw [countF_next, countF_next, if_neg h1, hc]
  refine ⟨rfl, ?_⟩
  by_cases e : stateF W (k : Int) = 2
  · rw [if_pos e]; simp [e]
  · rw [if_neg e]; simp [e]
set_option maxRecDepth 8000 in
set_option maxHeartbeats 4000000 in
theorem rstuck {w : World} {base p : Nat} {W : Wd} (h : RRel base p W w) :
    Calls Try.prog 22 #[.pointer (some ⟨p, 0, none⟩)] w fun e w' => e = .returned (.bool (stuckF W)) ∧ Quiet w w' := by
  obtain ⟨M, h, rfl, _⟩ := h
  obtain ⟨_, _, _, _, c4, ps⟩ := h.head
  obtain ⟨A, cap, hv, hcm, _⟩ := h.shape
  obtain ⟨hl, hsm⟩ := h.len
  rw [hv] at c4
  have HC := Lib.hid (fun (V : World) (hV : Quiet w V) => show V.cell? ⟨M.p, 4, none⟩ = some (.slice A M.ts.length cap) ∧ M.p < V.heap.size from ⟨(hV.cell (p := ⟨M.p, 4, none⟩) ps (fun x => x)).trans c4, Nat.lt_of_lt_of_le ps hV.size⟩)
  have HS := Lib.hid (fun (V : World) (hV : Quiet w V) (k : Int) => rstate_at (h.quiet hV) k)
  have HL := Lib.hid hl.symm
  obtain ⟨n, hn⟩ : ∃ n, n = M.ts.length := ⟨_, rfl⟩
  rw [← hn] at HC HL hsm
  clear hn hl hv h c4 hcm
  go_enter Try.func22, Try.ntmps22
  go_wp2_with fail
  have HST := Lib.hid (show StRel w W n (.bool false) (.int .i64 (0 : Nat)) w from ⟨0, by omega, rfl, by simp [countF], rfl, Only.refl _ _⟩)
  go_loopw [3, 4] (fun vl vi wr => StRel w W n vl vi wr) (fun _ i _ => n - (intOf i).toNat)
  case atStart => exact HST.out
  case round =>
    obtain ⟨k, hk, rfl, rfl, hc1, hq⟩ := hrel
    clear HST
    have HQ := Lib.hid hq; clear hq
    have HC1 := Lib.hid hc1; clear hc1
    obtain ⟨q0, q1⟩ := HC.out wr HQ.out
    obtain ⟨b, hb⟩ : ∃ b, decide (0 < countF W k 2) = b := ⟨_, rfl⟩
    rw [hb]
    have HB := Lib.hid hb; clear hb
    by_cases hlt : k < n
    · have hd : decide ((k : Int) < (n : Int)) = true := by simpa using hlt
      obtain ⟨s, hs⟩ : ∃ s, stateF W (k : Int) = s := ⟨_, rfl⟩
      have HS1 := Lib.hid (HS.out wr HQ.out (k : Int))
      rw [hs] at HS1
      have HSS := Lib.hid hs; clear hs
      by_cases h1 : s = 1
      · have d1 : (s == 1) = true := by simp [h1]
        have H1 := Lib.hid h1; clear h1
        go_wp2_with (go_at_call 23; refine HS1.out.mono ?_; rintro e w2 ⟨rfl, hq2⟩; have Q2 := Lib.hid hq2; clear hq2)
        go_ret
        exact ⟨by rw [stuck_one hlt HL.out (HSS.out.trans H1.out)]; rfl, HQ.out.trans Q2.out⟩
      · have d1 : (s == 1) = false := by simpa using h1
        have H1 := Lib.hid h1; clear h1
        have H2 := Lib.hid (st_two HSS.out H1.out HC1.out)
        cases b with
        | true =>
          go_wp2_with (go_at_call 23; refine HS1.out.mono ?_; rintro e w2 ⟨rfl, hq2⟩; have Q2 := Lib.hid hq2; clear hq2)
          go_roundw
          case rel => exact ⟨k + 1, by omega, by go_num, by rw [H2.out.2, HB.out]; rfl, H2.out.1, HQ.out.trans Q2.out⟩
          case measure => simp [intOf]; omega
        | false =>
          by_cases h2 : s = 2
          · have d2 : (s == 2) = true := by simp [h2]
            have HH2 := Lib.hid h2; clear h2
            go_wp2_with (go_at_call 23; refine HS1.out.mono ?_; rintro e w2 ⟨rfl, hq2⟩; have Q2 := Lib.hid hq2; clear hq2)
            go_roundw
            case rel => exact ⟨k + 1, by omega, by go_num, by rw [H2.out.2, HB.out, HH2.out]; rfl, H2.out.1, HQ.out.trans Q2.out⟩
            case measure => simp [intOf]; omega
          · have d2 : (s == 2) = false := by simpa using h2
            have HH2 := Lib.hid h2; clear h2
            go_wp2_with (go_at_call 23; refine HS1.out.mono ?_; rintro e w2 ⟨rfl, hq2⟩; have Q2 := Lib.hid hq2; clear hq2)
            go_roundw
            case rel => exact ⟨k + 1, by omega, by go_num, by rw [H2.out.2, HB.out, decide_eq_false HH2.out]; rfl, H2.out.1, HQ.out.trans Q2.out⟩
            case measure => simp [intOf]; omega
    · have hkn : k = n := by omega
      subst hkn
      have hd : decide ((k : Int) < (k : Int)) = false := by simp
      go_wp2_with fail
      go_ret
      exact ⟨by rw [← HB.out]; unfold stuckF; rw [← HL.out, HC1.out]; simp, HQ.out⟩
end Go.Proofs.Ytgdjbmfpbihopaa
