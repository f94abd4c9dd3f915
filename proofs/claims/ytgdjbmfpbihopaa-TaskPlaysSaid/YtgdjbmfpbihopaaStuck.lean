/-
  What the program's Stuck tells. No conditions.
-/
import Derived.Test.YtgdjbmfpbihopaaStep
namespace Go.Proofs.Ytgdjbmfpbihopaa
open Go.RowKit Go.MapKept
set_option linter.unusedVariables false
set_option linter.unusedSimpArgs false

theorem Only.over {S T : Nat → Prop} {a b c : World} (h : Only S a b) (k : Only T b c) (hT : ∀ i, i < a.heap.size → T i → S i) : Only S a c :=
  ⟨k.os.trans h.os, k.tape.trans h.tape, k.output.trans h.output, Nat.le_trans h.size k.size, fun i hi hs => (k.block i (Nat.lt_of_lt_of_le hi h.size) (fun q => hs (hT i hi q))).trans (h.block i hi hs)⟩
theorem countF_le (W : Wd) : ∀ (n : Nat) (s : Int), countF W n s ≤ n
  | 0, _ => Nat.le_refl _
  | n + 1, s => by
    have := countF_le W n s
    simp only [countF]
    split <;> omega
def Counts (W : Wd) (k : Nat) (f : Int → Option Int) : Prop := ∀ a, (f a).getD 0 = (countF W k a : Int)
theorem Counts.step {W : Wd} {k : Nat} {f : Int → Option Int} (h : Counts W k f) {s : Int} (hs : stateF W k = s) : Counts W (k + 1) (fun x => if x = s then some ((f s).getD 0 + 1) else f x) := fun a => by
  subst hs
  simp only [countF]
  by_cases ha : a = stateF W (k : Int)
  · subst ha
    simp [h (stateF W (k : Int))]
  · rw [if_neg ha, if_neg (fun e => ha e.symm)]
    simpa using h a
def SRel (w : World) (W : Wd) (m0 : Nat) (n : Nat) (vi : Value) (wr : World) : Prop := ∃ k f, k ≤ n ∧ vi = .int .i64 (k : Nat) ∧ MapIs wr m0 f ∧ Counts W k f ∧ Quiet w wr
set_option maxRecDepth 8000 in
set_option maxHeartbeats 4000000 in
theorem stuck_at {w : World} {M : TMem} (h : TAt w M) :
    Calls Try.prog 14 #[.pointer (some ⟨M.p, 0, none⟩)] w fun e w' => e = .returned (.bool (stuckF M.wd)) ∧ Quiet w w' := by
  obtain ⟨⟨c0, c1, c2, c3, c4, c5⟩, ps, _⟩ := h.cells
  obtain ⟨A, cap, hv, hcm⟩ := h.tasks.shape
  have hsm := h.fit.tasks
  have hl := h.tlen
  rw [hl] at hsm
  rw [hv] at c5
  unfold maxLen at hcm
  have HS := Lib.hid (fun (W : World) (hW : Quiet w W) (k : Int) => state_at (h.quiet hW) k)
  have hst : stuckF M.wd = (decide (0 < countF M.wd M.ts.length 2) && decide (countF M.wd M.ts.length 1 = 0)) := by unfold stuckF; rw [hl]
  rw [hst]
  obtain ⟨n, hn⟩ : ∃ n, n = M.ts.length := ⟨_, rfl⟩
  rw [← hn] at c5 hsm ⊢
  clear hn hl hv h hst c1 c2 c3 c4
  have hmm := @run_makeMap Try.prog
  have k0 : (w.alloc (.map #[] 0)).cell? ⟨M.p, 0, none⟩ = some (.bool true) := (((Only.refl (fun _ => False) w).alloc (.map #[] 0)).cell (p := ⟨M.p, 0, none⟩) ps (fun x => x)).trans c0
  have k1 : M.p < (w.alloc (.map #[] 0)).heap.size := by simp; omega
  generalize M.wd = W at HS ⊢
  go_enter Try.func14, Try.ntmps14
  go_wp2_with (first
      | (go_at_call 24; refine (none_of _ _ k0 k1).mono ?_; rintro e w2 ⟨rfl, rfl⟩))
  have hst : MapIs (w.alloc (.map #[] 0)) w.heap.size (fun _ => none) := MapIs.new w
  have hq0 : Quiet w (w.alloc (.map #[] 0)) := (Only.refl _ _).alloc _
  have HST := Lib.hid (show SRel w W w.heap.size n (.int .i64 (0 : Nat)) (w.alloc (.map #[] 0)) from ⟨0, _, by omega, rfl, hst, fun a => rfl, hq0⟩)
  clear hst hq0 hmm
  obtain ⟨m0, hm0⟩ : ∃ m0, m0 = w.heap.size := ⟨_, rfl⟩
  rw [← hm0] at HST ⊢
  have HM0 := Lib.hid hm0; clear hm0
  go_loopw [14] (fun vi wr => SRel w W m0 n vi wr) (fun i _ => n - (intOf i).toNat)
  case atStart => exact HST.out
  case round =>
    obtain ⟨k, f, hk, rfl, hm, hc, hq⟩ := hrel
    clear HST
    have HM := Lib.hid hm; clear hm
    have HC := Lib.hid hc; clear hc
    have HQ := Lib.hid hq; clear hq
    by_cases hlt : k < n
    · have hd : decide ((k : Int) < (n : Int)) = true := by simpa using hlt
      obtain ⟨s, hs⟩ : ∃ s, stateF W (k : Int) = s := ⟨_, rfl⟩
      have HS1 := Lib.hid (HS.out wr HQ.out (k : Int))
      rw [hs] at HS1
      have HSS := Lib.hid hs; clear hs
      have hb := HC.out s
      have hb2 := countF_le W k s
      have b0 : 0 ≤ (f s).getD 0 := by omega
      have b1 : (f s).getD 0 ≤ 64 := by omega
      clear hb hb2
      go_wp2_with (first
        | (go_at_call 11; refine HS1.out.mono ?_; rintro e w2 ⟨rfl, hq2⟩; have Q2 := Lib.hid hq2; have hlk := (HM.out.only hq2 (fun x => x)).look s false; obtain ⟨w3, hup, hm3, ho3⟩ := (HM.out.only hq2 (fun x => x)).put s ((f s).getD 0 + 1); have HM3 := Lib.hid hm3; have HO3 := Lib.hid ho3; simp only [Bool.false_eq_true, if_false] at hlk; clear hq2 hm3 ho3))
      go_roundw
      case rel => exact ⟨k + 1, _, by omega, by go_num, HM3.out, HC.out.step HSS.out, (HQ.out.trans Q2.out).over HO3.out (fun i hi q => by have := HM0.out; omega)⟩
      case measure => simp [intOf]; omega
    · have hkn : k = n := by omega
      subst hkn
      have l2 := HM.out.look 2 false
      have l1 := HM.out.look 1 false
      simp only [Bool.false_eq_true, if_false] at l1 l2
      rw [HC.out 2] at l2
      rw [HC.out 1] at l1
      clear hlt
      obtain ⟨a, ha2⟩ : ∃ a, a = countF W k 2 := ⟨_, rfl⟩
      obtain ⟨b, hb2⟩ : ∃ b, b = countF W k 1 := ⟨_, rfl⟩
      rw [← ha2] at l2
      rw [← hb2] at l1
      have HA := Lib.hid ha2; clear ha2
      have HB := Lib.hid hb2; clear hb2
      have hd : decide ((k : Int) < (k : Int)) = false := by simp
      have hb : ((b : Int) == 0) = decide (b = 0) := by rw [Bool.eq_iff_iff]; simp
      by_cases ha : 0 < a
      · have da : decide ((0 : Int) < (a : Int)) = true := by simpa using ha
        go_wp2_with fail
        go_ret
        exact ⟨by rw [← HA.out, ← HB.out]; simp [ha, hb], HQ.out⟩
      · have da : decide ((0 : Int) < (a : Int)) = false := by simpa using ha
        go_wp2_with fail
        go_ret
        exact ⟨by rw [← HA.out, ← HB.out]; simp [ha], HQ.out⟩
end Go.Proofs.Ytgdjbmfpbihopaa
