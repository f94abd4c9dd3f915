/-
  What Start's closure tells: whether all operations of a list are this world's. No conditions.
-/
import Derived.Test.YtgdjbmfpbihopaaMay
namespace Go.Proofs.Ytgdjbmfpbihopaa
open Go.RowKit Go.MapKept
set_option linter.unusedVariables false
set_option linter.unusedSimpArgs false

/-- Operations that can be read. -/
structure OpRd (w : World) (A : Option Addr) (n c : Nat) (l : List Op3) : Prop where
  len : l.length = n
  le : n ≤ c
  cap : c ≤ maxLen
  nil : A = none → n = 0 ∧ c = 0
  src : 0 < n → ∃ b off, A = some ⟨b, off, none⟩ ∧ b < w.heap.size ∧ ∀ (i : Nat) (o : Op3), l[i]? = some o → ∀ j, j < 3 → w.cell? ⟨b, off + (i * 3 + j), none⟩ = (opCells o)[j]?
theorem OpRd.only {F : Nat → Prop} {w w' : World} {A : Option Addr} {n c : Nat} {l : List Op3} (h : OpRd w A n c l) (ho : Only F w w') (hF : ∀ b, (∃ off, A = some ⟨b, off, none⟩) → b < w.heap.size → ¬ F b) : OpRd w' A n c l :=
  ⟨h.len, h.le, h.cap, h.nil, fun h0 => by
    obtain ⟨b, off, h1, h2, h3⟩ := h.src h0
    exact ⟨b, off, h1, Nat.lt_of_lt_of_le h2 ho.size, fun i o hi j hj => (ho.cell (p := ⟨b, off + (i * 3 + j), none⟩) h2 (hF b ⟨off, h1⟩ h2)).trans (h3 i o hi j hj)⟩⟩
theorem OpRd.quiet {w w' : World} {A : Option Addr} {n c : Nat} {l : List Op3} (h : OpRd w A n c l) (ho : Quiet w w') : OpRd w' A n c l := h.only ho (fun _ _ _ x => x)
def AllRel (W : Wd) (l : List Op3) (w : World) (n : Nat) (vi : Value) (wr : World) : Prop := ∃ k, k ≤ n ∧ vi = .int .i64 (k : Nat) ∧ (l.take k).all (mayB W) = true ∧ Quiet w wr
set_option maxRecDepth 8000 in
set_option maxHeartbeats 4000000 in
theorem all_at {w : World} {M : TMem} (h : TAt w M) {bx : Nat} {A : Option Addr} {n c : Nat} {l : List Op3} (hb : w.heap[bx]? = some (.cells #[.slice A n c] 22 (0, 0))) (hr : OpRd w A n c l) :
    Calls Try.prog 25 #[.func (Fn.func 26) #[.pointer (some ⟨M.p, 0, none⟩)] #[], .pointer (some ⟨bx, 0, none⟩)] w fun e w' => e = .returned (.bool (l.all (mayB M.wd))) ∧ Quiet w w' := by
  have b0 := blk_cell hb 0
  have bs := lt_of_heap hb
  simp only [List.getElem?_toArray, List.getElem?_cons_zero] at b0
  have hcm := hr.cap
  have hle := hr.le
  unfold maxLen at hcm
  have HR := Lib.hid hr; clear hr
  have HM := Lib.hid (fun (W : World) (hW : Quiet w W) (o : Op3) => may_at (h.quiet hW) o)
  generalize M.wd = X at HM ⊢
  clear h hb
  go_enter Try.func25, Try.ntmps25
  go_wp2_with fail
  go_loopw [8] (fun vi wr => AllRel X l w n vi wr) (fun i _ => n - (intOf i).toNat)
  case atStart => exact ⟨0, by omega, rfl, by simp, Only.refl _ _⟩
  case round =>
    obtain ⟨k, hk, rfl, ha, hq⟩ := hrel
    have HA := Lib.hid ha; clear ha
    have HQ := Lib.hid hq; clear hq
    by_cases hlt : k < n
    · have hd1 : decide ((k : Int) < (n : Int)) = true := by simpa using hlt
      obtain ⟨b, off, rfl, hb, hcl⟩ := HR.out.src (by omega)
      obtain ⟨o, ho⟩ : ∃ o, l[k]? = some o := ⟨_, List.getElem?_eq_getElem (by have := HR.out.len; omega)⟩
      have qc : ∀ j v, j < 3 → (opCells o)[j]? = some v → wr.cell? ⟨b, off + (k * 3 + j), none⟩ = some v := fun j v hj hv => (HQ.out.cell (p := ⟨b, off + (k * 3 + j), none⟩) hb (fun x => x)).trans ((hcl k o ho j hj).trans hv)
      have q0 : wr.cell? ⟨b, off + k * 3, none⟩ = some (.int .i64 o.kind) := qc 0 _ (by omega) rfl
      have q1 : wr.cell? ⟨b, off + k * 3 + 1, none⟩ = some (.int .i64 o.a) := qc 1 _ (by omega) rfl
      have q2 : wr.cell? ⟨b, off + k * 3 + 2, none⟩ = some (.int .i64 o.b) := qc 2 _ (by omega) rfl
      have bl : b < wr.heap.size := Nat.lt_of_lt_of_le hb HQ.out.size
      have HO := Lib.hid ho
      have HTK := Lib.hid (take_more ho)
      have HOM := Lib.hid (List.mem_of_getElem? ho)
      clear qc hcl ho
      have k0 : (0 : Int) ≤ (k : Int) := by omega
      have k1 : (k : Int) < (n : Int) := by omega
      have HC := Lib.hid (fun (W : World) (hW : Quiet wr W) => HM.out W (HQ.out.trans hW) o)
      obtain ⟨r, hr⟩ : ∃ r, r = mayB X o := ⟨_, rfl⟩
      rw [← hr] at HC
      have HRR := Lib.hid hr; clear hr
      cases r with
      | true =>
        go_wp2_with (go_at_call 26; refine (HC.out _ ((Only.refl _ _).alloc _)).mono ?_; rintro e w2 ⟨rfl, hq2⟩; have Q2 := Lib.hid (Only.trans ((Only.refl _ wr).alloc _) hq2); clear hq2)
        go_roundw
        case rel => exact ⟨k + 1, by omega, by go_num, by rw [HTK.out, List.all_append, HA.out]; simp [← HRR.out], HQ.out.trans Q2.out⟩
        case measure => simp [intOf]; omega
      | false =>
        go_wp2_with (go_at_call 26; refine (HC.out _ ((Only.refl _ _).alloc _)).mono ?_; rintro e w2 ⟨rfl, hq2⟩; have Q2 := Lib.hid (Only.trans ((Only.refl _ wr).alloc _) hq2); clear hq2)
        go_ret
        refine ⟨?_, HQ.out.trans Q2.out⟩
        have : l.all (mayB X) = false := by
          rw [List.all_eq_false]
          exact ⟨o, HOM.out, by rw [← HRR.out]; decide⟩
        rw [this]; rfl
    · have hkn : k = n := by omega
      subst hkn
      have hd1 : decide ((k : Int) < (k : Int)) = false := by simp
      clear hlt
      go_wp2_with fail
      go_ret
      refine ⟨?_, HQ.out⟩
      have := HA.out
      rw [List.take_of_length_le (by have := HR.out.len; omega)] at this
      rw [this]; rfl
end Go.Proofs.Ytgdjbmfpbihopaa
