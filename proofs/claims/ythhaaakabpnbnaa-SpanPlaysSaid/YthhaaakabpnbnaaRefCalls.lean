/-
  The reference's Add, Remove, Gaps, Cut, Has. No conditions.
-/
import Derived.Test.YthhaaakabpnbnaaOfA
import Derived.Test.YthhaaakabpnbnaaOfB
namespace Go.Proofs.Ythhaaakabpnbnaa
open Go.RowKit
set_option linter.unusedVariables false
set_option linter.unusedSimpArgs false

/-- What stands at a reference's function's head. -/
structure RHead (w : World) (A : Option Addr) (n c : Nat) (l : List Sp) (s : Sp) : Prop where
  v : ∀ W, Quiet (w.alloc (.cells #[.int .i64 s.1, .int .i64 s.2] 28)) W → Calls Try.prog 21 #[.slice A n c] W fun e w' => e = .returned (.bool true) ∧ Quiet W w'
  i : ∀ W, Calls Try.prog 30 #[.agg #[.int .i64 s.1, .int .i64 s.2]] W fun e w' => e = .returned (.bool true) ∧ Quiet W w'
  b : ∀ W, Quiet (w.alloc (.cells #[.int .i64 s.1, .int .i64 s.2] 28)) W → W.cell? ⟨w.heap.size, 0, none⟩ = some (.int .i64 s.1) ∧ W.cell? ⟨w.heap.size, 1, none⟩ = some (.int .i64 s.2) ∧ w.heap.size < W.heap.size
  q : ∀ W, Quiet (w.alloc (.cells #[.int .i64 s.1, .int .i64 s.2] 28)) W → Quiet w W
theorem rhead {w : World} {A : Option Addr} {n c : Nat} {l : List Sp} (h : Sps w A n c l) (s : Sp) (hok : okF l s = true) : RHead w A n c l s := by
  have q1 : Quiet w (w.alloc (.cells #[.int .i64 s.1, .int .i64 s.2] 28)) := (Only.refl _ _).alloc _
  have b0 := blk_new w (.cells #[.int .i64 s.1, .int .i64 s.2] 28)
  unfold okF at hok
  obtain ⟨hv, hs⟩ := Bool.and_eq_true_iff.1 hok
  refine ⟨fun W hW => ?_, fun W => ?_, fun W hW => ⟨blk_cell (hW.keep b0 (fun x => x)) 0, blk_cell (hW.keep b0 (fun x => x)) 1, lt_of_heap (hW.keep b0 (fun x => x))⟩, fun W hW => q1.trans hW⟩
  · have := rvalid_at (h.quiet (q1.trans hW))
    rwa [hv] at this
  · have := rright_at W s
    rwa [hs] at this
theorem okF_parts {l : List Sp} {s : Sp} (h : okF l s = true) : Good l ∧ l.length ≤ 32 ∧ isSp s = true := ⟨(okF_iff.1 h).1, (okF_iff.1 h).2.1, (Bool.and_eq_true_iff.1 h).2⟩
set_option maxHeartbeats 2000000 in
theorem change1_bad {w : World} {A : Option Addr} {n c : Nat} {l : List Sp} (h : Sps w A n c l) (s : Sp) (hok : okF l s = false) :
    Calls Try.prog 28 #[.slice A n c, .agg #[.int .i64 s.1, .int .i64 s.2], .int .i64 1] w fun e w' => e = .returned (.tuple #[.slice none 0 0, .int .i64 2]) ∧ Quiet w w' := by
  have q1 : Quiet w (w.alloc (.cells #[.int .i64 s.1, .int .i64 s.2] 28)) := (Only.refl _ _).alloc _
  have b0 := blk_new w (.cells #[.int .i64 s.1, .int .i64 s.2] 28)
  have V := Lib.hid (rvalid_at (h.quiet q1))
  clear h
  cases hv : validF l with
  | false =>
    rw [hv] at V
    go_enter Try.func28, Try.ntmps28
    go_wp2_with (go_at_call 21; refine V.out.mono ?_; rintro e w2 ⟨rfl, hq2⟩; have HQ2 := Lib.hid hq2; clear hq2)
    go_ret2
    exact ⟨rfl, q1.trans HQ2.out⟩
  | true =>
    rw [hv] at V
    have hs : isSp s = false := by unfold okF at hok; rw [hv] at hok; simpa using hok
    have C := Lib.hid (fun w2 => rright_at w2 s)
    rw [hs] at C
    have AT := Lib.hid (fun (w2 : World) (hq2 : Quiet (w.alloc (.cells #[.int .i64 s.1, .int .i64 s.2] 28)) w2) => show w2.cell? ⟨w.heap.size, 0, none⟩ = some (.int .i64 s.1) ∧ w2.cell? ⟨w.heap.size, 1, none⟩ = some (.int .i64 s.2) ∧ w.heap.size < w2.heap.size from ⟨blk_cell (hq2.keep b0 (fun x => x)) 0, blk_cell (hq2.keep b0 (fun x => x)) 1, lt_of_heap (hq2.keep b0 (fun x => x))⟩)
    clear b0
    go_enter Try.func28, Try.ntmps28
    go_wp2_with (first
      | (go_at_call 21; refine V.out.mono ?_; rintro e w2 ⟨rfl, hq2⟩; obtain ⟨t0, t1, t2⟩ := AT.out w2 hq2; have HQ2 := Lib.hid hq2; clear hq2)
      | (go_at_call 30; refine (C.out _).mono ?_; rintro e w3 ⟨rfl, hq3⟩; have HQ3 := Lib.hid hq3; clear hq3))
    go_ret2
    exact ⟨rfl, q1.trans (HQ2.out.trans HQ3.out)⟩
set_option maxHeartbeats 2000000 in
theorem change1_at {w : World} {A : Option Addr} {n c : Nat} {l : List Sp} (h : Sps w A n c l) (s : Sp) :
    Calls Try.prog 28 #[.slice A n c, .agg #[.int .i64 s.1, .int .i64 s.2], .int .i64 1] w fun e w' => Res w (addF l s) e w' := by
  cases hok : okF l s with
  | false =>
    rw [addF_eq, if_pos hok]
    refine (change1_bad h s hok).mono ?_
    rintro e w' ⟨rfl, hq⟩
    exact Res.bad hq
  | true =>
    have H := Lib.hid (rhead h s hok)
    obtain ⟨k1, k2, k3⟩ := okF_parts hok
    have OF := Lib.hid (fun (W : World) (hW : Quiet w W) => of1 (h.quiet hW) k1 (by rw [← h.len]; exact k2) s k3)
    have OK := Lib.hid hok
    clear h k1 k2 k3 hok
    go_enter Try.func28, Try.ntmps28
    go_upto_if 23 with (first
    | (go_at_call 21; refine (H.out.v _ (Only.refl _ _)).mono ?_; rintro e w2 ⟨rfl, hq2⟩; obtain ⟨t0, t1, t2⟩ := H.out.b w2 hq2; have HQ2 := Lib.hid hq2; clear hq2)
    | (go_at_call 30; refine (H.out.i _).mono ?_; rintro e w3 ⟨rfl, hq3⟩; have HQ3 := Lib.hid (HQ2.out.trans hq3); clear hq3; obtain ⟨t3, t4, t5⟩ := H.out.b w3 HQ3.out)
    | (go_at_call 31; refine (OF.out _ (H.out.q _ HQ3.out)).mono ?_; rintro e w4 ⟨R, hR, D, d, rfl, h1, h2, h3⟩; have HR := Lib.hid hR; clear hR; have F1 := Lib.hid h1; clear h1; have F2 := Lib.hid h2; clear h2; have HQ4 := Lib.hid ((H.out.q _ HQ3.out).trans h3); clear h3))
    have e := HR.out.add OK.out
    have E := Lib.hid e; clear e
    have hE : addF l s = boundF R := by rw [addF_eq, if_neg (by rw [OK.out]; decide), ← E.out]
    have HE := Lib.hid hE; clear hE
    by_cases h32 : 32 < R.length
    · have d1 : decide ((32 : Int) < (R.length : Int)) = true := by simp; omega
      have hb : boundF R = ([], 14) := by unfold boundF; rw [if_pos h32]
      have HB := Lib.hid hb; clear hb
      go_wp2
      go_ret2
      rw [HE.out, HB.out]
      exact Res.bad HQ4.out
    · have d1 : decide ((32 : Int) < (R.length : Int)) = false := by simp; omega
      have hb : boundF R = (R, 0) := by unfold boundF; rw [if_neg h32]
      have HB := Lib.hid hb; clear hb
      go_wp2
      go_ret2
      rw [HE.out, HB.out]
      exact ⟨D, d, rfl, F1.out, fun k hk => Nat.le_trans (H.out.q _ HQ3.out).size (F2.out k hk), HQ4.out⟩
set_option maxHeartbeats 2000000 in
theorem radd_at {w : World} {A : Option Addr} {n c : Nat} {l : List Sp} (h : Sps w A n c l) (s : Sp) :
    Calls Try.prog 9 #[.slice A n c, .agg #[.int .i64 s.1, .int .i64 s.2]] w fun e w' => Res w (addF l s) e w' := by
  have q1 : Quiet w (w.alloc (.cells #[.int .i64 s.1, .int .i64 s.2] 28)) := (Only.refl _ _).alloc _
  have C := Lib.hid (change1_at (h.quiet q1) s)
  have Q1 := Lib.hid q1; clear q1 h
  obtain ⟨r, hr⟩ : ∃ r, r = addF l s := ⟨_, rfl⟩
  rw [← hr] at C ⊢
  clear hr
  obtain ⟨R, z⟩ := r
  go_enter Try.func9, Try.ntmps9
  go_wp2_with (go_at_call 28; refine C.out.mono ?_; rintro e w4 ⟨D, d, rfl, h1, h2, h3⟩; have F1 := Lib.hid h1; clear h1; have F2 := Lib.hid h2; clear h2; have HQ4 := Lib.hid (Q1.out.trans h3); clear h3)
  go_ret2
  exact ⟨D, d, rfl, F1.out, fun k hk => Nat.le_trans Q1.out.size (F2.out k hk), HQ4.out⟩
set_option maxHeartbeats 2000000 in
theorem change2_bad {w : World} {A : Option Addr} {n c : Nat} {l : List Sp} (h : Sps w A n c l) (s : Sp) (hok : okF l s = false) :
    Calls Try.prog 28 #[.slice A n c, .agg #[.int .i64 s.1, .int .i64 s.2], .int .i64 2] w fun e w' => e = .returned (.tuple #[.slice none 0 0, .int .i64 2]) ∧ Quiet w w' := by
  have q1 : Quiet w (w.alloc (.cells #[.int .i64 s.1, .int .i64 s.2] 28)) := (Only.refl _ _).alloc _
  have b0 := blk_new w (.cells #[.int .i64 s.1, .int .i64 s.2] 28)
  have V := Lib.hid (rvalid_at (h.quiet q1))
  clear h
  cases hv : validF l with
  | false =>
    rw [hv] at V
    go_enter Try.func28, Try.ntmps28
    go_wp2_with (go_at_call 21; refine V.out.mono ?_; rintro e w2 ⟨rfl, hq2⟩; have HQ2 := Lib.hid hq2; clear hq2)
    go_ret2
    exact ⟨rfl, q1.trans HQ2.out⟩
  | true =>
    rw [hv] at V
    have hs : isSp s = false := by unfold okF at hok; rw [hv] at hok; simpa using hok
    have C := Lib.hid (fun w2 => rright_at w2 s)
    rw [hs] at C
    have AT := Lib.hid (fun (w2 : World) (hq2 : Quiet (w.alloc (.cells #[.int .i64 s.1, .int .i64 s.2] 28)) w2) => show w2.cell? ⟨w.heap.size, 0, none⟩ = some (.int .i64 s.1) ∧ w2.cell? ⟨w.heap.size, 1, none⟩ = some (.int .i64 s.2) ∧ w.heap.size < w2.heap.size from ⟨blk_cell (hq2.keep b0 (fun x => x)) 0, blk_cell (hq2.keep b0 (fun x => x)) 1, lt_of_heap (hq2.keep b0 (fun x => x))⟩)
    clear b0
    go_enter Try.func28, Try.ntmps28
    go_wp2_with (first
      | (go_at_call 21; refine V.out.mono ?_; rintro e w2 ⟨rfl, hq2⟩; obtain ⟨t0, t1, t2⟩ := AT.out w2 hq2; have HQ2 := Lib.hid hq2; clear hq2)
      | (go_at_call 30; refine (C.out _).mono ?_; rintro e w3 ⟨rfl, hq3⟩; have HQ3 := Lib.hid hq3; clear hq3))
    go_ret2
    exact ⟨rfl, q1.trans (HQ2.out.trans HQ3.out)⟩
set_option maxHeartbeats 2000000 in
theorem change2_at {w : World} {A : Option Addr} {n c : Nat} {l : List Sp} (h : Sps w A n c l) (s : Sp) :
    Calls Try.prog 28 #[.slice A n c, .agg #[.int .i64 s.1, .int .i64 s.2], .int .i64 2] w fun e w' => Res w (removeF l s) e w' := by
  cases hok : okF l s with
  | false =>
    rw [removeF_eq, if_pos hok]
    refine (change2_bad h s hok).mono ?_
    rintro e w' ⟨rfl, hq⟩
    exact Res.bad hq
  | true =>
    have H := Lib.hid (rhead h s hok)
    obtain ⟨k1, k2, k3⟩ := okF_parts hok
    have OF := Lib.hid (fun (W : World) (hW : Quiet w W) => of2 (h.quiet hW) k1 (by rw [← h.len]; exact k2) s k3)
    have OK := Lib.hid hok
    clear h k1 k2 k3 hok
    go_enter Try.func28, Try.ntmps28
    go_upto_if 23 with (first
    | (go_at_call 21; refine (H.out.v _ (Only.refl _ _)).mono ?_; rintro e w2 ⟨rfl, hq2⟩; obtain ⟨t0, t1, t2⟩ := H.out.b w2 hq2; have HQ2 := Lib.hid hq2; clear hq2)
    | (go_at_call 30; refine (H.out.i _).mono ?_; rintro e w3 ⟨rfl, hq3⟩; have HQ3 := Lib.hid (HQ2.out.trans hq3); clear hq3; obtain ⟨t3, t4, t5⟩ := H.out.b w3 HQ3.out)
    | (go_at_call 31; refine (OF.out _ (H.out.q _ HQ3.out)).mono ?_; rintro e w4 ⟨R, hR, D, d, rfl, h1, h2, h3⟩; have HR := Lib.hid hR; clear hR; have F1 := Lib.hid h1; clear h1; have F2 := Lib.hid h2; clear h2; have HQ4 := Lib.hid ((H.out.q _ HQ3.out).trans h3); clear h3))
    have e := HR.out.remove OK.out
    have E := Lib.hid e; clear e
    have hE : removeF l s = boundF R := by rw [removeF_eq, if_neg (by rw [OK.out]; decide), ← E.out]
    have HE := Lib.hid hE; clear hE
    by_cases h32 : 32 < R.length
    · have d1 : decide ((32 : Int) < (R.length : Int)) = true := by simp; omega
      have hb : boundF R = ([], 14) := by unfold boundF; rw [if_pos h32]
      have HB := Lib.hid hb; clear hb
      go_wp2
      go_ret2
      rw [HE.out, HB.out]
      exact Res.bad HQ4.out
    · have d1 : decide ((32 : Int) < (R.length : Int)) = false := by simp; omega
      have hb : boundF R = (R, 0) := by unfold boundF; rw [if_neg h32]
      have HB := Lib.hid hb; clear hb
      go_wp2
      go_ret2
      rw [HE.out, HB.out]
      exact ⟨D, d, rfl, F1.out, fun k hk => Nat.le_trans (H.out.q _ HQ3.out).size (F2.out k hk), HQ4.out⟩
set_option maxHeartbeats 2000000 in
theorem rremove_at {w : World} {A : Option Addr} {n c : Nat} {l : List Sp} (h : Sps w A n c l) (s : Sp) :
    Calls Try.prog 11 #[.slice A n c, .agg #[.int .i64 s.1, .int .i64 s.2]] w fun e w' => Res w (removeF l s) e w' := by
  have q1 : Quiet w (w.alloc (.cells #[.int .i64 s.1, .int .i64 s.2] 28)) := (Only.refl _ _).alloc _
  have C := Lib.hid (change2_at (h.quiet q1) s)
  have Q1 := Lib.hid q1; clear q1 h
  obtain ⟨r, hr⟩ : ∃ r, r = removeF l s := ⟨_, rfl⟩
  rw [← hr] at C ⊢
  clear hr
  obtain ⟨R, z⟩ := r
  go_enter Try.func11, Try.ntmps11
  go_wp2_with (go_at_call 28; refine C.out.mono ?_; rintro e w4 ⟨D, d, rfl, h1, h2, h3⟩; have F1 := Lib.hid h1; clear h1; have F2 := Lib.hid h2; clear h2; have HQ4 := Lib.hid (Q1.out.trans h3); clear h3)
  go_ret2
  exact ⟨D, d, rfl, F1.out, fun k hk => Nat.le_trans Q1.out.size (F2.out k hk), HQ4.out⟩
set_option maxHeartbeats 2000000 in
theorem rgaps_bad {w : World} {A : Option Addr} {n c : Nat} {l : List Sp} (h : Sps w A n c l) (s : Sp) (hok : okF l s = false) :
    Calls Try.prog 23 #[.slice A n c, .agg #[.int .i64 s.1, .int .i64 s.2]] w fun e w' => e = .returned (.slice none 0 0) ∧ Quiet w w' := by
  have q1 : Quiet w (w.alloc (.cells #[.int .i64 s.1, .int .i64 s.2] 28)) := (Only.refl _ _).alloc _
  have b0 := blk_new w (.cells #[.int .i64 s.1, .int .i64 s.2] 28)
  have V := Lib.hid (rvalid_at (h.quiet q1))
  clear h
  cases hv : validF l with
  | false =>
    rw [hv] at V
    go_enter Try.func23, Try.ntmps23
    go_wp2_with (go_at_call 21; refine V.out.mono ?_; rintro e w2 ⟨rfl, hq2⟩; have HQ2 := Lib.hid hq2; clear hq2)
    go_ret
    exact ⟨rfl, q1.trans HQ2.out⟩
  | true =>
    rw [hv] at V
    have hs : isSp s = false := by unfold okF at hok; rw [hv] at hok; simpa using hok
    have C := Lib.hid (fun w2 => rright_at w2 s)
    rw [hs] at C
    have AT := Lib.hid (fun (w2 : World) (hq2 : Quiet (w.alloc (.cells #[.int .i64 s.1, .int .i64 s.2] 28)) w2) => show w2.cell? ⟨w.heap.size, 0, none⟩ = some (.int .i64 s.1) ∧ w2.cell? ⟨w.heap.size, 1, none⟩ = some (.int .i64 s.2) ∧ w.heap.size < w2.heap.size from ⟨blk_cell (hq2.keep b0 (fun x => x)) 0, blk_cell (hq2.keep b0 (fun x => x)) 1, lt_of_heap (hq2.keep b0 (fun x => x))⟩)
    clear b0
    go_enter Try.func23, Try.ntmps23
    go_wp2_with (first
      | (go_at_call 21; refine V.out.mono ?_; rintro e w2 ⟨rfl, hq2⟩; obtain ⟨t0, t1, t2⟩ := AT.out w2 hq2; have HQ2 := Lib.hid hq2; clear hq2)
      | (go_at_call 30; refine (C.out _).mono ?_; rintro e w3 ⟨rfl, hq3⟩; have HQ3 := Lib.hid hq3; clear hq3))
    go_ret
    exact ⟨rfl, q1.trans (HQ2.out.trans HQ3.out)⟩
set_option maxHeartbeats 2000000 in
theorem rgaps_at {w : World} {A : Option Addr} {n c : Nat} {l : List Sp} (h : Sps w A n c l) (s : Sp) :
    Calls Try.prog 23 #[.slice A n c, .agg #[.int .i64 s.1, .int .i64 s.2]] w fun e w' => Res1 w (gapsF l s) e w' := by
  cases hok : okF l s with
  | false =>
    have e : gapsF l s = [] := by unfold gapsF; rw [if_pos hok]
    rw [e]
    refine (rgaps_bad h s hok).mono ?_
    rintro e w' ⟨rfl, hq⟩
    exact Res1.nil hq
  | true =>
    have H := Lib.hid (rhead h s hok)
    obtain ⟨k1, k2, k3⟩ := okF_parts hok
    have OF := Lib.hid (fun (W : World) (hW : Quiet w W) => of3 (h.quiet hW) k1 (by rw [← h.len]; exact k2) s k3)
    have OK := Lib.hid hok
    clear h k1 k2 k3 hok
    go_enter Try.func23, Try.ntmps23
    go_wp2_with (first
    | (go_at_call 21; refine (H.out.v _ (Only.refl _ _)).mono ?_; rintro e w2 ⟨rfl, hq2⟩; obtain ⟨t0, t1, t2⟩ := H.out.b w2 hq2; have HQ2 := Lib.hid hq2; clear hq2)
    | (go_at_call 30; refine (H.out.i _).mono ?_; rintro e w3 ⟨rfl, hq3⟩; have HQ3 := Lib.hid (HQ2.out.trans hq3); clear hq3; obtain ⟨t3, t4, t5⟩ := H.out.b w3 HQ3.out)
    | (go_at_call 31; refine (OF.out _ (H.out.q _ HQ3.out)).mono ?_; rintro e w4 ⟨R, hR, D, d, rfl, h1, h2, h3⟩; have HR := Lib.hid hR; clear hR; have F1 := Lib.hid h1; clear h1; have F2 := Lib.hid h2; clear h2; have HQ4 := Lib.hid ((H.out.q _ HQ3.out).trans h3); clear h3))
    go_ret
    rw [← HR.out.gaps OK.out]
    exact ⟨D, d, rfl, F1.out, fun k hk => Nat.le_trans (H.out.q _ HQ3.out).size (F2.out k hk), HQ4.out⟩
set_option maxHeartbeats 2000000 in
theorem rcut_bad {w : World} {A : Option Addr} {n c : Nat} {l : List Sp} (h : Sps w A n c l) (s : Sp) (hok : okF l s = false) :
    Calls Try.prog 24 #[.slice A n c, .agg #[.int .i64 s.1, .int .i64 s.2]] w fun e w' => e = .returned (.slice none 0 0) ∧ Quiet w w' := by
  have q1 : Quiet w (w.alloc (.cells #[.int .i64 s.1, .int .i64 s.2] 28)) := (Only.refl _ _).alloc _
  have b0 := blk_new w (.cells #[.int .i64 s.1, .int .i64 s.2] 28)
  have V := Lib.hid (rvalid_at (h.quiet q1))
  clear h
  cases hv : validF l with
  | false =>
    rw [hv] at V
    go_enter Try.func24, Try.ntmps24
    go_wp2_with (go_at_call 21; refine V.out.mono ?_; rintro e w2 ⟨rfl, hq2⟩; have HQ2 := Lib.hid hq2; clear hq2)
    go_ret
    exact ⟨rfl, q1.trans HQ2.out⟩
  | true =>
    rw [hv] at V
    have hs : isSp s = false := by unfold okF at hok; rw [hv] at hok; simpa using hok
    have C := Lib.hid (fun w2 => rright_at w2 s)
    rw [hs] at C
    have AT := Lib.hid (fun (w2 : World) (hq2 : Quiet (w.alloc (.cells #[.int .i64 s.1, .int .i64 s.2] 28)) w2) => show w2.cell? ⟨w.heap.size, 0, none⟩ = some (.int .i64 s.1) ∧ w2.cell? ⟨w.heap.size, 1, none⟩ = some (.int .i64 s.2) ∧ w.heap.size < w2.heap.size from ⟨blk_cell (hq2.keep b0 (fun x => x)) 0, blk_cell (hq2.keep b0 (fun x => x)) 1, lt_of_heap (hq2.keep b0 (fun x => x))⟩)
    clear b0
    go_enter Try.func24, Try.ntmps24
    go_wp2_with (first
      | (go_at_call 21; refine V.out.mono ?_; rintro e w2 ⟨rfl, hq2⟩; obtain ⟨t0, t1, t2⟩ := AT.out w2 hq2; have HQ2 := Lib.hid hq2; clear hq2)
      | (go_at_call 30; refine (C.out _).mono ?_; rintro e w3 ⟨rfl, hq3⟩; have HQ3 := Lib.hid hq3; clear hq3))
    go_ret
    exact ⟨rfl, q1.trans (HQ2.out.trans HQ3.out)⟩
set_option maxHeartbeats 2000000 in
theorem rcut_at {w : World} {A : Option Addr} {n c : Nat} {l : List Sp} (h : Sps w A n c l) (s : Sp) :
    Calls Try.prog 24 #[.slice A n c, .agg #[.int .i64 s.1, .int .i64 s.2]] w fun e w' => Res1 w (cutF l s) e w' := by
  cases hok : okF l s with
  | false =>
    have e : cutF l s = [] := by unfold cutF; rw [if_pos hok]
    rw [e]
    refine (rcut_bad h s hok).mono ?_
    rintro e w' ⟨rfl, hq⟩
    exact Res1.nil hq
  | true =>
    have H := Lib.hid (rhead h s hok)
    obtain ⟨k1, k2, k3⟩ := okF_parts hok
    have OF := Lib.hid (fun (W : World) (hW : Quiet w W) => of4 (h.quiet hW) k1 (by rw [← h.len]; exact k2) s k3)
    have OK := Lib.hid hok
    clear h k1 k2 k3 hok
    go_enter Try.func24, Try.ntmps24
    go_wp2_with (first
    | (go_at_call 21; refine (H.out.v _ (Only.refl _ _)).mono ?_; rintro e w2 ⟨rfl, hq2⟩; obtain ⟨t0, t1, t2⟩ := H.out.b w2 hq2; have HQ2 := Lib.hid hq2; clear hq2)
    | (go_at_call 30; refine (H.out.i _).mono ?_; rintro e w3 ⟨rfl, hq3⟩; have HQ3 := Lib.hid (HQ2.out.trans hq3); clear hq3; obtain ⟨t3, t4, t5⟩ := H.out.b w3 HQ3.out)
    | (go_at_call 31; refine (OF.out _ (H.out.q _ HQ3.out)).mono ?_; rintro e w4 ⟨R, hR, D, d, rfl, h1, h2, h3⟩; have HR := Lib.hid hR; clear hR; have F1 := Lib.hid h1; clear h1; have F2 := Lib.hid h2; clear h2; have HQ4 := Lib.hid ((H.out.q _ HQ3.out).trans h3); clear h3))
    go_ret
    rw [← HR.out.cut OK.out]
    exact ⟨D, d, rfl, F1.out, fun k hk => Nat.le_trans (H.out.q _ HQ3.out).size (F2.out k hk), HQ4.out⟩
set_option maxHeartbeats 2000000 in
theorem rhas_at {w : World} {A : Option Addr} {n c : Nat} {l : List Sp} (h : Sps w A n c l) (s : Sp) :
    Calls Try.prog 22 #[.slice A n c, .agg #[.int .i64 s.1, .int .i64 s.2]] w fun e w' => e = .returned (.bool (hasF l s)) ∧ Quiet w w' := by
  have q1 : Quiet w (w.alloc (.cells #[.int .i64 s.1, .int .i64 s.2] 28)) := (Only.refl _ _).alloc _
  have b0 := blk_new w (.cells #[.int .i64 s.1, .int .i64 s.2] 28)
  have V := Lib.hid (rvalid_at (h.quiet q1))
  have C := Lib.hid (fun w2 => rright_at w2 s)
  have AT := Lib.hid (fun (w2 : World) (hq2 : Quiet (w.alloc (.cells #[.int .i64 s.1, .int .i64 s.2] 28)) w2) => show w2.cell? ⟨w.heap.size, 0, none⟩ = some (.int .i64 s.1) ∧ w2.cell? ⟨w.heap.size, 1, none⟩ = some (.int .i64 s.2) ∧ w.heap.size < w2.heap.size from ⟨blk_cell (hq2.keep b0 (fun x => x)) 0, blk_cell (hq2.keep b0 (fun x => x)) 1, lt_of_heap (hq2.keep b0 (fun x => x))⟩)
  have HH := Lib.hid h; clear h b0
  unfold hasF okF
  cases hv : validF l with
  | false =>
    rw [hv] at V
    go_enter Try.func22, Try.ntmps22
    go_wp2_with (go_at_call 21; refine V.out.mono ?_; rintro e w2 ⟨rfl, hq2⟩; have HQ2 := Lib.hid hq2; clear hq2)
    go_ret
    exact ⟨by simp, q1.trans HQ2.out⟩
  | true =>
    rw [hv] at V
    cases hs : isSp s with
    | false =>
      rw [hs] at C
      go_enter Try.func22, Try.ntmps22
      go_wp2_with (first
        | (go_at_call 21; refine V.out.mono ?_; rintro e w2 ⟨rfl, hq2⟩; obtain ⟨t0, t1, t2⟩ := AT.out w2 hq2; have HQ2 := Lib.hid hq2; clear hq2)
        | (go_at_call 30; refine (C.out _).mono ?_; rintro e w3 ⟨rfl, hq3⟩; have HQ3 := Lib.hid hq3; clear hq3))
      go_ret
      exact ⟨by simp, q1.trans (HQ2.out.trans HQ3.out)⟩
    | true =>
      rw [hs] at C
      have hok : okF l s = true := by unfold okF; rw [hv, hs]; rfl
      obtain ⟨k1, k2, _⟩ := okF_parts hok
      have hlen := HH.out.len
      have G := Lib.hid (show ∀ W, Quiet w W → Calls Try.prog 31 #[.slice A n c, .agg #[.int .i64 s.1, .int .i64 s.2], .int .i64 3] W fun e w' => Res1 W (gapsF l s) e w' from fun W hW => (of3 (HH.out.quiet hW) k1 (by rw [← hlen]; exact k2) s hs).mono fun e w' ⟨R, h1, h2⟩ => by rw [← h1.gaps hok]; exact h2)
      obtain ⟨R, hR⟩ : ∃ R, R = gapsF l s := ⟨_, rfl⟩
      rw [← hR] at G ⊢
      clear hR k1 k2 hlen hok HH
      have db : ((R.length : Int) == 0) = decide (R.length = 0) := by rw [Bool.eq_iff_iff]; simp
      go_enter Try.func22, Try.ntmps22
      go_wp2_with (first
        | (go_at_call 21; refine V.out.mono ?_; rintro e w2 ⟨rfl, hq2⟩; obtain ⟨t0, t1, t2⟩ := AT.out w2 hq2; have HQ2 := Lib.hid hq2; clear hq2)
        | (go_at_call 30; refine (C.out _).mono ?_; rintro e w3 ⟨rfl, hq3⟩; have HQ3 := Lib.hid (HQ2.out.trans hq3); clear hq3; obtain ⟨t3, t4, t5⟩ := AT.out w3 HQ3.out)
        | (go_at_call 31; refine (G.out _ (q1.trans HQ3.out)).mono ?_; rintro e w4 ⟨D, d, rfl, h1, h2, h3⟩; have HQ4 := Lib.hid h3; clear h1 h2 h3))
      go_ret
      exact ⟨by simp, q1.trans (HQ3.out.trans HQ4.out)⟩
end Go.Proofs.Ythhaaakabpnbnaa
