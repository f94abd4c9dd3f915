/-
  The walk of SpanParts. No conditions.
-/
import Derived.Test.YthhaaakabpnbnaaKeeps
namespace Go.Proofs.Ythhaaakabpnbnaa
open Go.RowKit
set_option linter.unusedVariables false
set_option linter.unusedSimpArgs false

theorem ad56 (W : World) : Calls Try.prog 8 #[.slice none 0 0, .agg #[.int .i64 5, .int .i64 6]] W fun e w' => ∃ D c, e = .returned (.tuple #[.slice D 1 c, .int .i64 0]) ∧ Quiet W w' := by
  have := add_at (Sps.nil' W) (5, 6)
  rw [add56] at this
  refine this.mono ?_
  rintro e w' ⟨D, c, rfl, _, _, h⟩
  exact ⟨D, c, rfl, h⟩
theorem not_ok {l : List Sp} {s : Sp} (h : okF l s = false) : validF l = false ∨ validF l = true ∧ (s.1 < 0 ∨ ¬ s.1 < 0 ∧ (s.2 < s.1 ∨ ¬ s.2 < s.1 ∧ 1048576 < s.2)) := by
  cases hv : validF l with
  | false => exact .inl rfl
  | true =>
    refine .inr ⟨rfl, ?_⟩
    unfold okF at h
    rw [hv, Bool.true_and, Bool.eq_false_iff, ne_eq, isSp_iff] at h
    omega
set_option maxRecDepth 8000 in
set_option maxHeartbeats 4000000 in
theorem parts_bad {w : World} {A : Option Addr} {n c : Nat} {l : List Sp} (h : Sps w A n c l) (s : Sp) (z : Int) (hok : okF l s = false) :
    Calls Try.prog 5 #[.slice A n c, .agg #[.int .i64 s.1, .int .i64 s.2], .int .i64 z] w fun e w' => e = .returned (.bool true) ∧ Quiet w w' := by
  have BX := Lib.hid (box_at w s)
  have HQ1 := Lib.hid (show Quiet w (w.alloc (.cells #[.int .i64 s.1, .int .i64 s.2] 28)) from (Only.refl _ _).alloc _)
  have C1 := Lib.hid (ad56 (w.alloc (.cells #[.int .i64 s.1, .int .i64 s.2] 28)))
  have V := Lib.hid (fun (W : World) (hW : Quiet w W) => valid_at (h.quiet hW))
  clear h
  have HN := not_ok hok
  clear hok
  go_enter Try.func5, Try.ntmps5
  go_upto_region 4 with (go_at_call 8; refine C1.out.mono ?_; rintro e w2 ⟨D, d, rfl, hq2⟩; obtain ⟨t0, t1, t2⟩ := BX.out w2 hq2; have HQ2 := Lib.hid hq2; clear hq2)
  rcases HN with hv | ⟨hv, h1⟩
  · rw [hv] at V
    go_wp2_with (go_at_call 16; refine (V.out _ (HQ1.out.trans HQ2.out)).mono ?_; rintro e w3 ⟨rfl, hq3⟩; have HQ3 := Lib.hid (HQ2.out.trans hq3); clear hq3)
    go_ret
    exact ⟨rfl, HQ1.out.trans HQ3.out⟩
  · rw [hv] at V
    rcases h1 with h1 | ⟨h1, h2⟩
    · have d1 : decide (s.1 < 0) = true := decide_eq_true (by omega)
      go_wp2_with (go_at_call 16; refine (V.out _ (HQ1.out.trans HQ2.out)).mono ?_; rintro e w3 ⟨rfl, hq3⟩; have HQ3 := Lib.hid (HQ2.out.trans hq3); clear hq3; obtain ⟨t3, t4, t5⟩ := BX.out w3 HQ3.out)
      go_ret
      exact ⟨rfl, HQ1.out.trans HQ3.out⟩
    · have d1 : decide (s.1 < 0) = false := decide_eq_false (by omega)
      rcases h2 with h2 | ⟨h2, h3⟩
      · have d2 : decide (s.2 < s.1) = true := decide_eq_true (by omega)
        go_wp2_with (go_at_call 16; refine (V.out _ (HQ1.out.trans HQ2.out)).mono ?_; rintro e w3 ⟨rfl, hq3⟩; have HQ3 := Lib.hid (HQ2.out.trans hq3); clear hq3; obtain ⟨t3, t4, t5⟩ := BX.out w3 HQ3.out)
        go_ret
        exact ⟨rfl, HQ1.out.trans HQ3.out⟩
      · have d2 : decide (s.2 < s.1) = false := decide_eq_false (by omega)
        have d3 : decide (1048576 < s.2) = true := decide_eq_true h3
        go_wp2_with (go_at_call 16; refine (V.out _ (HQ1.out.trans HQ2.out)).mono ?_; rintro e w3 ⟨rfl, hq3⟩; have HQ3 := Lib.hid (HQ2.out.trans hq3); clear hq3; obtain ⟨t3, t4, t5⟩ := BX.out w3 HQ3.out)
        go_ret
        exact ⟨rfl, HQ1.out.trans HQ3.out⟩
set_option maxRecDepth 8000 in
set_option maxHeartbeats 4000000 in
theorem parts_ok {w : World} {A : Option Addr} {n c : Nat} {l : List Sp} (h : Sps w A n c l) (s : Sp) (z : Int) (hok : okF l s = true) :
    Calls Try.prog 5 #[.slice A n c, .agg #[.int .i64 s.1, .int .i64 s.2], .int .i64 z] w fun e w' => e = .returned (.bool true) ∧ Quiet w w' := by
  have BX := Lib.hid (box_at w s)
  have HQ1 := Lib.hid (show Quiet w (w.alloc (.cells #[.int .i64 s.1, .int .i64 s.2] 28)) from (Only.refl _ _).alloc _)
  have C1 := Lib.hid (ad56 (w.alloc (.cells #[.int .i64 s.1, .int .i64 s.2] 28)))
  have V := Lib.hid (fun (W : World) (hW : Quiet w W) => valid_at (h.quiet hW))
  have GP := Lib.hid (fun (W : World) (hW : Quiet w W) => gaps_at (h.quiet hW) s)
  have CT := Lib.hid (fun (W : World) (hW : Quiet w W) => cut_at (h.quiet hW) s)
  have HS := Lib.hid (fun (W : World) (hW : Quiet w W) => has_at (h.quiet hW) s)
  have IN := Lib.hid (fun (W : World) (hW : Quiet w W) (y : Int) => inside_at (h.quiet hW) y)
  obtain ⟨_, _, hs0, hs1, hs2⟩ := okF_iff.1 hok
  have hv : validF l = true := (Bool.and_eq_true_iff.1 hok).1
  obtain ⟨hgg, hgl, _⟩ := gapsF_mem hok
  have PS := Lib.hid (parts_sum hok)
  have PI := Lib.hid (fun (y : Int) (h1 : s.1 ≤ y) (h2 : y < s.2) => parts_in hok h1 h2)
  have PN := Lib.hid (parts_none hok)
  have HHS := Lib.hid (hasF_of hok)
  have GG := Lib.hid hgg.ok
  have GL := Lib.hid hgl
  rw [hv] at V
  clear hgg hgl hv hok h
  obtain ⟨gs, hgs⟩ : ∃ gs, gs = gapsF l s := ⟨_, rfl⟩
  obtain ⟨ct, hct⟩ : ∃ ct, ct = cutF l s := ⟨_, rfl⟩
  rw [← hgs] at GP PS PI PN HHS GG GL
  rw [← hct] at CT PS PI PN
  clear hgs hct
  have d1 : decide (s.1 < 0) = false := decide_eq_false (by omega)
  have d2 : decide (s.2 < s.1) = false := decide_eq_false (by omega)
  have d3 : decide (1048576 < s.2) = false := decide_eq_false (by omega)
  go_enter Try.func5, Try.ntmps5
  go_upto_region 6 with (first
    | (go_at_call 8; refine C1.out.mono ?_; rintro e w2 ⟨D, d, rfl, hq2⟩; obtain ⟨t0, t1, t2⟩ := BX.out w2 hq2; have HQ2 := Lib.hid hq2; clear hq2)
    | (go_at_call 16; refine (V.out _ (HQ1.out.trans HQ2.out)).mono ?_; rintro e w3 ⟨rfl, hq3⟩; have HQ3 := Lib.hid (HQ2.out.trans hq3); clear hq3; obtain ⟨t3, t4, t5⟩ := BX.out w3 HQ3.out))
  have HD3 := Lib.hid (show Quiet (w.alloc (.cells #[.int .i64 s.1, .int .i64 s.2] 28)) w3.drew from Only.drew HQ3.out)
  obtain ⟨v0, v1, v2⟩ := BX.out _ HD3.out
  clear t0 t1 t2 C1 V d1 d2 d3
  go_region_held3 (fun w' => w'.cell? ⟨w.heap.size, 0, none⟩ = some (.int .i64 s.1) ∧ w'.cell? ⟨w.heap.size, 1, none⟩ = some (.int .i64 s.2))
    (go_keep)
    (first
      | (go_at_call 17; refine (GP.out _ (HQ1.out.trans HD3.out)).mono ?_; rintro e w4 ⟨D4, d4, rfl, h1, _, h3⟩; have F4 := Lib.hid h1; have HQ4 := Lib.hid (HD3.out.trans h3); clear h1 h3; obtain ⟨y0, y1, y2⟩ := BX.out w4 HQ4.out)
      | (go_at_call 18; refine (CT.out _ (HQ1.out.trans HQ4.out)).mono ?_; rintro e w5 ⟨D5, d5, rfl, h1, _, h3⟩; have F5 := Lib.hid h1; have R5 := Lib.hid h3; have HQ5 := Lib.hid (HQ4.out.trans h3); clear h1 h3; obtain ⟨y3, y4, y5⟩ := BX.out w5 HQ5.out))
  go_upto_region 7 with (fail)
  have HD5 := Lib.hid (show Quiet (w.alloc (.cells #[.int .i64 s.1, .int .i64 s.2] 28)) w5.drew from Only.drew HQ5.out)
  have HE5 := Lib.hid (show Quiet w5 w5.drew from Only.drew (Only.refl _ _))
  obtain ⟨v3, v4, v5⟩ := BX.out _ HD5.out
  clear t3 t4 t5 y0 y1 y2 y3 y4 y5 v0 v1 v2
  obtain ⟨T, hT⟩ : ∃ T, T = s.2 - s.1 := ⟨_, rfl⟩
  obtain ⟨sa, hsa⟩ : ∃ sa, sa = sizeF ct := ⟨_, rfl⟩
  obtain ⟨sb, hsb⟩ : ∃ sb, sb = sumF gs := ⟨_, rfl⟩
  obtain ⟨g0, hg0⟩ : ∃ g0, g0 = decide (gs = []) := ⟨_, rfl⟩
  have e1 : IntKind.i64.wrap (sa + sb) = T := by rw [hsa, hsb, PS.out, hT, IntKind.wrap_i64]; omega
  have e2 : IntKind.i64.wrap (s.2 - s.1) = T := by rw [hT, IntKind.wrap_i64]; omega
  have e3 : ((gs.length : Int) == 0) = g0 := by rw [hg0]; cases gs <;> simp <;> omega
  have HSA := Lib.hid hsa; clear hsa
  have HSB := Lib.hid hsb; clear hsb
  have HG0 := Lib.hid hg0; clear hg0
  clear hT
  rw [← HG0.out] at HHS
  go_region_held3 (fun w' => w'.cell? ⟨w.heap.size, 0, none⟩ = some (.int .i64 s.1) ∧ w'.cell? ⟨w.heap.size, 1, none⟩ = some (.int .i64 s.2))
    (go_keep)
    (first
      | (go_at_call 13; refine (size_at (F5.out.quiet HE5.out)).mono ?_; rw [← HSA.out]; rintro e w6 ⟨rfl, hq⟩; have R6 := Lib.hid (HE5.out.trans hq); have HQ6 := Lib.hid (HD5.out.trans hq); clear hq; obtain ⟨y0, y1, y2⟩ := BX.out w6 HQ6.out)
      | (go_at_call 19; refine (sum_at (F4.out.quiet (R5.out.trans R6.out)) GG.out (by have := GL.out; omega)).mono ?_; rw [← HSB.out]; rintro e w7 ⟨rfl, hq⟩; have R7 := Lib.hid (R6.out.trans hq); have HQ7 := Lib.hid (HQ6.out.trans hq); clear hq; obtain ⟨y3, y4, y5⟩ := BX.out w7 HQ7.out)
      | (go_at_call 15; refine (HS.out _ (HQ1.out.trans HQ7.out)).mono ?_; rw [HHS.out]; rintro e w8 ⟨rfl, hq⟩; have R8 := Lib.hid (R7.out.trans hq); have HQ8 := Lib.hid (HQ7.out.trans hq); clear hq; obtain ⟨y6, y7, y8⟩ := BX.out w8 HQ8.out))
  clear y0 y1 y2 y3 y4 y5 v3 v4 v5 e1 e2 e3
  go_upto_region 9 with (fail)
  by_cases q1 : z < s.1
  · have d1 : decide (z < s.1) = true := decide_eq_true q1
    have p1 : s.1 ≤ s.1 := by omega
    have p2 : s.1 < s.2 → s.1 < s.2 := by omega
    have p3 : s.1 = s.2 → s.1 = s.2 := by omega
    go_upto_region 11 with (fail)
    by_cases he : s.1 = s.2
    · have de : (s.1 == s.2) = true := by simp; omega
      obtain ⟨g1, g2⟩ := PN.out he
      subst g1 g2
      have HE := Lib.hid he; clear he p1 p2 p3
      go_wp2
      go_ret
      exact ⟨rfl, HQ1.out.trans HQ8.out⟩
    · have de : (s.1 == s.2) = false := by simp; omega
      obtain ⟨k1, k2⟩ := PI.out s.1 p1 (p2 (by omega))
      obtain ⟨i0, hi0⟩ : ∃ i0, i0 = inn l s.1 := ⟨_, rfl⟩
      rw [← hi0] at k1 k2
      have K1 := Lib.hid k1; clear k1
      have K2 := Lib.hid k2; clear k2
      have I9 := Lib.hid (inside_at (F4.out.quiet (R5.out.trans R8.out)) s.1)
      have J9 := Lib.hid (fun (W : World) (hW : Quiet w8 W) => inside_at (F5.out.quiet (R8.out.trans hW)) s.1)
      have L9 := Lib.hid (fun (W : World) (hW : Quiet w8 W) => IN.out W ((HQ1.out.trans HQ8.out).trans hW) s.1)
      rw [K2.out] at I9
      rw [K1.out] at J9
      rw [← hi0] at L9
      clear hi0 p1 p2 p3 he
      go_upto_region 13 with (fail)
      cases i0 with
      | true =>
        go_wp2_with (first
          | (go_at_call 20; (with_reducible refine (I9.out).mono ?_); rintro e w9 ⟨rfl, hq⟩; have R9 := Lib.hid hq; clear hq)
          | (go_at_call 20; (with_reducible refine (J9.out _ R10.out).mono ?_); rintro e w11 ⟨rfl, hq⟩; have R11 := Lib.hid (R10.out.trans hq); clear hq)
          | (go_at_call 20; (with_reducible refine (J9.out _ R9.out).mono ?_); rintro e w10 ⟨rfl, hq⟩; have R10 := Lib.hid (R9.out.trans hq); clear hq)
          | (go_at_call 20; (with_reducible refine (L9.out _ R11.out).mono ?_); rintro e w12 ⟨rfl, hq⟩; have R12 := Lib.hid (R11.out.trans hq); clear hq))
        go_ret
        exact ⟨rfl, HQ1.out.trans (HQ8.out.trans R12.out)⟩
      | false =>
        go_wp2_with (first
          | (go_at_call 20; (with_reducible refine (I9.out).mono ?_); rintro e w9 ⟨rfl, hq⟩; have R9 := Lib.hid hq; clear hq)
          | (go_at_call 20; (with_reducible refine (J9.out _ R10.out).mono ?_); rintro e w11 ⟨rfl, hq⟩; have R11 := Lib.hid (R10.out.trans hq); clear hq)
          | (go_at_call 20; (with_reducible refine (J9.out _ R9.out).mono ?_); rintro e w10 ⟨rfl, hq⟩; have R10 := Lib.hid (R9.out.trans hq); clear hq)
          | (go_at_call 20; (with_reducible refine (L9.out _ R11.out).mono ?_); rintro e w12 ⟨rfl, hq⟩; have R12 := Lib.hid (R11.out.trans hq); clear hq))
        go_ret
        exact ⟨rfl, HQ1.out.trans (HQ8.out.trans R12.out)⟩
  · have d1 : decide (z < s.1) = false := decide_eq_false q1
    by_cases q2 : s.2 ≤ z
    · have d2 : decide (s.2 ≤ z) = true := decide_eq_true q2
      have p1 : s.1 ≤ s.1 := by omega
      have p2 : s.1 < s.2 → s.1 < s.2 := by omega
      have p3 : s.1 = s.2 → s.1 = s.2 := by omega
      go_upto_region 11 with (fail)
      by_cases he : s.1 = s.2
      · have de : (s.1 == s.2) = true := by simp; omega
        obtain ⟨g1, g2⟩ := PN.out he
        subst g1 g2
        have HE := Lib.hid he; clear he p1 p2 p3
        go_wp2
        go_ret
        exact ⟨rfl, HQ1.out.trans HQ8.out⟩
      · have de : (s.1 == s.2) = false := by simp; omega
        obtain ⟨k1, k2⟩ := PI.out s.1 p1 (p2 (by omega))
        obtain ⟨i0, hi0⟩ : ∃ i0, i0 = inn l s.1 := ⟨_, rfl⟩
        rw [← hi0] at k1 k2
        have K1 := Lib.hid k1; clear k1
        have K2 := Lib.hid k2; clear k2
        have I9 := Lib.hid (inside_at (F4.out.quiet (R5.out.trans R8.out)) s.1)
        have J9 := Lib.hid (fun (W : World) (hW : Quiet w8 W) => inside_at (F5.out.quiet (R8.out.trans hW)) s.1)
        have L9 := Lib.hid (fun (W : World) (hW : Quiet w8 W) => IN.out W ((HQ1.out.trans HQ8.out).trans hW) s.1)
        rw [K2.out] at I9
        rw [K1.out] at J9
        rw [← hi0] at L9
        clear hi0 p1 p2 p3 he
        go_upto_region 13 with (fail)
        cases i0 with
        | true =>
          go_wp2_with (first
            | (go_at_call 20; (with_reducible refine (I9.out).mono ?_); rintro e w9 ⟨rfl, hq⟩; have R9 := Lib.hid hq; clear hq)
            | (go_at_call 20; (with_reducible refine (J9.out _ R10.out).mono ?_); rintro e w11 ⟨rfl, hq⟩; have R11 := Lib.hid (R10.out.trans hq); clear hq)
            | (go_at_call 20; (with_reducible refine (J9.out _ R9.out).mono ?_); rintro e w10 ⟨rfl, hq⟩; have R10 := Lib.hid (R9.out.trans hq); clear hq)
            | (go_at_call 20; (with_reducible refine (L9.out _ R11.out).mono ?_); rintro e w12 ⟨rfl, hq⟩; have R12 := Lib.hid (R11.out.trans hq); clear hq))
          go_ret
          exact ⟨rfl, HQ1.out.trans (HQ8.out.trans R12.out)⟩
        | false =>
          go_wp2_with (first
            | (go_at_call 20; (with_reducible refine (I9.out).mono ?_); rintro e w9 ⟨rfl, hq⟩; have R9 := Lib.hid hq; clear hq)
            | (go_at_call 20; (with_reducible refine (J9.out _ R10.out).mono ?_); rintro e w11 ⟨rfl, hq⟩; have R11 := Lib.hid (R10.out.trans hq); clear hq)
            | (go_at_call 20; (with_reducible refine (J9.out _ R9.out).mono ?_); rintro e w10 ⟨rfl, hq⟩; have R10 := Lib.hid (R9.out.trans hq); clear hq)
            | (go_at_call 20; (with_reducible refine (L9.out _ R11.out).mono ?_); rintro e w12 ⟨rfl, hq⟩; have R12 := Lib.hid (R11.out.trans hq); clear hq))
          go_ret
          exact ⟨rfl, HQ1.out.trans (HQ8.out.trans R12.out)⟩
    · have d2 : decide (s.2 ≤ z) = false := decide_eq_false q2
      have p1 : s.1 ≤ z := by omega
      have p2 : s.1 < s.2 → z < s.2 := by omega
      have p3 : s.1 = s.2 → z = s.2 := by omega
      go_upto_region 11 with (fail)
      by_cases he : s.1 = s.2
      · have de : (z == s.2) = true := by simp; omega
        obtain ⟨g1, g2⟩ := PN.out he
        subst g1 g2
        have HE := Lib.hid he; clear he p1 p2 p3
        go_wp2
        go_ret
        exact ⟨rfl, HQ1.out.trans HQ8.out⟩
      · have de : (z == s.2) = false := by simp; omega
        obtain ⟨k1, k2⟩ := PI.out z p1 (p2 (by omega))
        obtain ⟨i0, hi0⟩ : ∃ i0, i0 = inn l z := ⟨_, rfl⟩
        rw [← hi0] at k1 k2
        have K1 := Lib.hid k1; clear k1
        have K2 := Lib.hid k2; clear k2
        have I9 := Lib.hid (inside_at (F4.out.quiet (R5.out.trans R8.out)) z)
        have J9 := Lib.hid (fun (W : World) (hW : Quiet w8 W) => inside_at (F5.out.quiet (R8.out.trans hW)) z)
        have L9 := Lib.hid (fun (W : World) (hW : Quiet w8 W) => IN.out W ((HQ1.out.trans HQ8.out).trans hW) z)
        rw [K2.out] at I9
        rw [K1.out] at J9
        rw [← hi0] at L9
        clear hi0 p1 p2 p3 he
        go_upto_region 13 with (fail)
        cases i0 with
        | true =>
          go_wp2_with (first
            | (go_at_call 20; (with_reducible refine (I9.out).mono ?_); rintro e w9 ⟨rfl, hq⟩; have R9 := Lib.hid hq; clear hq)
            | (go_at_call 20; (with_reducible refine (J9.out _ R10.out).mono ?_); rintro e w11 ⟨rfl, hq⟩; have R11 := Lib.hid (R10.out.trans hq); clear hq)
            | (go_at_call 20; (with_reducible refine (J9.out _ R9.out).mono ?_); rintro e w10 ⟨rfl, hq⟩; have R10 := Lib.hid (R9.out.trans hq); clear hq)
            | (go_at_call 20; (with_reducible refine (L9.out _ R11.out).mono ?_); rintro e w12 ⟨rfl, hq⟩; have R12 := Lib.hid (R11.out.trans hq); clear hq))
          go_ret
          exact ⟨rfl, HQ1.out.trans (HQ8.out.trans R12.out)⟩
        | false =>
          go_wp2_with (first
            | (go_at_call 20; (with_reducible refine (I9.out).mono ?_); rintro e w9 ⟨rfl, hq⟩; have R9 := Lib.hid hq; clear hq)
            | (go_at_call 20; (with_reducible refine (J9.out _ R10.out).mono ?_); rintro e w11 ⟨rfl, hq⟩; have R11 := Lib.hid (R10.out.trans hq); clear hq)
            | (go_at_call 20; (with_reducible refine (J9.out _ R9.out).mono ?_); rintro e w10 ⟨rfl, hq⟩; have R10 := Lib.hid (R9.out.trans hq); clear hq)
            | (go_at_call 20; (with_reducible refine (L9.out _ R11.out).mono ?_); rintro e w12 ⟨rfl, hq⟩; have R12 := Lib.hid (R11.out.trans hq); clear hq))
          go_ret
          exact ⟨rfl, HQ1.out.trans (HQ8.out.trans R12.out)⟩
theorem parts_law (w : World) (A : Option Addr) (n c : Nat) (l : List Sp) (hnc : n ≤ c) (hcm : c ≤ maxLen) (hnl : A = none → n = 0 ∧ c = 0) (arg : StructsArg spCells 2 w A n l) (_ : ∀ x ∈ l, SpWf w x) (s : Sp) (_ : SpWf w s) (z : Int) (_ : (Lit.int .i64 z).wf = true) :
    Calls Try.prog 5 #[.slice A n c, .agg #[.int .i64 s.1, .int .i64 s.2], .int .i64 z] w fun e w' => e = .returned (.bool true) ∧ Below w.heap.size w w' := by
  have key : Calls Try.prog 5 #[.slice A n c, .agg #[.int .i64 s.1, .int .i64 s.2], .int .i64 z] w fun e w' => e = .returned (.bool true) ∧ Quiet w w' := by
    cases hok : okF l s with
    | false => exact parts_bad (Sps.of_arg hnc hcm hnl arg) s z hok
    | true => exact parts_ok (Sps.of_arg hnc hcm hnl arg) s z hok
  exact key.mono fun e w' ⟨h1, h2⟩ => ⟨h1, h2.below (Nat.le_refl _) (fun _ x => x.elim)⟩
end Go.Proofs.Ythhaaakabpnbnaa
