/-
  The walk of SpanKeeps. No conditions.
-/
import Derived.Test.YthhaaakabpnbnaaSmall
import Derived.Test.YthhaaakabpnbnaaFacts
import Derived.Test.YthhaaakabpnbnaaOpen
namespace Go.Proofs.Ythhaaakabpnbnaa
open Go.RowKit
set_option linter.unusedVariables false
set_option linter.unusedSimpArgs false

theorem rm56 (W : World) : Calls Try.prog 10 #[.slice (some ⟨W.heap.size, 0, none⟩) 1 1, .agg #[.int .i64 5, .int .i64 6]] (W.alloc (.cells #[.int .i64 5, .int .i64 6] 28)) fun e w' => ∃ D c, e = .returned (.tuple #[.slice D 0 c, .int .i64 0]) ∧ Quiet W w' := by
  have := remove_at (one_new W (5, 6)) (5, 6)
  rw [remove56] at this
  refine this.mono ?_
  rintro e w' ⟨D, c, rfl, _, _, h⟩
  exact ⟨D, c, rfl, ((Only.refl _ _).alloc _).trans h⟩
theorem sz56 (W : World) : Calls Try.prog 13 #[.slice (some ⟨W.heap.size, 0, none⟩) 1 1] (W.alloc (.cells #[.int .i64 5, .int .i64 6] 28)) fun e w' => e = .returned (.int .i64 1) ∧ Quiet W w' := by
  have := size_at (one_new W (5, 6))
  rw [size56] at this
  refine this.mono ?_
  rintro e w' ⟨rfl, h⟩
  exact ⟨rfl, ((Only.refl _ _).alloc _).trans h⟩
/-- The statement's span in its box, seen from any later world. -/
theorem box_at (w : World) (s : Sp) : ∀ W, Quiet (w.alloc (.cells #[.int .i64 s.1, .int .i64 s.2] 28)) W → W.cell? ⟨w.heap.size, 0, none⟩ = some (.int .i64 s.1) ∧ W.cell? ⟨w.heap.size, 1, none⟩ = some (.int .i64 s.2) ∧ w.heap.size < W.heap.size := fun W hW =>
  have b0 := blk_new w (.cells #[.int .i64 s.1, .int .i64 s.2] 28)
  ⟨blk_cell (hW.keep b0 (fun x => x)) 0, blk_cell (hW.keep b0 (fun x => x)) 1, lt_of_heap (hW.keep b0 (fun x => x))⟩
set_option maxRecDepth 8000 in
set_option maxHeartbeats 4000000 in
theorem keeps_walk {w : World} {A : Option Addr} {n c : Nat} {l : List Sp} (h : Sps w A n c l) (s : Sp) (z : Int) :
    Calls Try.prog 7 #[.slice A n c, .agg #[.int .i64 s.1, .int .i64 s.2], .int .i64 z] w fun e w' => e = .returned (.bool true) ∧ Below w.heap.size w w' := by
  have BX := Lib.hid (box_at w s)
  have q1 : Quiet w (w.alloc (.cells #[.int .i64 s.1, .int .i64 s.2] 28)) := (Only.refl _ _).alloc _
  have HQ1 := Lib.hid q1; clear q1
  have H := Lib.hid h; clear h
  have c1 := rm56 (w.alloc (.cells #[.int .i64 s.1, .int .i64 s.2] 28))
  simp only [World.size_alloc] at c1
  have C1 := Lib.hid c1; clear c1
  have C2 := Lib.hid sz56
  have HAD := Lib.hid (fun (W : World) (hW : Quiet w W) => add_at (H.out.quiet hW) s)
  have HRM := Lib.hid (fun (W : World) (hW : Quiet w W) => remove_at (H.out.quiet hW) s)
  have HIN := Lib.hid (fun (W : World) (hW : Quiet w W) => inside_at (H.out.quiet hW) z)
  obtain ⟨ra, hra⟩ : ∃ ra, ra = addF l s := ⟨_, rfl⟩
  obtain ⟨rr, hrr⟩ : ∃ rr, rr = removeF l s := ⟨_, rfl⟩
  obtain ⟨i0, hi0⟩ : ∃ i0, i0 = inn l z := ⟨_, rfl⟩
  obtain ⟨xa, ea⟩ := ra
  obtain ⟨xr, er⟩ := rr
  have KA := Lib.hid (show ea = 0 → validF xa = true ∧ hasF xa s = true ∧ inn xa z = (i0 || (decide (s.1 ≤ z) && decide (z < s.2))) from fun e => by subst e; rw [hi0]; exact keep_add hra.symm z)
  have KR := Lib.hid (show er = 0 → validF xr = true ∧ cutF xr s = [] ∧ inn xr z = (i0 && !(decide (s.1 ≤ z) && decide (z < s.2))) from fun e => by subst e; rw [hi0]; exact keep_remove hrr.symm z)
  rw [← hra] at HAD
  rw [← hrr] at HRM
  rw [← hi0] at HIN
  clear hra hrr hi0 H
  go_enter Try.func7, Try.ntmps7
  go_upto_region 2 with (go_at_call 10; refine C1.out.mono ?_; rintro e w2 ⟨D, d, rfl, hq2⟩; obtain ⟨t0, t1, t2⟩ := BX.out w2 hq2; have HQ2 := Lib.hid hq2; clear hq2)
  clear C1
  go_upto_region 4 with (go_at_call 13; refine (C2.out w2).mono ?_; rintro e w3 ⟨rfl, hq3⟩; have HQ3 := Lib.hid (HQ2.out.trans hq3); clear hq3; obtain ⟨t3, t4, t5⟩ := BX.out w3 HQ3.out)
  rcases Decidable.em (s.1 ≤ z) with p1 | p1
  · have d1 : decide (s.1 ≤ z) = true := decide_eq_true p1
    have e1 := d1
    rcases Decidable.em (z < s.2) with p2 | p2
    · have d2 : decide (z < s.2) = true := decide_eq_true p2
      have e2 := d2
      simp only [e1, e2, Bool.and_true, Bool.true_and, Bool.and_false, Bool.false_and, Bool.or_true, Bool.or_false, Bool.not_true, Bool.not_false] at KA KR
      go_upto_region 5 with (fail)
      go_upto_if 51 with (go_at_call 8; (with_reducible refine (HAD.out _ (HQ1.out.trans HQ3.out)).mono ?_); rintro e w4 ⟨D4, d4, rfl, h1, _, h3⟩; have F4 := Lib.hid h1; clear h1; have HQ4 := Lib.hid (HQ3.out.trans h3); clear h3; obtain ⟨t6, t7, t8⟩ := BX.out w4 HQ4.out)
      go_cut [] (fun wx => Quiet (w.alloc (.cells #[.int .i64 s.1, .int .i64 s.2] 28)) wx)
      case first =>
        by_cases hz : ea = 0
        · subst hz
          obtain ⟨k1, k2, k3⟩ := KA.out rfl
          have k1 := Lib.hid k1
          have k2 := Lib.hid k2
          have k3 := Lib.hid k3
          cases i0 with
          | true =>
            go_wp2_with (first
              | (go_at_call 16; (with_reducible refine (valid_at F4.out).mono ?_); rw [k1.out]; rintro e w5 ⟨rfl, hq⟩; have R5 := Lib.hid hq; have S5 := Lib.hid (HQ4.out.trans hq); clear hq; obtain ⟨y0, y1, y2⟩ := BX.out w5 S5.out)
              | (go_at_call 15; (with_reducible refine (has_at (F4.out.quiet R5.out) s).mono ?_); rw [k2.out]; rintro e w6 ⟨rfl, hq⟩; have R6 := Lib.hid (R5.out.trans hq); have S6 := Lib.hid (S5.out.trans hq); clear hq; obtain ⟨y3, y4, y5⟩ := BX.out w6 S6.out)
              | (go_at_call 20; (with_reducible refine (inside_at (F4.out.quiet R6.out) z).mono ?_); rw [k3.out]; rintro e w7 ⟨rfl, hq⟩; have S7 := Lib.hid (S6.out.trans hq); clear hq; obtain ⟨y6, y7, y8⟩ := BX.out w7 S7.out)
              | (go_at_call 20; (with_reducible refine (HIN.out _ (HQ1.out.trans S7.out)).mono ?_); rintro e w8 ⟨rfl, hq⟩; have S8 := Lib.hid (S7.out.trans hq); clear hq; obtain ⟨y9, y10, y11⟩ := BX.out w8 S8.out))
            go_meet
            exact S8.out
          | false =>
            go_wp2_with (first
              | (go_at_call 16; (with_reducible refine (valid_at F4.out).mono ?_); rw [k1.out]; rintro e w5 ⟨rfl, hq⟩; have R5 := Lib.hid hq; have S5 := Lib.hid (HQ4.out.trans hq); clear hq; obtain ⟨y0, y1, y2⟩ := BX.out w5 S5.out)
              | (go_at_call 15; (with_reducible refine (has_at (F4.out.quiet R5.out) s).mono ?_); rw [k2.out]; rintro e w6 ⟨rfl, hq⟩; have R6 := Lib.hid (R5.out.trans hq); have S6 := Lib.hid (S5.out.trans hq); clear hq; obtain ⟨y3, y4, y5⟩ := BX.out w6 S6.out)
              | (go_at_call 20; (with_reducible refine (inside_at (F4.out.quiet R6.out) z).mono ?_); rw [k3.out]; rintro e w7 ⟨rfl, hq⟩; have S7 := Lib.hid (S6.out.trans hq); clear hq; obtain ⟨y6, y7, y8⟩ := BX.out w7 S7.out)
              | (go_at_call 20; (with_reducible refine (HIN.out _ (HQ1.out.trans S7.out)).mono ?_); rintro e w8 ⟨rfl, hq⟩; have S8 := Lib.hid (S7.out.trans hq); clear hq; obtain ⟨y9, y10, y11⟩ := BX.out w8 S8.out))
            go_meet
            exact S8.out
        · have de : (ea == 0) = false := by simpa using hz
          go_wp2
          go_meet
          exact HQ4.out
      case rest =>
        clear HQ3 t3 t4 t5
        have HQ3 := Lib.hid hcut; clear hcut
        obtain ⟨t3, t4, t5⟩ := BX.out _ HQ3.out
        go_upto_if 80 with (go_at_call 10; (with_reducible refine (HRM.out _ (HQ1.out.trans HQ3.out)).mono ?_); rintro e w4 ⟨D4, d4, rfl, h1, _, h3⟩; have F4 := Lib.hid h1; clear h1; have HQ4 := Lib.hid (HQ3.out.trans h3); clear h3; obtain ⟨t6, t7, t8⟩ := BX.out w4 HQ4.out)
        by_cases hz : er = 0
        · subst hz
          obtain ⟨k1, k2, k3⟩ := KR.out rfl
          have k1 := Lib.hid k1
          have k2 := Lib.hid k2
          have k3 := Lib.hid k3
          cases i0 with
          | true =>
            go_wp2_with (first
              | (go_at_call 16; (with_reducible refine (valid_at F4.out).mono ?_); rw [k1.out]; rintro e w5 ⟨rfl, hq⟩; have R5 := Lib.hid hq; have S5 := Lib.hid (HQ4.out.trans hq); clear hq; obtain ⟨y0, y1, y2⟩ := BX.out w5 S5.out)
              | (go_at_call 18; (with_reducible refine (cut_at (F4.out.quiet R5.out) s).mono ?_); rw [k2.out]; rintro e w6 ⟨D6, d6, rfl, _, _, hq⟩; have R6 := Lib.hid (R5.out.trans hq); have S6 := Lib.hid (S5.out.trans hq); clear hq; obtain ⟨y3, y4, y5⟩ := BX.out w6 S6.out)
              | (go_at_call 20; (with_reducible refine (inside_at (F4.out.quiet R6.out) z).mono ?_); rw [k3.out]; rintro e w7 ⟨rfl, hq⟩; have S7 := Lib.hid (S6.out.trans hq); clear hq; obtain ⟨y6, y7, y8⟩ := BX.out w7 S7.out)
              | (go_at_call 20; (with_reducible refine (HIN.out _ (HQ1.out.trans S7.out)).mono ?_); rintro e w8 ⟨rfl, hq⟩; have S8 := Lib.hid (S7.out.trans hq); clear hq; obtain ⟨y9, y10, y11⟩ := BX.out w8 S8.out))
            go_ret
            exact ⟨rfl, (HQ1.out.trans S8.out).below (Nat.le_refl _) (fun _ x => x.elim)⟩
          | false =>
            go_wp2_with (first
              | (go_at_call 16; (with_reducible refine (valid_at F4.out).mono ?_); rw [k1.out]; rintro e w5 ⟨rfl, hq⟩; have R5 := Lib.hid hq; have S5 := Lib.hid (HQ4.out.trans hq); clear hq; obtain ⟨y0, y1, y2⟩ := BX.out w5 S5.out)
              | (go_at_call 18; (with_reducible refine (cut_at (F4.out.quiet R5.out) s).mono ?_); rw [k2.out]; rintro e w6 ⟨D6, d6, rfl, _, _, hq⟩; have R6 := Lib.hid (R5.out.trans hq); have S6 := Lib.hid (S5.out.trans hq); clear hq; obtain ⟨y3, y4, y5⟩ := BX.out w6 S6.out)
              | (go_at_call 20; (with_reducible refine (inside_at (F4.out.quiet R6.out) z).mono ?_); rw [k3.out]; rintro e w7 ⟨rfl, hq⟩; have S7 := Lib.hid (S6.out.trans hq); clear hq; obtain ⟨y6, y7, y8⟩ := BX.out w7 S7.out)
              | (go_at_call 20; (with_reducible refine (HIN.out _ (HQ1.out.trans S7.out)).mono ?_); rintro e w8 ⟨rfl, hq⟩; have S8 := Lib.hid (S7.out.trans hq); clear hq; obtain ⟨y9, y10, y11⟩ := BX.out w8 S8.out))
            go_ret
            exact ⟨rfl, (HQ1.out.trans S8.out).below (Nat.le_refl _) (fun _ x => x.elim)⟩
        · have de : (er == 0) = false := by simpa using hz
          go_wp2
          go_ret
          exact ⟨rfl, (HQ1.out.trans HQ4.out).below (Nat.le_refl _) (fun _ x => x.elim)⟩
    · have d2 : decide (z < s.2) = false := decide_eq_false p2
      have e2 := d2
      simp only [e1, e2, Bool.and_true, Bool.true_and, Bool.and_false, Bool.false_and, Bool.or_true, Bool.or_false, Bool.not_true, Bool.not_false] at KA KR
      go_upto_region 5 with (fail)
      go_upto_if 51 with (go_at_call 8; (with_reducible refine (HAD.out _ (HQ1.out.trans HQ3.out)).mono ?_); rintro e w4 ⟨D4, d4, rfl, h1, _, h3⟩; have F4 := Lib.hid h1; clear h1; have HQ4 := Lib.hid (HQ3.out.trans h3); clear h3; obtain ⟨t6, t7, t8⟩ := BX.out w4 HQ4.out)
      go_cut [] (fun wx => Quiet (w.alloc (.cells #[.int .i64 s.1, .int .i64 s.2] 28)) wx)
      case first =>
        by_cases hz : ea = 0
        · subst hz
          obtain ⟨k1, k2, k3⟩ := KA.out rfl
          have k1 := Lib.hid k1
          have k2 := Lib.hid k2
          have k3 := Lib.hid k3
          cases i0 with
          | true =>
            go_wp2_with (first
              | (go_at_call 16; (with_reducible refine (valid_at F4.out).mono ?_); rw [k1.out]; rintro e w5 ⟨rfl, hq⟩; have R5 := Lib.hid hq; have S5 := Lib.hid (HQ4.out.trans hq); clear hq; obtain ⟨y0, y1, y2⟩ := BX.out w5 S5.out)
              | (go_at_call 15; (with_reducible refine (has_at (F4.out.quiet R5.out) s).mono ?_); rw [k2.out]; rintro e w6 ⟨rfl, hq⟩; have R6 := Lib.hid (R5.out.trans hq); have S6 := Lib.hid (S5.out.trans hq); clear hq; obtain ⟨y3, y4, y5⟩ := BX.out w6 S6.out)
              | (go_at_call 20; (with_reducible refine (inside_at (F4.out.quiet R6.out) z).mono ?_); rw [k3.out]; rintro e w7 ⟨rfl, hq⟩; have S7 := Lib.hid (S6.out.trans hq); clear hq; obtain ⟨y6, y7, y8⟩ := BX.out w7 S7.out)
              | (go_at_call 20; (with_reducible refine (HIN.out _ (HQ1.out.trans S7.out)).mono ?_); rintro e w8 ⟨rfl, hq⟩; have S8 := Lib.hid (S7.out.trans hq); clear hq; obtain ⟨y9, y10, y11⟩ := BX.out w8 S8.out))
            go_meet
            exact S8.out
          | false =>
            go_wp2_with (first
              | (go_at_call 16; (with_reducible refine (valid_at F4.out).mono ?_); rw [k1.out]; rintro e w5 ⟨rfl, hq⟩; have R5 := Lib.hid hq; have S5 := Lib.hid (HQ4.out.trans hq); clear hq; obtain ⟨y0, y1, y2⟩ := BX.out w5 S5.out)
              | (go_at_call 15; (with_reducible refine (has_at (F4.out.quiet R5.out) s).mono ?_); rw [k2.out]; rintro e w6 ⟨rfl, hq⟩; have R6 := Lib.hid (R5.out.trans hq); have S6 := Lib.hid (S5.out.trans hq); clear hq; obtain ⟨y3, y4, y5⟩ := BX.out w6 S6.out)
              | (go_at_call 20; (with_reducible refine (inside_at (F4.out.quiet R6.out) z).mono ?_); rw [k3.out]; rintro e w7 ⟨rfl, hq⟩; have S7 := Lib.hid (S6.out.trans hq); clear hq; obtain ⟨y6, y7, y8⟩ := BX.out w7 S7.out)
              | (go_at_call 20; (with_reducible refine (HIN.out _ (HQ1.out.trans S7.out)).mono ?_); rintro e w8 ⟨rfl, hq⟩; have S8 := Lib.hid (S7.out.trans hq); clear hq; obtain ⟨y9, y10, y11⟩ := BX.out w8 S8.out))
            go_meet
            exact S8.out
        · have de : (ea == 0) = false := by simpa using hz
          go_wp2
          go_meet
          exact HQ4.out
      case rest =>
        clear HQ3 t3 t4 t5
        have HQ3 := Lib.hid hcut; clear hcut
        obtain ⟨t3, t4, t5⟩ := BX.out _ HQ3.out
        go_upto_if 80 with (go_at_call 10; (with_reducible refine (HRM.out _ (HQ1.out.trans HQ3.out)).mono ?_); rintro e w4 ⟨D4, d4, rfl, h1, _, h3⟩; have F4 := Lib.hid h1; clear h1; have HQ4 := Lib.hid (HQ3.out.trans h3); clear h3; obtain ⟨t6, t7, t8⟩ := BX.out w4 HQ4.out)
        by_cases hz : er = 0
        · subst hz
          obtain ⟨k1, k2, k3⟩ := KR.out rfl
          have k1 := Lib.hid k1
          have k2 := Lib.hid k2
          have k3 := Lib.hid k3
          cases i0 with
          | true =>
            go_wp2_with (first
              | (go_at_call 16; (with_reducible refine (valid_at F4.out).mono ?_); rw [k1.out]; rintro e w5 ⟨rfl, hq⟩; have R5 := Lib.hid hq; have S5 := Lib.hid (HQ4.out.trans hq); clear hq; obtain ⟨y0, y1, y2⟩ := BX.out w5 S5.out)
              | (go_at_call 18; (with_reducible refine (cut_at (F4.out.quiet R5.out) s).mono ?_); rw [k2.out]; rintro e w6 ⟨D6, d6, rfl, _, _, hq⟩; have R6 := Lib.hid (R5.out.trans hq); have S6 := Lib.hid (S5.out.trans hq); clear hq; obtain ⟨y3, y4, y5⟩ := BX.out w6 S6.out)
              | (go_at_call 20; (with_reducible refine (inside_at (F4.out.quiet R6.out) z).mono ?_); rw [k3.out]; rintro e w7 ⟨rfl, hq⟩; have S7 := Lib.hid (S6.out.trans hq); clear hq; obtain ⟨y6, y7, y8⟩ := BX.out w7 S7.out)
              | (go_at_call 20; (with_reducible refine (HIN.out _ (HQ1.out.trans S7.out)).mono ?_); rintro e w8 ⟨rfl, hq⟩; have S8 := Lib.hid (S7.out.trans hq); clear hq; obtain ⟨y9, y10, y11⟩ := BX.out w8 S8.out))
            go_ret
            exact ⟨rfl, (HQ1.out.trans S8.out).below (Nat.le_refl _) (fun _ x => x.elim)⟩
          | false =>
            go_wp2_with (first
              | (go_at_call 16; (with_reducible refine (valid_at F4.out).mono ?_); rw [k1.out]; rintro e w5 ⟨rfl, hq⟩; have R5 := Lib.hid hq; have S5 := Lib.hid (HQ4.out.trans hq); clear hq; obtain ⟨y0, y1, y2⟩ := BX.out w5 S5.out)
              | (go_at_call 18; (with_reducible refine (cut_at (F4.out.quiet R5.out) s).mono ?_); rw [k2.out]; rintro e w6 ⟨D6, d6, rfl, _, _, hq⟩; have R6 := Lib.hid (R5.out.trans hq); have S6 := Lib.hid (S5.out.trans hq); clear hq; obtain ⟨y3, y4, y5⟩ := BX.out w6 S6.out)
              | (go_at_call 20; (with_reducible refine (inside_at (F4.out.quiet R6.out) z).mono ?_); rw [k3.out]; rintro e w7 ⟨rfl, hq⟩; have S7 := Lib.hid (S6.out.trans hq); clear hq; obtain ⟨y6, y7, y8⟩ := BX.out w7 S7.out)
              | (go_at_call 20; (with_reducible refine (HIN.out _ (HQ1.out.trans S7.out)).mono ?_); rintro e w8 ⟨rfl, hq⟩; have S8 := Lib.hid (S7.out.trans hq); clear hq; obtain ⟨y9, y10, y11⟩ := BX.out w8 S8.out))
            go_ret
            exact ⟨rfl, (HQ1.out.trans S8.out).below (Nat.le_refl _) (fun _ x => x.elim)⟩
        · have de : (er == 0) = false := by simpa using hz
          go_wp2
          go_ret
          exact ⟨rfl, (HQ1.out.trans HQ4.out).below (Nat.le_refl _) (fun _ x => x.elim)⟩
  · have d1 : decide (s.1 ≤ z) = false := decide_eq_false p1
    have e1 := d1
    have e2 := d1
    simp only [e1, e2, Bool.and_true, Bool.true_and, Bool.and_false, Bool.false_and, Bool.or_true, Bool.or_false, Bool.not_true, Bool.not_false] at KA KR
    go_upto_region 5 with (fail)
    go_upto_if 51 with (go_at_call 8; (with_reducible refine (HAD.out _ (HQ1.out.trans HQ3.out)).mono ?_); rintro e w4 ⟨D4, d4, rfl, h1, _, h3⟩; have F4 := Lib.hid h1; clear h1; have HQ4 := Lib.hid (HQ3.out.trans h3); clear h3; obtain ⟨t6, t7, t8⟩ := BX.out w4 HQ4.out)
    go_cut [] (fun wx => Quiet (w.alloc (.cells #[.int .i64 s.1, .int .i64 s.2] 28)) wx)
    case first =>
      by_cases hz : ea = 0
      · subst hz
        obtain ⟨k1, k2, k3⟩ := KA.out rfl
        have k1 := Lib.hid k1
        have k2 := Lib.hid k2
        have k3 := Lib.hid k3
        cases i0 with
        | true =>
          go_wp2_with (first
            | (go_at_call 16; (with_reducible refine (valid_at F4.out).mono ?_); rw [k1.out]; rintro e w5 ⟨rfl, hq⟩; have R5 := Lib.hid hq; have S5 := Lib.hid (HQ4.out.trans hq); clear hq; obtain ⟨y0, y1, y2⟩ := BX.out w5 S5.out)
            | (go_at_call 15; (with_reducible refine (has_at (F4.out.quiet R5.out) s).mono ?_); rw [k2.out]; rintro e w6 ⟨rfl, hq⟩; have R6 := Lib.hid (R5.out.trans hq); have S6 := Lib.hid (S5.out.trans hq); clear hq; obtain ⟨y3, y4, y5⟩ := BX.out w6 S6.out)
            | (go_at_call 20; (with_reducible refine (inside_at (F4.out.quiet R6.out) z).mono ?_); rw [k3.out]; rintro e w7 ⟨rfl, hq⟩; have S7 := Lib.hid (S6.out.trans hq); clear hq; obtain ⟨y6, y7, y8⟩ := BX.out w7 S7.out)
            | (go_at_call 20; (with_reducible refine (HIN.out _ (HQ1.out.trans S7.out)).mono ?_); rintro e w8 ⟨rfl, hq⟩; have S8 := Lib.hid (S7.out.trans hq); clear hq; obtain ⟨y9, y10, y11⟩ := BX.out w8 S8.out))
          go_meet
          exact S8.out
        | false =>
          go_wp2_with (first
            | (go_at_call 16; (with_reducible refine (valid_at F4.out).mono ?_); rw [k1.out]; rintro e w5 ⟨rfl, hq⟩; have R5 := Lib.hid hq; have S5 := Lib.hid (HQ4.out.trans hq); clear hq; obtain ⟨y0, y1, y2⟩ := BX.out w5 S5.out)
            | (go_at_call 15; (with_reducible refine (has_at (F4.out.quiet R5.out) s).mono ?_); rw [k2.out]; rintro e w6 ⟨rfl, hq⟩; have R6 := Lib.hid (R5.out.trans hq); have S6 := Lib.hid (S5.out.trans hq); clear hq; obtain ⟨y3, y4, y5⟩ := BX.out w6 S6.out)
            | (go_at_call 20; (with_reducible refine (inside_at (F4.out.quiet R6.out) z).mono ?_); rw [k3.out]; rintro e w7 ⟨rfl, hq⟩; have S7 := Lib.hid (S6.out.trans hq); clear hq; obtain ⟨y6, y7, y8⟩ := BX.out w7 S7.out)
            | (go_at_call 20; (with_reducible refine (HIN.out _ (HQ1.out.trans S7.out)).mono ?_); rintro e w8 ⟨rfl, hq⟩; have S8 := Lib.hid (S7.out.trans hq); clear hq; obtain ⟨y9, y10, y11⟩ := BX.out w8 S8.out))
          go_meet
          exact S8.out
      · have de : (ea == 0) = false := by simpa using hz
        go_wp2
        go_meet
        exact HQ4.out
    case rest =>
      clear HQ3 t3 t4 t5
      have HQ3 := Lib.hid hcut; clear hcut
      obtain ⟨t3, t4, t5⟩ := BX.out _ HQ3.out
      go_upto_if 80 with (go_at_call 10; (with_reducible refine (HRM.out _ (HQ1.out.trans HQ3.out)).mono ?_); rintro e w4 ⟨D4, d4, rfl, h1, _, h3⟩; have F4 := Lib.hid h1; clear h1; have HQ4 := Lib.hid (HQ3.out.trans h3); clear h3; obtain ⟨t6, t7, t8⟩ := BX.out w4 HQ4.out)
      by_cases hz : er = 0
      · subst hz
        obtain ⟨k1, k2, k3⟩ := KR.out rfl
        have k1 := Lib.hid k1
        have k2 := Lib.hid k2
        have k3 := Lib.hid k3
        cases i0 with
        | true =>
          go_wp2_with (first
            | (go_at_call 16; (with_reducible refine (valid_at F4.out).mono ?_); rw [k1.out]; rintro e w5 ⟨rfl, hq⟩; have R5 := Lib.hid hq; have S5 := Lib.hid (HQ4.out.trans hq); clear hq; obtain ⟨y0, y1, y2⟩ := BX.out w5 S5.out)
            | (go_at_call 18; (with_reducible refine (cut_at (F4.out.quiet R5.out) s).mono ?_); rw [k2.out]; rintro e w6 ⟨D6, d6, rfl, _, _, hq⟩; have R6 := Lib.hid (R5.out.trans hq); have S6 := Lib.hid (S5.out.trans hq); clear hq; obtain ⟨y3, y4, y5⟩ := BX.out w6 S6.out)
            | (go_at_call 20; (with_reducible refine (inside_at (F4.out.quiet R6.out) z).mono ?_); rw [k3.out]; rintro e w7 ⟨rfl, hq⟩; have S7 := Lib.hid (S6.out.trans hq); clear hq; obtain ⟨y6, y7, y8⟩ := BX.out w7 S7.out)
            | (go_at_call 20; (with_reducible refine (HIN.out _ (HQ1.out.trans S7.out)).mono ?_); rintro e w8 ⟨rfl, hq⟩; have S8 := Lib.hid (S7.out.trans hq); clear hq; obtain ⟨y9, y10, y11⟩ := BX.out w8 S8.out))
          go_ret
          exact ⟨rfl, (HQ1.out.trans S8.out).below (Nat.le_refl _) (fun _ x => x.elim)⟩
        | false =>
          go_wp2_with (first
            | (go_at_call 16; (with_reducible refine (valid_at F4.out).mono ?_); rw [k1.out]; rintro e w5 ⟨rfl, hq⟩; have R5 := Lib.hid hq; have S5 := Lib.hid (HQ4.out.trans hq); clear hq; obtain ⟨y0, y1, y2⟩ := BX.out w5 S5.out)
            | (go_at_call 18; (with_reducible refine (cut_at (F4.out.quiet R5.out) s).mono ?_); rw [k2.out]; rintro e w6 ⟨D6, d6, rfl, _, _, hq⟩; have R6 := Lib.hid (R5.out.trans hq); have S6 := Lib.hid (S5.out.trans hq); clear hq; obtain ⟨y3, y4, y5⟩ := BX.out w6 S6.out)
            | (go_at_call 20; (with_reducible refine (inside_at (F4.out.quiet R6.out) z).mono ?_); rw [k3.out]; rintro e w7 ⟨rfl, hq⟩; have S7 := Lib.hid (S6.out.trans hq); clear hq; obtain ⟨y6, y7, y8⟩ := BX.out w7 S7.out)
            | (go_at_call 20; (with_reducible refine (HIN.out _ (HQ1.out.trans S7.out)).mono ?_); rintro e w8 ⟨rfl, hq⟩; have S8 := Lib.hid (S7.out.trans hq); clear hq; obtain ⟨y9, y10, y11⟩ := BX.out w8 S8.out))
          go_ret
          exact ⟨rfl, (HQ1.out.trans S8.out).below (Nat.le_refl _) (fun _ x => x.elim)⟩
      · have de : (er == 0) = false := by simpa using hz
        go_wp2
        go_ret
        exact ⟨rfl, (HQ1.out.trans HQ4.out).below (Nat.le_refl _) (fun _ x => x.elim)⟩
theorem keeps_law (w : World) (A : Option Addr) (n c : Nat) (l : List Sp) (hnc : n ≤ c) (hcm : c ≤ maxLen) (hnl : A = none → n = 0 ∧ c = 0) (arg : StructsArg spCells 2 w A n l) (_ : ∀ x ∈ l, SpWf w x) (s : Sp) (_ : SpWf w s) (z : Int) (_ : (Lit.int .i64 z).wf = true) :
    Calls Try.prog 7 #[.slice A n c, .agg #[.int .i64 s.1, .int .i64 s.2], .int .i64 z] w fun e w' => e = .returned (.bool true) ∧ Below w.heap.size w w' :=
  keeps_walk (Sps.of_arg hnc hcm hnl arg) s z
end Go.Proofs.Ythhaaakabpnbnaa
