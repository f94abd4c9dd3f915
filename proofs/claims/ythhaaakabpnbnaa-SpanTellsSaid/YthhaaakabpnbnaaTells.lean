/-
  The walk of SpanTells. No conditions.
-/
import Derived.Test.YthhaaakabpnbnaaPlays
namespace Go.Proofs.Ythhaaakabpnbnaa
open Go.RowKit
set_option linter.unusedVariables false
set_option linter.unusedSimpArgs false

theorem add13 : addF [] (1, 3) = ([(1, 3)], 0) := by decide
theorem ad13 (W : World) : Calls Try.prog 8 #[.slice none 0 0, .agg #[.int .i64 1, .int .i64 3]] W fun e w' => ∃ D c, e = .returned (.tuple #[.slice D 1 c, .int .i64 0]) ∧ Quiet W w' := by
  have := add_at (Sps.nil' W) (1, 3)
  rw [add13] at this
  refine this.mono ?_
  rintro e w' ⟨D, c, rfl, _, _, h⟩
  exact ⟨D, c, rfl, h⟩
set_option maxRecDepth 8000 in
set_option maxHeartbeats 16000000 in
theorem tells_walk {w : World} {A : Option Addr} {n c : Nat} {l : List Sp} (h : Sps w A n c l) (s : Sp) :
    Calls Try.prog 6 #[.slice A n c, .agg #[.int .i64 s.1, .int .i64 s.2]] w fun e w' => e = .returned (.bool true) ∧ Quiet w w' := by
  have BX := Lib.hid (box_at w s)
  have HQ1 := Lib.hid (show Quiet w (w.alloc (.cells #[.int .i64 s.1, .int .i64 s.2] 28)) from (Only.refl _ _).alloc _)
  by_cases hbig : 60 < n
  · have dd : decide ((60 : Int) < (n : Int)) = true := by simp; omega
    go_enter Try.func6, Try.ntmps6
    go_wp2
    go_ret
    exact ⟨rfl, HQ1.out⟩
  · have dd : decide ((60 : Int) < (n : Int)) = false := by simp; omega
    obtain ⟨ra, hra⟩ : ∃ ra, ra = addF l s := ⟨_, rfl⟩
    obtain ⟨rr, hrr⟩ : ∃ rr, rr = removeF l s := ⟨_, rfl⟩
    obtain ⟨xa, ea⟩ := ra
    obtain ⟨xr, er⟩ := rr
    obtain ⟨gs, hgs⟩ : ∃ gs, gs = gapsF l s := ⟨_, rfl⟩
    obtain ⟨ct, hct⟩ : ∃ ct, ct = cutF l s := ⟨_, rfl⟩
    obtain ⟨bv, hbv⟩ : ∃ bv, bv = validF l := ⟨_, rfl⟩
    obtain ⟨bh, hbh⟩ : ∃ bh, bh = hasF l s := ⟨_, rfl⟩
    obtain ⟨z0, hz0⟩ : ∃ z0, z0 = sizeF l := ⟨_, rfl⟩
    have K8 := Lib.hid (fun (W : World) (hW : Quiet w W) => add_at (h.quiet hW) s)
    have K9 := Lib.hid (fun (W : World) (hW : Quiet w W) => radd_at (h.quiet hW) s)
    have K10 := Lib.hid (fun (W : World) (hW : Quiet w W) => remove_at (h.quiet hW) s)
    have K11 := Lib.hid (fun (W : World) (hW : Quiet w W) => rremove_at (h.quiet hW) s)
    have K16 := Lib.hid (fun (W : World) (hW : Quiet w W) => valid_at (h.quiet hW))
    have K21 := Lib.hid (fun (W : World) (hW : Quiet w W) => rvalid_at (h.quiet hW))
    have K15 := Lib.hid (fun (W : World) (hW : Quiet w W) => has_at (h.quiet hW) s)
    have K22 := Lib.hid (fun (W : World) (hW : Quiet w W) => rhas_at (h.quiet hW) s)
    have K13 := Lib.hid (fun (W : World) (hW : Quiet w W) => size_at (h.quiet hW))
    have K14 := Lib.hid (fun (W : World) (hW : Quiet w W) => rsize_at (h.quiet hW))
    have K17 := Lib.hid (fun (W : World) (hW : Quiet w W) => gaps_at (h.quiet hW) s)
    have K23 := Lib.hid (fun (W : World) (hW : Quiet w W) => rgaps_at (h.quiet hW) s)
    have K18 := Lib.hid (fun (W : World) (hW : Quiet w W) => cut_at (h.quiet hW) s)
    have K24 := Lib.hid (fun (W : World) (hW : Quiet w W) => rcut_at (h.quiet hW) s)
    rw [← hra] at K8 K9
    rw [← hrr] at K10 K11
    rw [← hbv] at K16 K21
    rw [← hbh] at K15 K22
    rw [← hz0] at K13 K14
    rw [← hgs] at K17 K23
    rw [← hct] at K18 K24
    clear hra hrr hbv hbh hz0 hgs hct h
    go_enter Try.func6, Try.ntmps6
    go_upto_region 7 with (first
      | (go_at_call 8; refine (K8.out _ HQ1.out).mono ?_; rintro e w2 ⟨D2, d2, rfl, h1, _, h3⟩; have F2 := Lib.hid (show Sps w2 D2 xa.length d2 xa from h1); have S2 := Lib.hid h3; clear h1 h3; obtain ⟨t0, t1, t2⟩ := BX.out w2 S2.out)
      | (go_at_call 9; refine (K9.out w2 (HQ1.out.trans S2.out)).mono ?_; rintro e w3 ⟨D3, d3, rfl, h1, _, h3⟩; have F3 := Lib.hid (show Sps w3 D3 xa.length d3 xa from h1); have R3 := Lib.hid h3; have S3 := Lib.hid (S2.out.trans h3); clear h1 h3; obtain ⟨t3, t4, t5⟩ := BX.out w3 S3.out)
      | (go_at_call 10; refine (K10.out w3 (HQ1.out.trans S3.out)).mono ?_; rintro e w4 ⟨D4, d4, rfl, h1, _, h3⟩; have F4 := Lib.hid (show Sps w4 D4 xr.length d4 xr from h1); have R4 := Lib.hid h3; have S4 := Lib.hid (S3.out.trans h3); clear h1 h3; obtain ⟨t6, t7, t8⟩ := BX.out w4 S4.out)
      | (go_at_call 11; refine (K11.out w4 (HQ1.out.trans S4.out)).mono ?_; rintro e w5 ⟨D5, d5, rfl, h1, _, h3⟩; have F5 := Lib.hid (show Sps w5 D5 xr.length d5 xr from h1); have R5 := Lib.hid h3; have S5 := Lib.hid (S4.out.trans h3); clear h1 h3; obtain ⟨t9, t10, t11⟩ := BX.out w5 S5.out))
    clear t0 t1 t2 t3 t4 t5 t6 t7 t8 K8 K9 K10 K11
    go_upto_region 8 with (go_at_call 8; refine (ad13 w5).mono ?_; rintro e w6 ⟨D6, d6, rfl, h3⟩; have R6 := Lib.hid h3; have S6 := Lib.hid (S5.out.trans h3); clear h3)
    have U6 := Lib.hid (show Quiet w6 w6.drew from Only.drew (Only.refl _ _))
    obtain ⟨t0, t1, t2⟩ := BX.out w6.drew (S6.out.trans U6.out)
    have T6 := Lib.hid (HQ1.out.trans S6.out)
    have SA := Lib.hid (fun (W : World) (hW : Quiet w6 W) => same_at (F2.out.quiet (R3.out.trans (R4.out.trans (R5.out.trans (R6.out.trans hW))))) (F3.out.quiet (R4.out.trans (R5.out.trans (R6.out.trans hW)))))
    have SR := Lib.hid (fun (W : World) (hW : Quiet w6 W) => same_at (F4.out.quiet (R5.out.trans (R6.out.trans hW))) (F5.out.quiet (R6.out.trans hW)))
    clear t9 t10 t11 F2 F3 F4 F5 S2 S3 S4 S5 R3 R4 R5
    simp only [List.append_eq, List.cons_append, List.nil_append]
    go_region_held3 (fun w' => w'.cell? ⟨w.heap.size, 0, none⟩ = some (.int .i64 s.1) ∧ w'.cell? ⟨w.heap.size, 1, none⟩ = some (.int .i64 s.2)) (go_keep) (first
      | (go_at_call 16; refine (K16.out _ (T6.out.trans U6.out)).mono ?_; rintro e w7 ⟨rfl, hq⟩; have R7 := Lib.hid hq; have U7 := Lib.hid (U6.out.trans hq); clear hq; obtain ⟨y7a, y7b, y7c⟩ := BX.out w7 (S6.out.trans U7.out))
      | (go_at_call 21; refine (K21.out _ (T6.out.trans U7.out)).mono ?_; rintro e w8 ⟨rfl, hq⟩; have R8 := Lib.hid hq; have U8 := Lib.hid (U7.out.trans hq); clear hq; obtain ⟨y8a, y8b, y8c⟩ := BX.out w8 (S6.out.trans U8.out))
      | (go_at_call 15; refine (K15.out _ (T6.out.trans U10.out)).mono ?_; rintro e w11 ⟨rfl, hq⟩; have R11 := Lib.hid hq; have U11 := Lib.hid (U10.out.trans hq); clear hq; obtain ⟨y11a, y11b, y11c⟩ := BX.out w11 (S6.out.trans U11.out))
      | (go_at_call 22; refine (K22.out _ (T6.out.trans U11.out)).mono ?_; rintro e w12 ⟨rfl, hq⟩; have R12 := Lib.hid hq; have U12 := Lib.hid (U11.out.trans hq); clear hq; obtain ⟨y12a, y12b, y12c⟩ := BX.out w12 (S6.out.trans U12.out))
      | (go_at_call 13; refine (K13.out _ (T6.out.trans U12.out)).mono ?_; rintro e w13 ⟨rfl, hq⟩; have R13 := Lib.hid hq; have U13 := Lib.hid (U12.out.trans hq); clear hq; obtain ⟨y13a, y13b, y13c⟩ := BX.out w13 (S6.out.trans U13.out))
      | (go_at_call 14; refine (K14.out _ (T6.out.trans U13.out)).mono ?_; rintro e w14 ⟨rfl, hq⟩; have R14 := Lib.hid hq; have U14 := Lib.hid (U13.out.trans hq); clear hq; obtain ⟨y14a, y14b, y14c⟩ := BX.out w14 (S6.out.trans U14.out))
      | (go_at_call 17; refine (K17.out _ (T6.out.trans U14.out)).mono ?_; rintro e w15 ⟨D15, d15, rfl, h1, _, hq⟩; have G15 := Lib.hid (show Sps w15 D15 gs.length d15 gs from h1); clear h1; have R15 := Lib.hid hq; have U15 := Lib.hid (U14.out.trans hq); clear hq; obtain ⟨y15a, y15b, y15c⟩ := BX.out w15 (S6.out.trans U15.out))
      | (go_at_call 23; refine (K23.out _ (T6.out.trans U15.out)).mono ?_; rintro e w16 ⟨D16, d16, rfl, h1, _, hq⟩; have G16 := Lib.hid (show Sps w16 D16 gs.length d16 gs from h1); clear h1; have R16 := Lib.hid hq; have U16 := Lib.hid (U15.out.trans hq); clear hq; obtain ⟨y16a, y16b, y16c⟩ := BX.out w16 (S6.out.trans U16.out))
      | (go_at_call 18; refine (K18.out _ (T6.out.trans U17.out)).mono ?_; rintro e w18 ⟨D18, d18, rfl, h1, _, hq⟩; have G18 := Lib.hid (show Sps w18 D18 ct.length d18 ct from h1); clear h1; have R18 := Lib.hid hq; have U18 := Lib.hid (U17.out.trans hq); clear hq; obtain ⟨y18a, y18b, y18c⟩ := BX.out w18 (S6.out.trans U18.out))
      | (go_at_call 24; refine (K24.out _ (T6.out.trans U18.out)).mono ?_; rintro e w19 ⟨D19, d19, rfl, h1, _, hq⟩; have G19 := Lib.hid (show Sps w19 D19 ct.length d19 ct from h1); clear h1; have R19 := Lib.hid hq; have U19 := Lib.hid (U18.out.trans hq); clear hq; obtain ⟨y19a, y19b, y19c⟩ := BX.out w19 (S6.out.trans U19.out))
      | (go_at_call 12; (with_reducible refine (SA.out _ U8.out).mono ?_); rintro e w9 ⟨rfl, hq⟩; have R9 := Lib.hid hq; have U9 := Lib.hid (U8.out.trans hq); clear hq; obtain ⟨y9a, y9b, y9c⟩ := BX.out w9 (S6.out.trans U9.out))
      | (go_at_call 12; (with_reducible refine (SR.out _ U9.out).mono ?_); rintro e w10 ⟨rfl, hq⟩; have R10 := Lib.hid hq; have U10 := Lib.hid (U9.out.trans hq); clear hq; obtain ⟨y10a, y10b, y10c⟩ := BX.out w10 (S6.out.trans U10.out))
      | (go_at_call 12; (with_reducible refine (same_at (G15.out.quiet R16.out) G16.out).mono ?_); rintro e w17 ⟨rfl, hq⟩; have R17 := Lib.hid hq; have U17 := Lib.hid (U16.out.trans hq); clear hq; obtain ⟨y17a, y17b, y17c⟩ := BX.out w17 (S6.out.trans U17.out))
      | (go_at_call 12; (with_reducible refine (same_at (G18.out.quiet R19.out) G19.out).mono ?_); rintro e w20 ⟨rfl, hq⟩; have R20 := Lib.hid hq; have U20 := Lib.hid (U19.out.trans hq); clear hq; obtain ⟨y20a, y20b, y20c⟩ := BX.out w20 (S6.out.trans U20.out)))
    go_wp2
    go_ret
    exact ⟨rfl, T6.out.trans U20.out⟩
theorem tells_law (w : World) (A : Option Addr) (n c : Nat) (l : List Sp) (hnc : n ≤ c) (hcm : c ≤ maxLen) (hnl : A = none → n = 0 ∧ c = 0) (arg : StructsArg spCells 2 w A n l) (_ : ∀ x ∈ l, SpWf w x) (s : Sp) (_ : SpWf w s) :
    Calls Try.prog 6 #[.slice A n c, .agg #[.int .i64 s.1, .int .i64 s.2]] w fun e w' => e = .returned (.bool true) ∧ Below w.heap.size w w' :=
  (tells_walk (Sps.of_arg hnc hcm hnl arg) s).mono fun e w' ⟨h1, h2⟩ => ⟨h1, h2.below (Nat.le_refl _) (fun _ x => x.elim)⟩
end Go.Proofs.Ythhaaakabpnbnaa
