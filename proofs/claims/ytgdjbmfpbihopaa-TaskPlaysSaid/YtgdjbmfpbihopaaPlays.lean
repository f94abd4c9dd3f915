/-
  THE STATEMENT TaskPlays, its walk: any tasks, under any picks, do step by step what the document says. No conditions.
-/
import Derived.Test.YtgdjbmfpbihopaaPlaysMem
import Derived.Deep.DeepCutAuto
import Derived.Deep.CutBlock
import Derived.Deep.RegionHeld3
namespace Go.Proofs.Ytgdjbmfpbihopaa
open Go.RowKit Go.MapKept
set_option linter.unusedVariables false
set_option linter.unusedSimpArgs false

theorem ints_quiet {w w' : World} {A : Option Addr} {n : Nat} {l : List Int} (h : IntsArg .i64 w A n l) (hq : Quiet w w') : IntsArg .i64 w' A n l :=
  ⟨h.1, h.2.1, fun h0 => by
    obtain ⟨b, off, h1, h2, h3⟩ := h.2.2 h0
    exact ⟨b, off, h1, Nat.lt_of_lt_of_le h2 hq.size, fun i x hx => (hq.cell (p := ⟨b, off + i, none⟩) h2 (fun x => x)).trans (h3 i x hx)⟩⟩
theorem code_two {L W : Int} {l : List Int} (h : newCode L W l ≠ 0) : newCode L W l = 2 := by
  unfold newCode at h ⊢
  split
  · rfl
  · rename_i h1
    rw [if_neg h1] at h
    split
    · rename_i h2; rw [if_pos h2] at h; exact absurd rfl h
    · rfl
theorem tnew_no {L W : Int} {A : Option Addr} {n c : Nat} {l : List Int} {w : World} (hz : newCode L W l = 2) (hc : n ≤ c) (hcm : c ≤ maxLen) (harg : IntsArg .i64 w A n l) :
    Calls Try.prog 15 #[.int .i64 L, .int .i64 W, .slice A n c] w fun e w' => e = .returned (.tuple #[.pointer none, .int .i64 2]) ∧ Quiet w w' := by
  refine (new_any L W A n c l w hc hcm harg).mono ?_
  rintro e w' (⟨h1, _⟩ | ⟨_, h2, h3⟩)
  · rw [hz] at h1; cases h1
  · exact ⟨h2, h3⟩
theorem rnew_no {L W : Int} {A : Option Addr} {n c : Nat} {l : List Int} {w : World} (hz : newCode L W l = 2) (hc : n ≤ c) (hcm : c ≤ maxLen) (harg : IntsArg .i64 w A n l) (hnil : A = none → n = 0) :
    Calls Try.prog 18 #[.int .i64 L, .int .i64 W, .slice A n c] w fun e w' => e = .returned (.tuple #[.pointer none, .int .i64 2]) ∧ Quiet w w' := by
  refine (rnew_any L W A n c l w hc hcm harg hnil).mono ?_
  rintro e w' (⟨h1, _⟩ | ⟨_, h2, h3⟩)
  · rw [hz] at h1; cases h1
  · exact ⟨h2, h3⟩
theorem rnew_ok {L W : Int} {A : Option Addr} {n c : Nat} {l : List Int} {w : World} (hz : newCode L W l = 0) (hc : n ≤ c) (hcm : c ≤ maxLen) (harg : IntsArg .i64 w A n l) (hnil : A = none → n = 0) :
    Calls Try.prog 18 #[.int .i64 L, .int .i64 W, .slice A n c] w fun e w' => ∃ p, e = .returned (.tuple #[.pointer (some ⟨p, 0, none⟩), .int .i64 0]) ∧ RRel w.heap.size p (newW L W l) w' ∧ Quiet w w' := by
  refine (rnew_any L W A n c l w hc hcm harg hnil).mono ?_
  rintro e w' (⟨_, p, h1, h2, h3⟩ | ⟨h1, _⟩)
  · exact ⟨p, h1, h2, h3⟩
  · rw [hz] at h1; cases h1
set_option maxRecDepth 8000 in
set_option maxHeartbeats 32000000 in
theorem plays_walk (w : World) (s : SetupV) (hs : SetupAt w s) (A0 : Option Addr) (n0 c0 : Nat) (l0 : List OpV) (hnc0 : n0 ≤ c0) (hcm0 : c0 ≤ maxLen) (arg0 : StructsArg opvCells 1 w A0 n0 l0) (hok : ∀ x ∈ l0, OpvAt w x)
    (A1 : Option Addr) (n1 c1 : Nat) (l1 : List Int) (hnc1 : n1 ≤ c1) (hcm1 : c1 ≤ maxLen) (arg1 : IntsArg .i64 w A1 n1 l1) :
    Calls Try.prog 8 #[s.v, .slice A0 n0 c0, .slice A1 n1 c1] w fun e w' => e = .returned (.bool true) ∧ Quiet w w' := by
  obtain ⟨a, b, A, n, c, l⟩ := s
  obtain ⟨hnc, hcm, hnil, harg⟩ := hs
  simp only at hnc hcm hnil harg
  unfold maxLen at hcm0 hcm1
  have AR0 := Lib.hid arg0; clear arg0
  have AR1 := Lib.hid arg1; clear arg1
  have OK := Lib.hid hok; clear hok
  have HAR := Lib.hid harg; clear harg
  have HNIL := Lib.hid hnil; clear hnil
  have HCM := Lib.hid hcm; clear hcm
  unfold SetupV.v
  go_enter Try.func8, Try.ntmps8
  go_upto_region 1 with (fail)
  obtain ⟨bx, hbx⟩ : ∃ bx, bx = w.heap.size := ⟨_, rfl⟩
  rw [← hbx]
  have HBX := Lib.hid (show (w.alloc (.cells #[.int .i64 a, .int .i64 b, .slice A n c] 55)).heap[bx]? = some (.cells #[.int .i64 a, .int .i64 b, .slice A n c] 55 (0, 0)) by rw [hbx]; exact blk_new _ _)
  have Q1 := Lib.hid (show Quiet w (w.alloc (.cells #[.int .i64 a, .int .i64 b, .slice A n c] 55)) from (Only.refl _ _).alloc _)
  clear hbx
  generalize w.alloc (.cells #[.int .i64 a, .int .i64 b, .slice A n c] 55) = w1 at HBX Q1 ⊢
  have x0 : w1.cell? ⟨bx, 0, none⟩ = some (.int .i64 a) := blk_cell HBX.out 0
  have x1 : w1.cell? ⟨bx, 1, none⟩ = some (.int .i64 b) := blk_cell HBX.out 1
  have x2 : w1.cell? ⟨bx, 2, none⟩ = some (.slice A n c) := blk_cell HBX.out 2
  have xs := lt_of_heap HBX.out
  have FX := Lib.hid (fun (V : World) (hV : Quiet w1 V) => show V.cell? ⟨bx, 0, none⟩ = some (.int .i64 a) ∧ V.cell? ⟨bx, 1, none⟩ = some (.int .i64 b) ∧ V.cell? ⟨bx, 2, none⟩ = some (.slice A n c) ∧ bx < V.heap.size from
    ⟨(hV.cell (p := ⟨bx, 0, none⟩) xs (fun x => x)).trans x0, (hV.cell (p := ⟨bx, 1, none⟩) xs (fun x => x)).trans x1, (hV.cell (p := ⟨bx, 2, none⟩) xs (fun x => x)).trans x2, Nat.lt_of_lt_of_le xs hV.size⟩)
  by_cases hcode : newCode a b l ≠ 0
  · have hc2 := code_two hcode
    have CX := Lib.hid (tnew_no (w := w1) hc2 hnc HCM.out (ints_quiet HAR.out Q1.out))
    have CY := Lib.hid (fun (V : World) (hV : Quiet w1 V) => rnew_no (w := V) hc2 hnc HCM.out (ints_quiet HAR.out (Q1.out.trans hV)) (fun e => (HNIL.out e).1))
    clear hcode hc2
    go_wp2_with (first
      | (go_at_call 15; (with_reducible refine CX.out.mono ?_); rintro e w2 ⟨rfl, hq2⟩; have Q2 := Lib.hid hq2; obtain ⟨y0, y1, y2, y3⟩ := FX.out _ hq2; clear hq2)
      | (go_at_call 18; (with_reducible refine (CY.out _ Q2.out).mono ?_); rintro e w3 ⟨rfl, hq3⟩; have Q3 := Lib.hid hq3; clear hq3))
    go_ret
    exact ⟨rfl, (Q1.out.trans Q2.out).trans Q3.out⟩
  have hcode := Decidable.not_not.1 hcode
  have CX := Lib.hid (tnew (w := w1) hcode hnc HCM.out (ints_quiet HAR.out Q1.out))
  have CY := Lib.hid (fun (V : World) (hV : Quiet w1 V) => rnew_ok (w := V) hcode hnc HCM.out (ints_quiet HAR.out (Q1.out.trans hV)) (fun e => (HNIL.out e).1))
  clear hcode
  go_wp2_with (first
    | (go_at_call 15; (with_reducible refine CX.out.mono ?_); rintro e w2 ⟨px, rfl, hx2, hq2⟩; have Q2 := Lib.hid hq2; have HX2 := Lib.hid hx2; obtain ⟨y0, y1, y2, y3⟩ := FX.out _ hq2; clear hq2 hx2)
    | (go_at_call 18; (with_reducible refine (CY.out _ Q2.out).mono ?_); rintro e w3 ⟨py, rfl, hy3, hq3⟩; have HB0 := Lib.hid (bstart0 Q1.out HX2.out Q2.out hy3 hq3); clear hq3 hy3))
  generalize w1.heap.size = b1 at HB0
  generalize w2.heap.size = b2 at HB0
  generalize newW a b l = W0 at HB0
  clear x0 x1 x2 xs y0 y1 y2 y3 FX CX CY HX2 Q2 Q1 HBX hnc
  go_loopw [11] (fun vi wr => ∃ i W, vi = .int .i64 (i : Nat) ∧ i ≤ 70 ∧ BAt w b1 b2 px py W W wr) (fun i _ => 70 - (intOf i).toNat)
  case atStart => exact ⟨0, _, rfl, by omega, HB0.out⟩
  case round =>
    obtain ⟨i, W, rfl, hi, hb⟩ := hrel
    clear HB0
    have HB := Lib.hid hb; clear hb
    by_cases hc : i < n0 ∧ i < 70
    · obtain ⟨hc1, hc2⟩ := hc
      have hd1 : decide ((i : Int) < (n0 : Int)) = true := by simpa using hc1
      have hd2 : decide ((i : Int) < 70) = true := by simp; omega
      obtain ⟨ha0, hcell0⟩ := AR0.out
      obtain ⟨b0, o0, rfl, hb0, hcell1⟩ := hcell0 (by omega)
      obtain ⟨⟨Ax, nx, cx, lx⟩, hx⟩ : ∃ x, l0[i]? = some x := ⟨_, List.getElem?_eq_getElem (by omega)⟩
      have q0 : wr.cell? ⟨b0, o0 + i, none⟩ = some (.slice Ax nx cx) := by
        have := hcell1 i _ hx 0 (by omega)
        rw [Nat.mul_one, Nat.add_zero] at this
        exact (HB.out.q.cell (p := ⟨b0, o0 + i, none⟩) hb0 (fun x => x)).trans this
      have q1 : b0 < wr.heap.size := Nat.lt_of_lt_of_le hb0 HB.out.q.size
      have hop : OpRd w Ax nx cx lx := OK.out _ (List.mem_of_getElem? hx)
      have hlx := hop.le
      have hcx := hop.cap
      unfold maxLen at hcx
      have HOP := Lib.hid hop
      clear hx hop hcell0 hcell1 ha0 hb0
      have i0 : (0 : Int) ≤ (i : Int) := by omega
      have i1 : (i : Int) < (n0 : Int) := by omega
      by_cases hlong : 1001 < nx
      · have hd3 : decide ((1001 : Int) < (nx : Int)) = true := by simp; omega
        have hlc : (1001 : Int) ≤ (cx : Int) := by omega
        have HOP2 := Lib.hid (HOP.out.cut (m := 1001) (by omega))
        generalize lx.take 1001 = ly at HOP2
        have C9 := Lib.hid (bstartx HB.out HOP2.out)
        have C20 := Lib.hid (fun (V : World) (hV : BAt w b1 b2 px py (startF W ly).2.2 W V) => bops hV HOP2.out (Nat.le_refl _))
        have C19 := Lib.hid (fun (V : World) (hV : BAt w b1 b2 px py (startF W ly).2.2 W V) (A' : Option Addr) (c' : Nat) (hR : RopSl V A' 1001 c' ly) => bstarty hV hR (Nat.le_refl _))
        generalize startF W ly = f at C9 C20 C19
        obtain ⟨f1, f2, f3⟩ := f
        clear hlong
        go_wp2_with (first
          | (go_at_call 9; (with_reducible refine C9.out.mono ?_); rintro e w4 ⟨rfl, h4⟩; have H4 := Lib.hid h4; clear h4)
          | (go_at_call 20; (with_reducible refine (C20.out _ H4.out).mono ?_); rintro e w5 ⟨A', c', rfl, hr5, h5⟩; have H5 := Lib.hid h5; have R5 := Lib.hid hr5; clear h5 hr5)
          | (go_at_call 19; (with_reducible refine (C19.out _ H5.out _ _ R5.out).mono ?_); rintro e w6 ⟨rfl, h6⟩; have H6 := Lib.hid h6; clear h6))
        go_roundw
        case rel => exact ⟨i + 1, _, by go_num, by omega, H6.out⟩
        case measure => simp [intOf]; omega
      · have hd3 : decide ((1001 : Int) < (nx : Int)) = false := by simp; omega
        have C9 := Lib.hid (bstartx HB.out HOP.out)
        have C20 := Lib.hid (fun (V : World) (hV : BAt w b1 b2 px py (startF W lx).2.2 W V) => bops hV HOP.out (by omega))
        have C19 := Lib.hid (fun (V : World) (hV : BAt w b1 b2 px py (startF W lx).2.2 W V) (A' : Option Addr) (c' : Nat) (hR : RopSl V A' nx c' lx) => bstarty hV hR (by omega))
        generalize startF W lx = f at C9 C20 C19
        obtain ⟨f1, f2, f3⟩ := f
        clear hlong
        go_wp2_with (first
          | (go_at_call 9; (with_reducible refine C9.out.mono ?_); rintro e w4 ⟨rfl, h4⟩; have H4 := Lib.hid h4; clear h4)
          | (go_at_call 20; (with_reducible refine (C20.out _ H4.out).mono ?_); rintro e w5 ⟨A', c', rfl, hr5, h5⟩; have H5 := Lib.hid h5; have R5 := Lib.hid hr5; clear h5 hr5)
          | (go_at_call 19; (with_reducible refine (C19.out _ H5.out _ _ R5.out).mono ?_); rintro e w6 ⟨rfl, h6⟩; have H6 := Lib.hid h6; clear h6))
        go_roundw
        case rel => exact ⟨i + 1, _, by go_num, by omega, H6.out⟩
        case measure => simp [intOf]; omega
    · have hstop : n0 ≤ i ∨ (i < n0 ∧ 70 ≤ i) := by omega
      clear hc
      rcases hstop with h5 | ⟨h5, h6⟩
      all_goals
        go_wp2_with fail
        go_loopw [17] (fun vj wr => ∃ j W, vj = .int .i64 (j : Nat) ∧ j ≤ 500 ∧ BAt w b1 b2 px py W W wr) (fun j _ => 500 - (intOf j).toNat)
        case atStart => exact ⟨0, _, rfl, by omega, HB.out⟩
        case round =>
          obtain ⟨j, W, rfl, hj, hb⟩ := hrel
          clear HB
          have HB := Lib.hid hb; clear hb
          by_cases hc : j < n1 ∧ j < 500
          · obtain ⟨hc1, hc2⟩ := hc
            have hd5 : decide ((j : Int) < (n1 : Int)) = true := by simpa using hc1
            have hd6 : decide ((j : Int) < 500) = true := by simp; omega
            obtain ⟨hl1', _, hcell⟩ := AR1.out
            obtain ⟨b3, o3, rfl, hb3, hcell1⟩ := hcell (by omega)
            obtain ⟨x, hx⟩ : ∃ x, l1[j]? = some x := ⟨_, List.getElem?_eq_getElem (by omega)⟩
            have BC := Lib.hid (fun (V : World) (hV : Quiet w V) => show V.cell? ⟨b3, o3 + j, none⟩ = some (.int .i64 x) ∧ b3 < V.heap.size from ⟨(hV.cell (p := ⟨b3, o3 + j, none⟩) hb3 (fun x => x)).trans (hcell1 j x hx), Nat.lt_of_lt_of_le hb3 hV.size⟩)
            obtain ⟨q0, q1⟩ := BC.out wr HB.out.q
            clear hl1' hcell hcell1 hx hb3
            have j0 : (0 : Int) ≤ (j : Int) := by omega
            have j1 : (j : Int) < (n1 : Int) := by omega
            have C10 := Lib.hid (bstepx HB.out x)
            have C21 := Lib.hid (fun (V : World) (hV : BAt w b1 b2 px py (stepF W x).2.2 W V) => bstepy hV x)
            generalize stepF W x = f at C10 C21
            obtain ⟨f1, f2, f3⟩ := f
            have C14 := Lib.hid (fun (V : World) (hV : BAt w b1 b2 px py f3 f3 V) => bstuck hV)
            have C22 := Lib.hid (fun (V : World) (hV : BAt w b1 b2 px py f3 f3 V) => bstucky hV)
            have C11 := Lib.hid (fun (V : World) (hV : BAt w b1 b2 px py f3 f3 V) => bstate hV x)
            have C23 := Lib.hid (fun (V : World) (hV : BAt w b1 b2 px py f3 f3 V) => bstatey hV x)
            generalize stuckF f3 = sb at C14 C22
            generalize stateF f3 x = st at C11 C23
            simp only at C21
            go_wp2_with (first
              | (go_at_call 10; (with_reducible refine C10.out.mono ?_); rintro e w4 ⟨rfl, h4⟩; have H4 := Lib.hid h4; obtain ⟨r0, r1⟩ := BC.out w4 h4.q; clear h4)
              | (go_at_call 21; (with_reducible refine (C21.out _ H4.out).mono ?_); rintro e w5 ⟨rfl, h5⟩; have H5 := Lib.hid h5; obtain ⟨s0, s1⟩ := BC.out w5 h5.q; clear h5))
            go_region_held3 (fun w' => w'.cell? ⟨b3, o3 + j, none⟩ = some (.int .i64 x)) (first | exact s0 | exact u0 | exact v0 | exact z0 | exact k0)
              (first
                | (go_at_call 14; refine (C14.out _ (H5.out.quiet (by repeat (first | exact Only.refl _ _ | refine Only.drewN ?_ _ | refine Only.drew ?_)))).mono ?_; rintro e w6 ⟨rfl, h6, _⟩; have H6 := Lib.hid h6; obtain ⟨u0, u1⟩ := BC.out w6 h6.q; clear h6)
                | (go_at_call 22; refine (C22.out _ H6.out).mono ?_; rintro e w7 ⟨rfl, h7, _⟩; have H7 := Lib.hid h7; obtain ⟨v0, v1⟩ := BC.out w7 h7.q; clear h7)
                | (go_at_call 11; refine (C11.out _ H7.out).mono ?_; rintro e w8 ⟨rfl, h8, _⟩; have H8 := Lib.hid h8; obtain ⟨z0, z1⟩ := BC.out w8 h8.q; clear h8)
                | (go_at_call 23; refine (C23.out _ H8.out).mono ?_; rintro e w9 ⟨rfl, h9, _⟩; have H9 := Lib.hid h9; obtain ⟨k0, k1⟩ := BC.out w9 h9.q; clear h9))
            all_goals
              go_wp2_with fail
              go_roundw
              case rel => exact ⟨j + 1, _, by go_num, by omega, H9.out⟩
              case measure => simp [intOf]; omega
          · have hstop : n1 ≤ j ∨ (j < n1 ∧ 500 ≤ j) := by omega
            clear hc
            rcases hstop with h7 | ⟨h7, h8⟩
            all_goals
              go_wp2_with fail
              obtain ⟨nt, hnt⟩ : ∃ n, n = W.tasks.length := ⟨_, rfl⟩
              have HNT := Lib.hid hnt; clear hnt
              obtain ⟨nw, hnw⟩ : ∃ n, n = W.words.length := ⟨_, rfl⟩
              have HNW := Lib.hid hnw; clear hnw
              go_loopw [22] (fun vk wr => ∃ k, vk = .int .i64 (k : Nat) ∧ k ≤ nt ∧ BAt w b1 b2 px py W W wr) (fun k _ => nt - (intOf k).toNat)
              case atStart => exact ⟨0, rfl, by omega, HB.out⟩
              case round =>
                obtain ⟨k, rfl, hk, hb⟩ := hrel
                clear HB
                obtain ⟨hm64, AT, ct, hct, hctm, pys, g4, gt⟩ := hb.tasks
                have HB := Lib.hid hb; clear hb
                unfold maxLen at hctm
                rw [← HNT.out] at hm64 hct g4 gt
                have t0 := g4 wr (Only.refl _ _)
                have G4 := Lib.hid g4; clear g4
                by_cases hkk : k < nt
                · obtain ⟨gg, hgA, ggs, gh⟩ := gt k hkk
                  subst hgA
                  have FL := Lib.hid (fun (V : World) (hV : Quiet wr V) => show (V.cell? ⟨py, 4, none⟩ = some (.slice (some ⟨gg, 0, none⟩) nt ct) ∧ V.cell? ⟨gg, k * 3 + 2, none⟩ = some (.int .i64 (hasF W (k : Int)))) ∧ py < V.heap.size ∧ gg < V.heap.size from ⟨⟨G4.out V hV, gh V hV⟩, Nat.lt_of_lt_of_le pys hV.size, Nat.lt_of_lt_of_le ggs hV.size⟩)
                  have C12 := Lib.hid (fun (V : World) (hV : BAt w b1 b2 px py W W V) => bhas hV (k : Int))
                  have C11 := Lib.hid (fun (V : World) (hV : BAt w b1 b2 px py W W V) => bstate hV (k : Int))
                  have C23 := Lib.hid (fun (V : World) (hV : BAt w b1 b2 px py W W V) => bstatey hV (k : Int))
                  generalize hasF W (k : Int) = hv at C12 FL
                  generalize stateF W (k : Int) = st at C11 C23
                  obtain ⟨⟨_, t1⟩, _, _⟩ := FL.out wr (Only.refl _ _)
                  clear gt gh G4
                  have hd7 : decide ((k : Int) < (nt : Int)) = true := by simpa using hkk
                  have k0 : (0 : Int) ≤ (k : Int) := by omega
                  have k1 : (k : Int) < (nt : Int) := by omega
                  go_wp2_with fail
                  go_region_held3 (fun w' => w'.cell? ⟨py, 4, none⟩ = some (.slice (some ⟨gg, 0, none⟩) nt ct) ∧ w'.cell? ⟨gg, k * 3 + 2, none⟩ = some (.int .i64 hv)) (first | exact ⟨t0, t1⟩ | exact ⟨u0, u1⟩ | exact ⟨v0, v1⟩ | exact ⟨z0, z1⟩)
                    (first
                      | (go_at_call 12; refine (C12.out _ (HB.out.quiet (by repeat (first | exact Only.refl _ _ | refine Only.drewN ?_ _ | refine Only.drew ?_)))).mono ?_; rintro e w6 ⟨rfl, h6, hq6⟩; have H6 := Lib.hid h6; have Q6 := Lib.hid (show Quiet wr w6 from Only.trans (by repeat (first | exact Only.refl _ _ | refine Only.drewN ?_ _ | refine Only.drew ?_)) hq6); obtain ⟨⟨u0, u1⟩, u2, u3⟩ := FL.out w6 Q6.out; clear h6 hq6)
                      | (go_at_call 11; refine (C11.out _ H6.out).mono ?_; rintro e w7 ⟨rfl, h7, hq7⟩; have H7 := Lib.hid h7; have Q7 := Lib.hid (Q6.out.trans hq7); obtain ⟨⟨v0, v1⟩, v2, v3⟩ := FL.out w7 Q7.out; clear h7 hq7)
                      | (go_at_call 23; refine (C23.out _ H7.out).mono ?_; rintro e w8 ⟨rfl, h8, hq8⟩; have H8 := Lib.hid h8; have Q8 := Lib.hid (Q7.out.trans hq8); obtain ⟨⟨z0, z1⟩, z2, z3⟩ := FL.out w8 Q8.out; clear h8 hq8))
                  all_goals
                    go_wp2_with fail
                    go_roundw
                    case rel => exact ⟨k + 1, by go_num, by omega, H8.out⟩
                    case measure => simp [intOf]; omega
                · have hkn : k = nt := by omega
                  subst hkn
                  have hd7 : decide ((k : Int) < (k : Int)) = false := by simp
                  clear gt G4 hkk
                  go_wp2_with fail
                  clear t0
                  go_loopw [23] (fun vk wr => ∃ k, vk = .int .i64 (k : Nat) ∧ k ≤ nw ∧ BAt w b1 b2 px py W W wr) (fun k _ => nw - (intOf k).toNat)
                  case atStart => exact ⟨0, rfl, by omega, HB.out⟩
                  case round =>
                    obtain ⟨m, rfl, hm, hb⟩ := hrel
                    clear HB pys
                    obtain ⟨hw64, AW, cw, hcw, hcwm, pys, g4, gt⟩ := hb.words
                    have HE := Lib.hid (plays_end hb)
                    have HB := Lib.hid hb; clear hb
                    unfold maxLen at hcwm
                    rw [← HNW.out] at hw64 hcw g4 gt
                    have t0 := g4 wr (Only.refl _ _)
                    have G4 := Lib.hid g4; clear g4
                    by_cases hmm : m < nw
                    · obtain ⟨gg, og, hgA, ggs, gh⟩ := gt m hmm
                      subst hgA
                      have FL := Lib.hid (fun (V : World) (hV : Quiet wr V) => show (V.cell? ⟨py, 1, none⟩ = some (.slice (some ⟨gg, og, none⟩) nw cw) ∧ V.cell? ⟨gg, og + m, none⟩ = some (.int .i64 (wordF W (m : Int)))) ∧ py < V.heap.size ∧ gg < V.heap.size from ⟨⟨G4.out V hV, gh V hV⟩, Nat.lt_of_lt_of_le pys hV.size, Nat.lt_of_lt_of_le ggs hV.size⟩)
                      have C13 := Lib.hid (fun (V : World) (hV : BAt w b1 b2 px py W W V) => bword hV (m : Int))
                      generalize wordF W (m : Int) = wv at C13 FL
                      obtain ⟨⟨_, t1⟩, _, _⟩ := FL.out wr (Only.refl _ _)
                      clear gt gh G4
                      have hd7 : decide ((m : Int) < (nw : Int)) = true := by simpa using hmm
                      have k0 : (0 : Int) ≤ (m : Int) := by omega
                      have k1 : (m : Int) < (nw : Int) := by omega
                      go_wp2_with fail
                      go_region_held3 (fun w' => w'.cell? ⟨py, 1, none⟩ = some (.slice (some ⟨gg, og, none⟩) nw cw) ∧ w'.cell? ⟨gg, og + m, none⟩ = some (.int .i64 wv)) (first | exact ⟨t0, t1⟩ | exact ⟨u0, u1⟩)
                        (first | (go_at_call 13; refine (C13.out _ (HB.out.quiet (by repeat (first | exact Only.refl _ _ | refine Only.drewN ?_ _ | refine Only.drew ?_)))).mono ?_; rintro e w6 ⟨rfl, h6, hq6⟩; have H6 := Lib.hid h6; have Q6 := Lib.hid (show Quiet wr w6 from Only.trans (by repeat (first | exact Only.refl _ _ | refine Only.drewN ?_ _ | refine Only.drew ?_)) hq6); obtain ⟨⟨u0, u1⟩, u2, u3⟩ := FL.out w6 Q6.out; clear h6 hq6))
                      all_goals
                        go_wp2_with fail
                        go_roundw
                        case rel => exact ⟨m + 1, by go_num, by omega, H6.out⟩
                        case measure => simp [intOf]; omega
                    · have hmn : m = nw := by omega
                      subst hmn
                      have hd7 : decide ((m : Int) < (m : Int)) = false := by simp
                      have C12 := Lib.hid (bhas HB.out (-1))
                      have C13 := Lib.hid (fun (V : World) (hV : BAt w b1 b2 px py W W V) => bword hV 64)
                      have C11 := Lib.hid (fun (V : World) (hV : BAt w b1 b2 px py W W V) => bstate hV 64)
                      obtain ⟨e1, e2, e3⟩ := HE.out
                      rw [e1] at C12
                      rw [e2] at C13
                      rw [e3] at C11
                      clear gt G4 hmm e1 e2 e3
                      go_wp2_with (first
                        | (go_at_call 12; (with_reducible refine C12.out.mono ?_); rintro e w6 ⟨rfl, h6, _⟩; have H6 := Lib.hid h6; clear h6)
                        | (go_at_call 13; (with_reducible refine (C13.out _ H6.out).mono ?_); rintro e w7 ⟨rfl, h7, _⟩; have H7 := Lib.hid h7; clear h7)
                        | (go_at_call 11; (with_reducible refine (C11.out _ H7.out).mono ?_); rintro e w8 ⟨rfl, h8, _⟩; have H8 := Lib.hid h8; clear h8))
                      go_ret
                      exact ⟨rfl, H8.out.q⟩
theorem plays_law (w : World) (s : SetupV) (hs : SetupAt w s) (A0 : Option Addr) (n0 c0 : Nat) (l0 : List OpV) (hnc0 : n0 ≤ c0) (hcm0 : c0 ≤ maxLen) (_ : A0 = none → n0 = 0 ∧ c0 = 0) (arg0 : StructsArg opvCells 1 w A0 n0 l0) (hok : ∀ x ∈ l0, OpvAt w x)
    (A1 : Option Addr) (n1 c1 : Nat) (l1 : List Int) (hnc1 : n1 ≤ c1) (hcm1 : c1 ≤ maxLen) (_ : A1 = none → n1 = 0 ∧ c1 = 0) (arg1 : IntsArg .i64 w A1 n1 l1) :
    Calls Try.prog 8 #[s.v, .slice A0 n0 c0, .slice A1 n1 c1] w fun e w' => e = .returned (.bool true) ∧ Below w.heap.size w w' :=
  (plays_walk w s hs A0 n0 c0 l0 hnc0 hcm0 arg0 hok A1 n1 c1 l1 hnc1 hcm1 arg1).mono fun e w' ⟨h1, h2⟩ => ⟨h1, h2.below (Nat.le_refl _) (fun _ x => x.elim)⟩
end Go.Proofs.Ytgdjbmfpbihopaa
