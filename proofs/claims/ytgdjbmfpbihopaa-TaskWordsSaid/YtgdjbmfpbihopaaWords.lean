/-
  THE STATEMENT TaskWords, its walk: without locks and channels no task ever waits, and in the end each word has its sum. No conditions.
-/
import Derived.Test.YtgdjbmfpbihopaaWordsMem
import Derived.Deep.DeepCutAuto
import Derived.Deep.CutBlock
import Derived.Deep.RegionHeld3
namespace Go.Proofs.Ytgdjbmfpbihopaa
open Go.RowKit Go.MapKept
set_option linter.unusedVariables false
set_option linter.unusedSimpArgs false

theorem words_code : newCode 0 2 [] = 0 := by decide
theorem opsF_snoc3 (l : List Op3) (o : Op3) : opsF (l ++ [o]) = opsF l ++ [.int .i64 o.kind, .int .i64 o.a, .int .i64 o.b] := by rw [opsF_app]; rfl
theorem three_one {a b c : Int} : ∀ u ∈ [Value.int .i64 a, .int .i64 b, .int .i64 c], u.oneCell' = true := by
  intro u hu
  simp only [List.mem_cons, List.not_mem_nil, or_false] at hu
  rcases hu with rfl | rfl | rfl <;> rfl
theorem news_three (W : World) (a b c : Value) (e : TypeId) : ∀ (j : Nat) (u : Value), [a, b, c][j]? = some u → (W.alloc (.cells #[a, b, c] e)).cell? ((⟨W.heap.size, 0, none⟩ : Addr).add j) = some u := fun j u hu => by
  rw [Addr.add_lit, blk_cell (blk_new W _), Nat.zero_add]
  simpa using hu
theorem own_shape {w : World} {base e size n : Nat} {v : Value} {xs : List Value} (h : w.ownsRow base e size v n xs) : ∃ A c, v = .slice A n c := by
  obtain ⟨_, ⟨h1, h2⟩ | ⟨g, cap, cur, h1, _⟩⟩ := h
  · exact ⟨none, 0, by rw [h1, h2]⟩
  · exact ⟨_, _, h1⟩
set_option maxRecDepth 100000 in
set_option maxHeartbeats 16000000 in
theorem words_walk (w : World) (A0 : Option Addr) (n0 c0 : Nat) (l0 : List IiV) (hnc0 : n0 ≤ c0) (hcm0 : c0 ≤ maxLen) (arg0 : StructsArg iiCells 1 w A0 n0 l0) (hok : ∀ x ∈ l0, IiAt w x)
    (A1 : Option Addr) (n1 c1 : Nat) (l1 : List Int) (hnc1 : n1 ≤ c1) (hcm1 : c1 ≤ maxLen) (arg1 : IntsArg .i64 w A1 n1 l1) :
    Calls Try.prog 7 #[.slice A0 n0 c0, .slice A1 n1 c1] w fun e w' => e = .returned (.bool true) ∧ Quiet w w' := by
  unfold maxLen at hcm0 hcm1
  have AR0 := Lib.hid arg0; clear arg0
  have AR1 := Lib.hid arg1; clear arg1
  have OK := Lib.hid hok; clear hok
  have N1 := Lib.hid (fun (w : World) => tnew (L := 0) (W := 2) (w := w) words_code (Nat.le_refl _) (Nat.zero_le _) (intsArg_nil .i64 w))
  obtain ⟨io, ho0, ho1, ho2, ho3⟩ := info_parts Try.info41
  go_enter Try.func7, Try.ntmps7
  go_wp2_with (first
    | (go_at_call 15; (with_reducible refine (N1.out _).mono ?_); rintro e w1 ⟨p, rfl, ht1, hq1⟩; have HST := Lib.hid (w1_start ht1 hq1); clear ht1 hq1))
  obtain ⟨bx, hbx⟩ : ∃ bx, bx = w1.heap.size := ⟨_, rfl⟩
  rw [← hbx] at HST ⊢
  clear hbx
  obtain ⟨base, hbase⟩ : ∃ base, base = w.heap.size := ⟨_, rfl⟩
  rw [← hbase] at HST
  have HB := Lib.hid (show w.heap.size ≤ base by omega); clear hbase
  go_loopw [8, 9, 10] (fun vn vl vi wr => W1Rel w base p bx vn vl vi wr) (fun _ _ i _ => 8 - (intOf i).toNat)
  case atStart => exact ⟨0, 0, _, _, _, rfl, rfl, rfl, HST.out⟩
  case round =>
    obtain ⟨i, long, W, S0, S1, rfl, rfl, rfl, h1⟩ := hrel
    clear HST
    have hi8 := h1.i8
    have hl0 := h1.long0
    have hl1 := h1.long1
    have H1 := Lib.hid h1; clear h1
    by_cases hc : i < n0 ∧ i < 8
    · obtain ⟨hc1, hc2⟩ := hc
      have hd1 : decide ((i : Int) < (n0 : Int)) = true := by simpa using hc1
      have hd2 : decide ((i : Int) < 8) = true := by simp; omega
      obtain ⟨ha0, hcell0⟩ := AR0.out
      obtain ⟨b0, o0, rfl, hb0, hcell1⟩ := hcell0 (by omega)
      obtain ⟨⟨A, n, c, xs⟩, ha⟩ : ∃ a, l0[i]? = some a := ⟨_, List.getElem?_eq_getElem (by omega)⟩
      have hca := hcell1 i _ ha 0 (by omega)
      obtain ⟨hnc, hcm, hxl, hxw, hxc⟩ := OK.out _ (List.mem_of_getElem? ha)
      simp only at hnc hcm hxl hxw hxc
      unfold maxLen at hcm
      have Q1 := Lib.hid (fun (W : World) (hW : Quiet w W) => show W.cell? ⟨b0, o0 + i, none⟩ = some (.slice A n c) ∧ b0 < W.heap.size from ⟨(hW.cell (p := ⟨b0, o0 + i, none⟩) hb0 (fun x => x)).trans (by simpa [iiCells] using hca), Nat.lt_of_lt_of_le hb0 hW.size⟩)
      have HXL := Lib.hid hxl; clear hxl
      have HXC := Lib.hid hxc; clear hxc hxw
      clear ha hca hcell0 hcell1 ha0
      have i0 : (0 : Int) ≤ (i : Int) := by omega
      have i1 : (i : Int) < (n0 : Int) := by omega
      have ST2 := Lib.hid (w2_start H1.out xs)
      have HBL := Lib.hid (lt_of_heap H1.out.box)
      have HOV := Lib.hid (fun (i : Nat) (hi : i < w.heap.size) (e : i = bx) => show False by have := H1.out.lo; omega)
      have q0 := (Q1.out wr H1.out.q).1
      have q1 := (Q1.out wr H1.out.q).2
      go_wp2_with fail
      obtain ⟨wo, rfl⟩ : ∃ wo : World, wo = wr := ⟨_, rfl⟩
      go_loopw [11, 12] (fun v vk wx => W2Rel wo bx W xs v vk wx) (fun _ k _ => 30 - (intOf k).toNat)
      case atStart => exact ⟨0, _, _, rfl, by omega, by omega, ST2.out⟩
      case round =>
        obtain ⟨k, T0, T1, rfl, hk30, hkx, h2⟩ := hrel
        have H2 := Lib.hid h2
        obtain ⟨Av, cv, hv⟩ := own_shape h2.own
        subst hv
        clear h2 ST2 q0 q1
        have QW := Lib.hid (show Quiet w wr from H1.out.q.over H2.out.o HOV.out)
        by_cases hc3 : k < n ∧ k < 30
        · obtain ⟨hc4, hc5⟩ := hc3
          have hd3 : decide ((k : Int) < (n : Int)) = true := by simpa using hc4
          have hd4 : decide ((k : Int) < 30) = true := by simp; omega
          obtain ⟨b, off, rfl, hb, hxc⟩ := HXC.out (by omega)
          obtain ⟨x, hx⟩ : ∃ x, xs[k]? = some x := ⟨_, List.getElem?_eq_getElem (by have := HXL.out; omega)⟩
          have Q2 := Lib.hid (fun (W : World) (hW : Quiet w W) => show W.cell? ⟨b0, o0 + i, none⟩ = some (.slice (some ⟨b, off, none⟩) n c) ∧ b0 < W.heap.size ∧ W.cell? ⟨b, off + k, none⟩ = some (.int .i64 x) ∧ b < W.heap.size from
            ⟨(Q1.out W hW).1, (Q1.out W hW).2, (hW.cell (p := ⟨b, off + k, none⟩) hb (fun x => x)).trans (hxc k x hx), Nat.lt_of_lt_of_le hb hW.size⟩)
          obtain ⟨q0, q1, q2, q3⟩ := Q2.out wr QW.out
          have HX := Lib.hid hx; clear hx hxc hb
          have k0 : (0 : Int) ≤ (k : Int) := by omega
          have k1 : (k : Int) < (n : Int) := by omega
          have HLO := Lib.hid (show wo.heap.size ≤ wr.heap.size from H2.out.o.size)
          have ww := w32_wrap x
          have wt0 := w32_wrap (T0 + w32 x)
          have wt1 := w32_wrap (T1 + w32 x)
          have hpar := par_cases k
          rcases hpar with hp | hp
          · have hp1 : bits .and .i64 (k : Int) 1 = 0 := hp
            have HP := Lib.hid hp
            clear hp
            go_wp2_with (at_builtin; refine wpList_append_own _ rfl (.tmp 53) (.tmp 64) 22 rfl wo.heap.size 41 io (.agg #[.int .i64 0, .int .i64 0, .int .i64 0]) 3 24 Try.underlying22 ho0 ho1 ho2 ho3 rfl (by decide) _ k (opsF (mkOps 0 (xs.take k))) rfl (H2.out.own.alloc _) ⟨wr.heap.size, 0, none⟩ 1 1 [.int .i64 5, .int .i64 0, .int .i64 x] rfl rfl (news_three _ _ _ _ _) three_one (by unfold maxLen; omega) (by omega) (by have := HLO.out; simp; omega) ?_; intro v' w3 hown hg _; obtain ⟨hb3, ho3'⟩ := H2.out.mid ((Only.refl _ _).alloc _) hg HBL.out; have z0 := hb3.c0; have z1 := hb3.c1; have zf := blk_frozen hb3 0; have zs := lt_of_heap hb3; obtain ⟨y0, y1, y2, y3⟩ := Q2.out w3 (H1.out.q.over ho3' HOV.out); obtain ⟨Av', cv', hv'⟩ := own_shape hown; subst hv'; have HOW := Lib.hid hown; have HG := Lib.hid hg; clear hown hg hb3 ho3')
            go_region
            all_goals
              go_wp2_with fail
              go_roundw
              case rel => exact ⟨k + 1, _, _, by go_num, by omega, by have := HXL.out; omega, ((H2.out.next HX.out ((Only.refl _ _).alloc _) (HP.out ▸ HOW.out) HG.out HBL.out).1 HP.out).quiet (by repeat (first | exact Only.refl _ _ | refine Only.drewN ?_ _ | refine Only.drew ?_ | refine Only.alloc ?_ _))⟩
              case measure => simp [intOf]; omega
          · have hp1 : bits .and .i64 (k : Int) 1 = 1 := hp
            have HP := Lib.hid hp
            clear hp
            go_wp2_with (at_builtin; refine wpList_append_own _ rfl (.tmp 53) (.tmp 64) 22 rfl wo.heap.size 41 io (.agg #[.int .i64 0, .int .i64 0, .int .i64 0]) 3 24 Try.underlying22 ho0 ho1 ho2 ho3 rfl (by decide) _ k (opsF (mkOps 0 (xs.take k))) rfl (H2.out.own.alloc _) ⟨wr.heap.size, 0, none⟩ 1 1 [.int .i64 5, .int .i64 1, .int .i64 x] rfl rfl (news_three _ _ _ _ _) three_one (by unfold maxLen; omega) (by omega) (by have := HLO.out; simp; omega) ?_; intro v' w3 hown hg _; obtain ⟨hb3, ho3'⟩ := H2.out.mid ((Only.refl _ _).alloc _) hg HBL.out; have z0 := hb3.c0; have z1 := hb3.c1; have zf := blk_frozen hb3 1; have zs := lt_of_heap hb3; obtain ⟨y0, y1, y2, y3⟩ := Q2.out w3 (H1.out.q.over ho3' HOV.out); obtain ⟨Av', cv', hv'⟩ := own_shape hown; subst hv'; have HOW := Lib.hid hown; have HG := Lib.hid hg; clear hown hg hb3 ho3')
            go_region
            all_goals
              go_wp2_with fail
              go_roundw
              case rel => exact ⟨k + 1, _, _, by go_num, by omega, by have := HXL.out; omega, ((H2.out.next HX.out ((Only.refl _ _).alloc _) (HP.out ▸ HOW.out) HG.out HBL.out).2 HP.out).quiet (by repeat (first | exact Only.refl _ _ | refine Only.drewN ?_ _ | refine Only.drew ?_ | refine Only.alloc ?_ _))⟩
              case measure => simp [intOf]; omega
        · have HC := Lib.hid (words_start H1.out (by omega) HB.out hk30 hkx H2.out)
          have hstop : n ≤ k ∨ (k < n ∧ 30 ≤ k) := by omega
          have q0 := (Q1.out wr QW.out).1
          have q1 := (Q1.out wr QW.out).2
          clear hc3
          rcases hstop with h3 | ⟨h3, h4⟩
          · have hd3 : decide ((k : Int) < (n : Int)) = false := by simp; omega
            go_wp2_with (go_at_call 9; (with_reducible refine HC.out.mono ?_); rintro e w3 ⟨rfl, W', h5⟩; have H5 := Lib.hid h5; clear h5)
            go_roundw
            case rel => exact ⟨i + 1, long + k, W', T0, T1, by go_num, by go_num, by go_num, H5.out⟩
            case measure => simp [intOf]; omega
          · have hd3 : decide ((k : Int) < (n : Int)) = true := by simp; omega
            have hd4 : decide ((k : Int) < 30) = false := by simp; omega
            go_wp2_with (go_at_call 9; (with_reducible refine HC.out.mono ?_); rintro e w3 ⟨rfl, W', h5⟩; have H5 := Lib.hid h5; clear h5)
            go_roundw
            case rel => exact ⟨i + 1, long + k, W', T0, T1, by go_num, by go_num, by go_num, H5.out⟩
            case measure => simp [intOf]; omega
    · have hstop : n0 ≤ i ∨ (i < n0 ∧ 8 ≤ i) := by omega
      clear hc
      have H3 := Lib.hid H1.out.all
      obtain ⟨z0, z1⟩ := H3.out.in32
      clear H1
      rcases hstop with h5 | ⟨h5, h6⟩
      all_goals
        go_wp2_with fail
        go_loopw [15] (fun vj wr => ∃ j W, vj = .int .i64 (j : Nat) ∧ j ≤ 200 ∧ W3At w base p bx i S0 S1 W wr) (fun j _ => 200 - (intOf j).toNat)
        case atStart => exact ⟨0, _, rfl, by omega, H3.out⟩
        case round =>
          obtain ⟨j, X, rfl, hj, h3⟩ := hrel
          clear H3
          have H3 := Lib.hid h3; clear h3
          by_cases hc : j < n1 ∧ j < 200
          · obtain ⟨hc1, hc2⟩ := hc
            have hd5 : decide ((j : Int) < (n1 : Int)) = true := by simpa using hc1
            have hd6 : decide ((j : Int) < 200) = true := by simp; omega
            obtain ⟨hl1', _, hcell⟩ := AR1.out
            obtain ⟨b1, o1, rfl, hb1, hcell1⟩ := hcell (by omega)
            obtain ⟨x, hx⟩ : ∃ x, l1[j]? = some x := ⟨_, List.getElem?_eq_getElem (by omega)⟩
            have q0 : wr.cell? ⟨b1, o1 + j, none⟩ = some (.int .i64 x) := (H3.out.q.cell (p := ⟨b1, o1 + j, none⟩) hb1 (fun x => x)).trans (hcell1 j x hx)
            have q1 : b1 < wr.heap.size := Nat.lt_of_lt_of_le hb1 H3.out.q.size
            clear hl1' hcell hcell1 hx
            have j0 : (0 : Int) ≤ (j : Int) := by omega
            have j1 : (j : Int) < (n1 : Int) := by omega
            go_upto_region 24 with (go_at_call 10; refine (w3_step H3.out HB.out x).mono ?_; rintro e w3 ⟨s, c, W', rfl, hs2, hcc, h4, _⟩; have H4 := Lib.hid h4; have HS2 := Lib.hid hs2; have HCC := Lib.hid hcc; clear h4 hs2 hcc)
            have ds : (s == 2) = false := by simpa using HS2.out
            rcases HCC.out with rfl | rfl | rfl
            all_goals
              go_wp2_with fail
              go_roundw
              case rel => exact ⟨j + 1, W', by go_num, by omega, H4.out⟩
              case measure => simp [intOf]; omega
          · have hstop : n1 ≤ j ∨ (j < n1 ∧ 200 ≤ j) := by omega
            clear hc
            rcases hstop with h7 | ⟨h7, h8⟩
            all_goals
              go_wp2_with fail
              obtain ⟨w4, rfl⟩ : ∃ w4 : World, w4 = wr := ⟨_, rfl⟩
              go_loopw [18] (fun va wx => ∃ a W, va = .int .i64 (a : Nat) ∧ a ≤ i ∧ W3At w base p bx i S0 S1 W wx ∧ Left W a 0) (fun a _ => i - (intOf a).toNat)
              case atStart => exact ⟨0, _, rfl, by omega, H3.out, Left.zero H3.out.inv⟩
              case round =>
                obtain ⟨a, Y, rfl, ha, h3, hl⟩ := hrel
                clear H3
                have H3 := Lib.hid h3; clear h3
                have HL := Lib.hid hl; clear hl
                by_cases hai : a < i
                · have hd9 : decide ((a : Int) < (i : Int)) = true := by simpa using hai
                  go_wp2_with fail
                  obtain ⟨w5, rfl⟩ : ∃ w5 : World, w5 = wr := ⟨_, rfl⟩
                  go_loopw [19] (fun vk wx => ∃ k W, vk = .int .i64 (k : Nat) ∧ k ≤ 31 ∧ W3At w base p bx i S0 S1 W wx ∧ Left W a k) (fun k _ => 31 - (intOf k).toNat)
                  case atStart => exact ⟨0, _, rfl, by omega, H3.out, HL.out⟩
                  case round =>
                    obtain ⟨k, Z, rfl, hk, h3, hl⟩ := hrel
                    clear H3 HL
                    have H3 := Lib.hid h3; clear h3
                    have HL := Lib.hid hl; clear hl
                    by_cases hkk : k < 31
                    · have hd10 : decide ((k : Int) < 31) = true := by simp; omega
                      go_wp2_with (go_at_call 10; (with_reducible refine (w3_step H3.out HB.out (a : Int)).mono ?_); rintro e w6 ⟨s, c, W', rfl, _, _, h4, h5'⟩; have H4 := Lib.hid h4; have HL4 := Lib.hid (HL.out.step h5'); clear h4 h5')
                      go_roundw
                      case rel => exact ⟨k + 1, W', by go_num, by omega, H4.out, HL4.out⟩
                      case measure => simp [intOf]; omega
                    · have hk31 : k = 31 := by omega
                      subst hk31
                      have hd10 : decide (((31 : Nat) : Int) < 31) = false := by decide
                      clear hkk hk
                      go_wp2_with fail
                      go_roundw
                      case rel => exact ⟨a + 1, Z, by go_num, by omega, H3.out, HL.out.next H3.out.inv⟩
                      case measure => simp [intOf]; omega
                · have hai2 : a = i := by omega
                  subst hai2
                  have hd9 : decide ((a : Int) < (a : Int)) = false := by simp
                  clear hai ha
                  obtain ⟨e0, e1, e2, e3⟩ := H3.out.done HL.out
                  have C0 := Lib.hid (fun (V : World) (hV : W3At w base p bx a S0 S1 Y V) => tword hV.rel 0)
                  have C1 := Lib.hid (fun (V : World) (hV : W3At w base p bx a S0 S1 Y V) => tword hV.rel 1)
                  have C2 := Lib.hid (fun (V : World) (hV : W3At w base p bx a S0 S1 Y V) => tstuck hV.rel)
                  have C3 := Lib.hid (fun (V : World) (hV : W3At w base p bx a S0 S1 Y V) => tstate hV.rel (a : Int))
                  rw [e0] at C0
                  rw [e1] at C1
                  rw [e2] at C2
                  rw [e3] at C3
                  clear e0 e1 e2 e3
                  have x0 := H3.out.box.c0
                  have x1 := H3.out.box.c1
                  have xs' := lt_of_heap H3.out.box
                  obtain ⟨z00, z01⟩ := z0
                  obtain ⟨z10, z11⟩ := z1
                  have w0' : IntKind.i64.wrap S0 = S0 := by rw [IntKind.wrap_i64]; omega
                  have w1' : IntKind.i64.wrap S1 = S1 := by rw [IntKind.wrap_i64]; omega
                  go_wp2_with fail
                  go_region_held3 (fun w' => w'.cell? ⟨bx, 0, none⟩ = some (.int .i32 S0) ∧ w'.cell? ⟨bx, 1, none⟩ = some (.int .i32 S1)) (first | exact ⟨x0, x1⟩ | exact ⟨H4.out.box.c0, H4.out.box.c1⟩ | exact ⟨H5.out.box.c0, H5.out.box.c1⟩ | exact ⟨H6.out.box.c0, H6.out.box.c1⟩ | exact ⟨H7.out.box.c0, H7.out.box.c1⟩)
                    (first
                      | (go_at_call 13; (with_reducible refine (C0.out _ (H3.out.quiet (by repeat (first | exact Only.refl _ _ | refine Only.drewN ?_ _ | refine Only.drew ?_ | refine Only.alloc ?_ _)))).mono ?_); rintro e w7 ⟨rfl, hq⟩; have H4 := Lib.hid (H3.out.quiet (Only.trans (by repeat (first | exact Only.refl _ _ | refine Only.drewN ?_ _ | refine Only.drew ?_ | refine Only.alloc ?_ _)) hq)); clear hq)
                      | (go_at_call 13; (with_reducible refine (C1.out _ H4.out).mono ?_); rintro e w8 ⟨rfl, hq⟩; have H5 := Lib.hid (H4.out.quiet hq); clear hq)
                      | (go_at_call 14; (with_reducible refine (C2.out _ H5.out).mono ?_); rintro e w9 ⟨rfl, hq⟩; have H6 := Lib.hid (H5.out.quiet hq); clear hq)
                      | (go_at_call 11; (with_reducible refine (C3.out _ H6.out).mono ?_); rintro e w10 ⟨rfl, hq⟩; have H7 := Lib.hid (H6.out.quiet hq); clear hq))
                  all_goals
                    go_wp2_with fail
                    go_ret
                    exact ⟨rfl, H7.out.q⟩
theorem words_law (w : World) (A0 : Option Addr) (n0 c0 : Nat) (l0 : List IiV) (hnc0 : n0 ≤ c0) (hcm0 : c0 ≤ maxLen) (_ : A0 = none → n0 = 0 ∧ c0 = 0) (arg0 : StructsArg iiCells 1 w A0 n0 l0) (hok : ∀ x ∈ l0, IiAt w x)
    (A1 : Option Addr) (n1 c1 : Nat) (l1 : List Int) (hnc1 : n1 ≤ c1) (hcm1 : c1 ≤ maxLen) (_ : A1 = none → n1 = 0 ∧ c1 = 0) (arg1 : IntsArg .i64 w A1 n1 l1) :
    Calls Try.prog 7 #[.slice A0 n0 c0, .slice A1 n1 c1] w fun e w' => e = .returned (.bool true) ∧ Below w.heap.size w w' :=
  (words_walk w A0 n0 c0 l0 hnc0 hcm0 arg0 hok A1 n1 c1 l1 hnc1 hcm1 arg1).mono fun _ _ ⟨he, ho⟩ => ⟨he, ho.below (Nat.le_refl _) (fun _ x => x.elim)⟩
end Go.Proofs.Ytgdjbmfpbihopaa
