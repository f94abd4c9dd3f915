/-
  THE STATEMENT TaskOrder, its walk: locks taken in rising order stick for no picks, and what is added is all added. No conditions.
-/
import Derived.Test.YtgdjbmfpbihopaaOrderMem
import Derived.Deep.DeepCutAuto
import Derived.Deep.CutBlock
namespace Go.Proofs.Ytgdjbmfpbihopaa
open Go.RowKit Go.MapKept
set_option linter.unusedVariables false
set_option linter.unusedSimpArgs false

theorem order_code : newCode 6 1 [] = 0 := by decide
theorem o_ones3 {a b c : Int} : ∀ u ∈ [Value.int .i64 a, .int .i64 b, .int .i64 c], u.oneCell' = true := by
  intro u hu
  simp only [List.mem_cons, List.not_mem_nil, or_false] at hu
  rcases hu with rfl | rfl | rfl <;> rfl
theorem o_ones6 {a b c d e f : Int} : ∀ u ∈ [Value.int .i64 a, .int .i64 b, .int .i64 c, .int .i64 d, .int .i64 e, .int .i64 f], u.oneCell' = true := by
  intro u hu
  simp only [List.mem_cons, List.not_mem_nil, or_false] at hu
  rcases hu with rfl | rfl | rfl | rfl | rfl | rfl <;> rfl
theorem o_news3 (W : World) (a b c : Value) (e : TypeId) : ∀ (j : Nat) (u : Value), [a, b, c][j]? = some u → (W.alloc (.cells #[a, b, c] e)).cell? ((⟨W.heap.size, 0, none⟩ : Addr).add j) = some u := fun j u hu => by
  rw [Addr.add_lit, blk_cell (blk_new W _), Nat.zero_add]
  simpa using hu
theorem o_news6 (W : World) (a b c d f g : Value) (e : TypeId) : ∀ (j : Nat) (u : Value), [a, b, c, d, f, g][j]? = some u → (W.alloc (.cells #[a, b, c, d, f, g] e)).cell? ((⟨W.heap.size, 0, none⟩ : Addr).add j) = some u := fun j u hu => by
  rw [Addr.add_lit, blk_cell (blk_new W _), Nat.zero_add]
  simpa using hu
def O1Rel (w0 : World) (base p : Nat) (vn vl vi : Value) (wr : World) : Prop := ∃ (i : Nat) (W : Wd) (Z : List ZT), vi = .int .i64 (i : Nat) ∧ vn = .int .i64 (i : Nat) ∧ vl = .int .i64 (remZ Z : Nat) ∧ remZ Z ≤ 14 * i ∧ OAt w0 base p i W Z wr
set_option maxRecDepth 8000 in
set_option maxHeartbeats 16000000 in
theorem order_walk (w : World) (A0 : Option Addr) (n0 c0 : Nat) (l0 : List Int) (hnc0 : n0 ≤ c0) (hcm0 : c0 ≤ maxLen) (arg0 : IntsArg .i64 w A0 n0 l0)
    (A1 : Option Addr) (n1 c1 : Nat) (l1 : List Int) (hnc1 : n1 ≤ c1) (hcm1 : c1 ≤ maxLen) (arg1 : IntsArg .i64 w A1 n1 l1) :
    Calls Try.prog 5 #[.slice A0 n0 c0, .slice A1 n1 c1] w fun e w' => e = .returned (.bool true) ∧ Quiet w w' := by
  unfold maxLen at hcm0 hcm1
  have AR0 := Lib.hid arg0; clear arg0
  have AR1 := Lib.hid arg1; clear arg1
  have N1 := Lib.hid (fun (w : World) => tnew (L := 6) (W := 1) (w := w) order_code (Nat.le_refl _) (Nat.zero_le _) (intsArg_nil .i64 w))
  obtain ⟨io, ho0, ho1, ho2, ho3⟩ := info_parts Try.info41
  go_enter Try.func5, Try.ntmps5
  go_wp2_with (first
    | (go_at_call 15; (with_reducible refine (N1.out _).mono ?_); rintro e w1 ⟨p, rfl, ht1, hq1⟩; have HST := Lib.hid (o_new ht1 hq1); clear ht1 hq1))
  obtain ⟨base, hbase⟩ : ∃ base, base = w.heap.size := ⟨_, rfl⟩
  rw [← hbase] at HST
  have HB := Lib.hid (show w.heap.size ≤ base by omega); clear hbase
  go_loopw [7, 8, 9] (fun vn vl vi wr => O1Rel w base p vn vl vi wr) (fun _ _ i _ => 12 - (intOf i).toNat)
  case atStart => exact ⟨0, _, _, rfl, rfl, rfl, Nat.le_refl _, HST.out⟩
  case round =>
    obtain ⟨i, W, Z, rfl, rfl, rfl, hlong, h1⟩ := hrel
    clear HST
    have hi12 := h1.i12
    have H1 := Lib.hid h1; clear h1
    obtain ⟨m0, hm0⟩ : ∃ m, m = remZ Z := ⟨_, rfl⟩
    rw [← hm0] at hlong ⊢
    have HM0 := Lib.hid hm0; clear hm0
    by_cases hc : i < n0 ∧ i < 12
    · obtain ⟨hc1, hc2⟩ := hc
      have hd1 : decide ((i : Int) < (n0 : Int)) = true := by simpa using hc1
      have hd2 : decide ((i : Int) < 12) = true := by simp; omega
      obtain ⟨ha0, _, hcell0⟩ := AR0.out
      obtain ⟨b0, o0, rfl, hb0, hcell1⟩ := hcell0 (by omega)
      obtain ⟨x, hx⟩ : ∃ x, l0[i]? = some x := ⟨_, List.getElem?_eq_getElem (by omega)⟩
      have Q1 := Lib.hid (fun (V : World) (hV : Quiet w V) => show V.cell? ⟨b0, o0 + i, none⟩ = some (.int .i64 x) ∧ b0 < V.heap.size from ⟨(hV.cell (p := ⟨b0, o0 + i, none⟩) hb0 (fun x => x)).trans (hcell1 i x hx), Nat.lt_of_lt_of_le hb0 hV.size⟩)
      clear hx hcell1 hcell0 ha0 hb0
      have i0 : (0 : Int) ≤ (i : Int) := by omega
      have i1 : (i : Int) < (n0 : Int) := by omega
      have G0 := Lib.hid (g_start wr)
      go_wp2_with fail
      obtain ⟨wo, rfl⟩ : ∃ wo : World, wo = wr := ⟨_, rfl⟩
      go_loopw [10, 11] (fun v vk wx => ∃ k, vk = .int .i64 (k : Nat) ∧ k ≤ 6 ∧ GAt wo (lockL (pk (maskB x) k)) v wx) (fun _ k _ => 6 - (intOf k).toNat)
      case atStart => exact ⟨0, rfl, by omega, G0.out⟩
      case round =>
        obtain ⟨k, rfl, hk6, hg⟩ := hrel
        obtain ⟨Av, cv, e1⟩ := hg.shape
        subst e1
        have HG := Lib.hid hg; clear hg G0
        have hsm := lock_small (maskB x) hk6
        obtain ⟨n, hn⟩ : ∃ n, n = (lockL (pk (maskB x) k)).length := ⟨_, rfl⟩
        rw [← hn] at hsm HG ⊢
        have HN := Lib.hid hn; clear hn
        obtain ⟨q0, q1⟩ := Q1.out wr (H1.out.q.trans HG.out.q)
        have HLO := Lib.hid (show wo.heap.size ≤ wr.heap.size from HG.out.q.size)
        by_cases hkk : k < 6
        · have hd3 : decide ((k : Int) < 6) = true := by simp; omega
          have k0 : (0 : Int) ≤ (k : Int) := by omega
          have k6 : (k : Int) < 6 := by omega
          rcases mask_bit x k with hb | hb
          · by_cases hk5 : k = 5
            · have hk5' : ((k : Int) == 5) = true := by simp; omega
              have hmk : maskB x k = true := by rw [hk5]; exact mask_five x
              clear hk5
              go_wp2_with (at_builtin; refine wpList_append_own _ rfl (.tmp 56) (.tmp 59) 22 rfl wo.heap.size 41 io (.agg #[.int .i64 0, .int .i64 0, .int .i64 0]) 3 24 Try.underlying22 ho0 ho1 ho2 ho3 rfl (by decide) _ n (opsF (lockL (pk (maskB x) k))) rfl ((HG.out.row HN.out).alloc _) ⟨wr.heap.size, 0, none⟩ 1 1 [.int .i64 1, .int .i64 (k : Nat), .int .i64 0] rfl rfl (o_news3 _ _ _ _ _) o_ones3 (by unfold maxLen; omega) (by omega) (by have := HLO.out; simp; omega) ?_; intro v' w3 hown hg _; have HG3 := Lib.hid (HG.out.next ((Only.refl _ _).alloc _) hown (HN.out ▸ (lock_yes hmk).1) (lock_yes hmk).2 hg); clear hown hg)
              go_roundw
              case rel => exact ⟨k + 1, by go_num, by omega, HG3.out⟩
              case measure => simp [intOf]; omega
            · have hk5' : ((k : Int) == 5) = false := by simp; omega
              go_wp2_with fail
              go_roundw
              case rel => exact ⟨k + 1, by go_num, by omega, by rw [lock_no (mask_no hb hk5)]; exact HG.out.shaped HN.out⟩
              case measure => simp [intOf]; omega
          · go_wp2_with (at_builtin; refine wpList_append_own _ rfl (.tmp 56) (.tmp 59) 22 rfl wo.heap.size 41 io (.agg #[.int .i64 0, .int .i64 0, .int .i64 0]) 3 24 Try.underlying22 ho0 ho1 ho2 ho3 rfl (by decide) _ n (opsF (lockL (pk (maskB x) k))) rfl ((HG.out.row HN.out).alloc _) ⟨wr.heap.size, 0, none⟩ 1 1 [.int .i64 1, .int .i64 (k : Nat), .int .i64 0] rfl rfl (o_news3 _ _ _ _ _) o_ones3 (by unfold maxLen; omega) (by omega) (by have := HLO.out; simp; omega) ?_; intro v' w3 hown hg _; have HG3 := Lib.hid (HG.out.next ((Only.refl _ _).alloc _) hown (HN.out ▸ (lock_yes (mask_yes hb)).1) (lock_yes (mask_yes hb)).2 hg); clear hown hg)
            go_roundw
            case rel => exact ⟨k + 1, by go_num, by omega, HG3.out⟩
            case measure => simp [intOf]; omega
        · obtain rfl : k = 6 := by omega
          have hd3 : decide (((6 : Nat) : Int) < 6) = false := by decide
          clear hkk hk6 q0 q1
          go_wp2_with (at_builtin; refine wpList_append_own _ rfl (.tmp 61) (.tmp 66) 22 rfl wo.heap.size 41 io (.agg #[.int .i64 0, .int .i64 0, .int .i64 0]) 3 24 Try.underlying22 ho0 ho1 ho2 ho3 rfl (by decide) _ n (opsF (lockL (pk (maskB x) 6))) rfl ((HG.out.row HN.out).alloc _) ⟨wr.heap.size, 0, none⟩ 2 2 [.int .i64 5, .int .i64 0, .int .i64 ((i : Int) + 1), .int .i64 6, .int .i64 0, .int .i64 0] rfl rfl (o_news6 _ _ _ _ _ _ _ _) o_ones6 (by unfold maxLen; omega) (by omega) (by have := HLO.out; simp; omega) ?_; intro v' w3 hown hg _; have HG3 := Lib.hid (HG.out.next ((Only.refl _ _).alloc _) hown (HN.out ▸ (full_mid (maskB x) i).1) (full_mid (maskB x) i).2 hg); clear hown hg)
          clear HG
          go_loopw [10, 12] (fun v vk wx => ∃ k, vk = .int .i64 (k : Nat) ∧ k ≤ 6 ∧ GAt wo (fullO (maskB x) i k) v wx) (fun _ k _ => 6 - (intOf k).toNat)
          case atStart => exact ⟨0, rfl, by omega, HG3.out⟩
          case round =>
            obtain ⟨k, rfl, hk6, hg⟩ := hrel
            clear HN hsm HLO
            obtain ⟨Av2, cv2, e1⟩ := hg.shape
            subst e1
            have HG := Lib.hid hg; clear hg HG3
            have hsm := full_small (maskB x) i hk6
            obtain ⟨n2, hn⟩ : ∃ n, n = (fullO (maskB x) i k).length := ⟨_, rfl⟩
            rw [← hn] at hsm HG ⊢
            have HN := Lib.hid hn; clear hn
            obtain ⟨q0, q1⟩ := Q1.out wr (H1.out.q.trans HG.out.q)
            have HLO := Lib.hid (show wo.heap.size ≤ wr.heap.size from HG.out.q.size)
            by_cases hkk : k < 6
            · have hd3 : decide ((k : Int) < 6) = true := by simp; omega
              have k0 : (0 : Int) ≤ (k : Int) := by omega
              have k6 : (k : Int) < 6 := by omega
              rcases mask_bit x k with hb | hb
              · by_cases hk5 : k = 5
                · have hk5' : ((k : Int) == 5) = true := by simp; omega
                  have hmk : maskB x k = true := by rw [hk5]; exact mask_five x
                  clear hk5
                  go_wp2_with (at_builtin; refine wpList_append_own _ rfl (.tmp 85) (.tmp 88) 22 rfl wo.heap.size 41 io (.agg #[.int .i64 0, .int .i64 0, .int .i64 0]) 3 24 Try.underlying22 ho0 ho1 ho2 ho3 rfl (by decide) _ n2 (opsF (fullO (maskB x) i k)) rfl ((HG.out.row HN.out).alloc _) ⟨wr.heap.size, 0, none⟩ 1 1 [.int .i64 2, .int .i64 (k : Nat), .int .i64 0] rfl rfl (o_news3 _ _ _ _ _) o_ones3 (by unfold maxLen; omega) (by omega) (by have := HLO.out; simp; omega) ?_; intro v' w3 hown hg _; have HG3 := Lib.hid (HG.out.next ((Only.refl _ _).alloc _) hown (HN.out ▸ (full_yes hmk).1) (full_yes hmk).2 hg); clear hown hg)
                  go_roundw
                  case rel => exact ⟨k + 1, by go_num, by omega, HG3.out⟩
                  case measure => simp [intOf]; omega
                · have hk5' : ((k : Int) == 5) = false := by simp; omega
                  go_wp2_with fail
                  go_roundw
                  case rel => exact ⟨k + 1, by go_num, by omega, by rw [full_no (mask_no hb hk5)]; exact HG.out.shaped HN.out⟩
                  case measure => simp [intOf]; omega
              · go_wp2_with (at_builtin; refine wpList_append_own _ rfl (.tmp 85) (.tmp 88) 22 rfl wo.heap.size 41 io (.agg #[.int .i64 0, .int .i64 0, .int .i64 0]) 3 24 Try.underlying22 ho0 ho1 ho2 ho3 rfl (by decide) _ n2 (opsF (fullO (maskB x) i k)) rfl ((HG.out.row HN.out).alloc _) ⟨wr.heap.size, 0, none⟩ 1 1 [.int .i64 2, .int .i64 (k : Nat), .int .i64 0] rfl rfl (o_news3 _ _ _ _ _) o_ones3 (by unfold maxLen; omega) (by omega) (by have := HLO.out; simp; omega) ?_; intro v' w3 hown hg _; have HG3 := Lib.hid (HG.out.next ((Only.refl _ _).alloc _) hown (HN.out ▸ (full_yes (mask_yes hb)).1) (full_yes (mask_yes hb)).2 hg); clear hown hg)
                go_roundw
                case rel => exact ⟨k + 1, by go_num, by omega, HG3.out⟩
                case measure => simp [intOf]; omega
            · obtain rfl : k = 6 := by omega
              have hd3 : decide (((6 : Nat) : Int) < 6) = false := by decide
              clear hkk hk6 q0 q1
              have C9 := Lib.hid (o_start H1.out (by omega) HB.out HG.out)
              go_wp2_with (go_at_call 9; (with_reducible refine C9.out.mono ?_); rintro e w4 ⟨rfl, W', Z', h5, hrz⟩; have H5 := Lib.hid h5; have HR5 := Lib.hid hrz; clear h5 hrz)
              go_roundw
              case rel => exact ⟨i + 1, W', Z', by go_num, by go_num, by rw [HR5.out, ← HM0.out]; go_num, by have := HR5.out; have := HM0.out; omega, H5.out⟩
              case measure => simp [intOf]; omega
    · have hstop : n0 ≤ i ∨ (i < n0 ∧ 12 ≤ i) := by omega
      clear hc
      rcases hstop with h5 | ⟨h5, h6⟩
      all_goals
        go_wp2_with fail
        go_loopw [15] (fun vj wr => ∃ j W Z, vj = .int .i64 (j : Nat) ∧ j ≤ 300 ∧ remZ Z ≤ m0 ∧ OAt w base p i W Z wr) (fun j _ => 300 - (intOf j).toNat)
        case atStart => exact ⟨0, _, _, rfl, by omega, Nat.le_of_eq HM0.out.symm, H1.out⟩
        case round =>
          obtain ⟨j, W, Z, rfl, hj, hm, h3⟩ := hrel
          clear H1 HM0
          have HM := Lib.hid hm; clear hm
          have H3 := Lib.hid h3; clear h3
          by_cases hc : j < n1 ∧ j < 300
          · obtain ⟨hc1, hc2⟩ := hc
            have hd5 : decide ((j : Int) < (n1 : Int)) = true := by simpa using hc1
            have hd6 : decide ((j : Int) < 300) = true := by simp; omega
            obtain ⟨hl1', _, hcell⟩ := AR1.out
            obtain ⟨b1, o1, rfl, hb1, hcell1⟩ := hcell (by omega)
            obtain ⟨x, hx⟩ : ∃ x, l1[j]? = some x := ⟨_, List.getElem?_eq_getElem (by omega)⟩
            have q0 : wr.cell? ⟨b1, o1 + j, none⟩ = some (.int .i64 x) := (H3.out.q.cell (p := ⟨b1, o1 + j, none⟩) hb1 (fun x => x)).trans (hcell1 j x hx)
            have q1 : b1 < wr.heap.size := Nat.lt_of_lt_of_le hb1 H3.out.q.size
            clear hl1' hcell hcell1 hx
            have j0 : (0 : Int) ≤ (j : Int) := by omega
            have j1 : (j : Int) < (n1 : Int) := by omega
            go_wp2_with (first
              | (go_at_call 10; (with_reducible refine (o_step H3.out HB.out x).mono ?_); rintro e w6 ⟨s, c, W', Z', rfl, h4, hz4⟩; have H4 := Lib.hid h4; have HZ4 := Lib.hid hz4; have C14 := Lib.hid (tstuck h4.rel); rw [h4.inv.notstuck] at C14; clear h4 hz4)
              | (go_at_call 14; (with_reducible refine C14.out.mono ?_); rintro e w7 ⟨rfl, hq⟩; have H5 := Lib.hid (H4.out.quiet hq); clear hq))
            go_roundw
            case rel => exact ⟨j + 1, W', Z', by go_num, by omega, Nat.le_trans HZ4.out HM.out, H5.out⟩
            case measure => simp [intOf]; omega
          · have hstop : n1 ≤ j ∨ (j < n1 ∧ 300 ≤ j) := by omega
            clear hc
            rcases hstop with h7 | ⟨h7, h8⟩
            all_goals
              go_wp2_with fail
              obtain ⟨w4, rfl⟩ : ∃ w4 : World, w4 = wr := ⟨_, rfl⟩
              go_loopw [16] (fun vr wx => ∃ r W Z, vr = .int .i64 (r : Nat) ∧ r ≤ m0 ∧ remZ Z ≤ m0 - r ∧ OAt w base p i W Z wx) (fun r _ => m0 - (intOf r).toNat)
              case atStart => exact ⟨0, _, _, rfl, by omega, HM.out, H3.out⟩
              case round =>
                obtain ⟨r, W, Z, rfl, hr, hm, h3⟩ := hrel
                clear H3 HM
                have HM := Lib.hid hm; clear hm
                have H3 := Lib.hid h3; clear h3
                by_cases hrm : r < m0
                · have hd9 : decide ((r : Int) < (m0 : Int)) = true := by simpa using hrm
                  go_wp2_with fail
                  obtain ⟨w5, rfl⟩ : ∃ w5 : World, w5 = wr := ⟨_, rfl⟩
                  go_loopw [17] (fun va wx => ∃ a W Z, va = .int .i64 (a : Nat) ∧ a ≤ i ∧ ORnd W Z (m0 - r) a ∧ OAt w base p i W Z wx) (fun a _ => i - (intOf a).toNat)
                  case atStart => exact ⟨0, _, _, rfl, by omega, ORnd.zero HM.out, H3.out⟩
                  case round =>
                    obtain ⟨a, W, Z, rfl, ha, hm, h3⟩ := hrel
                    clear H3 HM
                    have HM := Lib.hid hm; clear hm
                    have H3 := Lib.hid h3; clear h3
                    by_cases hai : a < i
                    · have hd10 : decide ((a : Int) < (i : Int)) = true := by simpa using hai
                      go_wp2_with (go_at_call 10; (with_reducible refine (o_rnd H3.out HB.out HM.out).mono ?_); rintro e w6 ⟨s, c, W', Z', rfl, h4, hz4⟩; have H4 := Lib.hid h4; have HZ4 := Lib.hid hz4; clear h4 hz4)
                      go_roundw
                      case rel => exact ⟨a + 1, W', Z', by go_num, by omega, HZ4.out, H4.out⟩
                      case measure => simp [intOf]; omega
                    · obtain rfl : a = i := by omega
                      have hd10 : decide ((a : Int) < (a : Int)) = false := by simp
                      clear hai ha
                      go_wp2_with fail
                      go_roundw
                      case rel => exact ⟨r + 1, W, Z, by go_num, by omega, by have := H3.out.rnd_end HM.out; omega, H3.out⟩
                      case measure => simp [intOf]; omega
                · obtain rfl : r = m0 := by omega
                  have hd9 : decide ((r : Int) < (r : Int)) = false := by simp
                  clear hrm hr
                  obtain ⟨e0, e1⟩ := H3.out.done (by have := HM.out; omega)
                  have E0 := Lib.hid e0; clear e0
                  have C13 := Lib.hid (fun (V : World) (hV : OAt w base p i W Z V) => tword hV.rel 0)
                  rw [e1] at C13
                  clear e1
                  have C14 := Lib.hid (fun (V : World) (hV : OAt w base p i W Z V) => tstuck hV.rel)
                  rw [H3.out.inv.notstuck] at C14
                  go_wp2_with fail
                  obtain ⟨w5, rfl⟩ : ∃ w5 : World, w5 = wr := ⟨_, rfl⟩
                  go_loopw [18] (fun va wx => ∃ a, va = .int .i64 (a : Nat) ∧ a ≤ i ∧ OAt w base p i W Z wx) (fun a _ => i - (intOf a).toNat)
                  case atStart => exact ⟨0, rfl, by omega, H3.out⟩
                  case round =>
                    obtain ⟨a, rfl, ha, h3⟩ := hrel
                    clear H3
                    have H3 := Lib.hid h3; clear h3
                    by_cases hai : a < i
                    · have hd10 : decide ((a : Int) < (i : Int)) = true := by simpa using hai
                      have C11 := Lib.hid (tstate H3.out.rel (a : Int))
                      rw [E0.out a hai] at C11
                      go_wp2_with (go_at_call 11; (with_reducible refine C11.out.mono ?_); rintro e w6 ⟨rfl, hq⟩; have H4 := Lib.hid (H3.out.quiet hq); clear hq)
                      go_roundw
                      case rel => exact ⟨a + 1, by go_num, by omega, H4.out⟩
                      case measure => simp [intOf]; omega
                    · obtain rfl : a = i := by omega
                      have hd10 : decide ((a : Int) < (a : Int)) = false := by simp
                      clear hai ha
                      have t0 := tri_eq a
                      have t1 := tri_in a hi12
                      have t2 : (tri a == (a : Int) * ((a : Int) + 1) / 2) = true := by rw [beq_iff_eq, ← t0]; omega
                      go_wp2_with (first
                        | (go_at_call 14; (with_reducible refine (C14.out _ H3.out).mono ?_); rintro e w6 ⟨rfl, hq⟩; have H4 := Lib.hid (H3.out.quiet hq); clear hq)
                        | (go_at_call 13; (with_reducible refine (C13.out _ H4.out).mono ?_); rintro e w7 ⟨rfl, hq⟩; have H5 := Lib.hid (H4.out.quiet hq); clear hq))
                      go_ret
                      exact ⟨rfl, H5.out.q⟩
theorem order_law (w : World) (A0 : Option Addr) (n0 c0 : Nat) (l0 : List Int) (hnc0 : n0 ≤ c0) (hcm0 : c0 ≤ maxLen) (_ : A0 = none → n0 = 0 ∧ c0 = 0) (arg0 : IntsArg .i64 w A0 n0 l0)
    (A1 : Option Addr) (n1 c1 : Nat) (l1 : List Int) (hnc1 : n1 ≤ c1) (hcm1 : c1 ≤ maxLen) (_ : A1 = none → n1 = 0 ∧ c1 = 0) (arg1 : IntsArg .i64 w A1 n1 l1) :
    Calls Try.prog 5 #[.slice A0 n0 c0, .slice A1 n1 c1] w fun e w' => e = .returned (.bool true) ∧ Below w.heap.size w w' :=
  (order_walk w A0 n0 c0 l0 hnc0 hcm0 arg0 A1 n1 c1 l1 hnc1 hcm1 arg1).mono fun _ _ ⟨he, ho⟩ => ⟨he, ho.below (Nat.le_refl _) (fun _ x => x.elim)⟩
end Go.Proofs.Ytgdjbmfpbihopaa
