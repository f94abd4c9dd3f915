/-
  THE STATEMENT TaskPipes, its walk: what is sent into a channel comes out in order, none lost, whatever the picks. No conditions.
-/
import Derived.Test.YtgdjbmfpbihopaaPipesSet
import Derived.Deep.DeepCutAuto
namespace Go.Proofs.Ytgdjbmfpbihopaa
open Go.RowKit Go.MapKept
set_option linter.unusedVariables false
set_option linter.unusedSimpArgs false

theorem three_ones {a b c : Int} : ∀ u ∈ [Value.int .i64 a, .int .i64 b, .int .i64 c], u.oneCell' = true := by
  intro u hu
  simp only [List.mem_cons, List.not_mem_nil, or_false] at hu
  rcases hu with rfl | rfl | rfl <;> rfl
theorem news_threes (W : World) (a b c : Value) (e : TypeId) : ∀ (j : Nat) (u : Value), [a, b, c][j]? = some u → (W.alloc (.cells #[a, b, c] e)).cell? ((⟨W.heap.size, 0, none⟩ : Addr).add j) = some u := fun j u hu => by
  rw [Addr.add_lit, blk_cell (blk_new W _), Nat.zero_add]
  simpa using hu
theorem own_shapes {w : World} {base e size n : Nat} {v : Value} {xs : List Value} (h : w.ownsRow base e size v n xs) : ∃ A c, v = .slice A n c := by
  obtain ⟨_, ⟨h1, h2⟩ | ⟨g, cap, cur, h1, _⟩⟩ := h
  · exact ⟨none, 0, by rw [h1, h2]⟩
  · exact ⟨_, _, h1⟩
theorem ints_one {w : World} {g : Nat} {x : Int} (h : w.heap[g]? = some (.cells #[.int .i64 x] 3 (0, 0))) (hw : (Lit.int .i64 x).wf = true) : IntsArg .i64 w (some ⟨g, 0, none⟩) 1 [x] :=
  ⟨rfl, fun y hy => by rw [List.mem_singleton] at hy; subst hy; exact hw, fun _ => ⟨g, 0, rfl, lt_of_heap h, fun i y hy => by
    have hi := (List.getElem?_eq_some_iff.1 hy).1
    simp at hi
    subst hi
    rw [blk_cell h]
    simpa using hy⟩⟩
def SRelP (wo : World) (l : List Int) (v1 v2 vs vi : Value) (wr : World) : Prop := ∃ k, vi = .int .i64 (k : Nat) ∧ k ≤ 40 ∧ k ≤ l.length ∧ vs = .int .i32 (w32 (sumL (l.take k))) ∧ SAt wo l k v1 v2 wr
set_option maxRecDepth 8000 in
set_option maxHeartbeats 16000000 in
theorem pipes_walk (w : World) (A0 : Option Addr) (n0 c0 : Nat) (l0 : List Int) (hnc0 : n0 ≤ c0) (hcm0 : c0 ≤ maxLen) (arg0 : IntsArg .i64 w A0 n0 l0) (sz : Int)
    (A1 : Option Addr) (n1 c1 : Nat) (l1 : List Bool) (hnc1 : n1 ≤ c1) (hcm1 : c1 ≤ maxLen) (arg1 : BoolsArg w A1 n1 l1) :
    Calls Try.prog 6 #[.slice A0 n0 c0, .int .i64 sz, .slice A1 n1 c1] w fun e w' => e = .returned (.bool true) ∧ Quiet w w' := by
  unfold maxLen at hcm0 hcm1
  have AR0 := Lib.hid arg0; clear arg0
  have AR1 := Lib.hid arg1; clear arg1
  obtain ⟨y, hy, hy7⟩ := and_mask sz 7 (by decide)
  have hy' : bits .and .i64 sz 7 = (y : Int) := hy
  clear hy
  obtain ⟨io, ho0, ho1, ho2, ho3⟩ := info_parts Try.info41
  have HC := Lib.hid ((pipe_start (size := 1 + (y : Int)) (N := []) (by omega) (by simp)).1)
  have HWF := Lib.hid (show (Lit.int .i64 (1 + (y : Int))).wf = true by exact WalkArith.wf_i64 (by omega))
  have HN := Lib.hid (show Calls Try.prog 15 #[.int .i64 0, .int .i64 0, .slice (some ⟨w.heap.size + 1, 0, none⟩) 1 1] ((w.alloc (.cells #[.int .i64 (1 + (y : Int))] 3)).alloc (.cells #[.int .i64 (1 + (y : Int))] 3)) (fun e w' => ∃ p, e = .returned (.tuple #[.pointer (some ⟨p, 0, none⟩), .int .i64 0]) ∧ TRel ((w.alloc (.cells #[.int .i64 (1 + (y : Int))] 3)).alloc (.cells #[.int .i64 (1 + (y : Int))] 3)).heap.size p (newW 0 0 [1 + (y : Int)]) w' ∧ Quiet ((w.alloc (.cells #[.int .i64 (1 + (y : Int))] 3)).alloc (.cells #[.int .i64 (1 + (y : Int))] 3)) w') from
    tnew HC.out (Nat.le_refl _) (by unfold maxLen; omega) (ints_one (blk_new' _ _ (by simp)) HWF.out))
  have HBS := Lib.hid (show ((w.alloc (.cells #[.int .i64 (1 + (y : Int))] 3)).alloc (.cells #[.int .i64 (1 + (y : Int))] 3)).heap[w.heap.size]? = some (.cells #[.int .i64 (1 + (y : Int))] 3 (0, 0)) from blk_alloc (blk_new _ _) _)
  have HQ0 := Lib.hid (show Quiet w ((w.alloc (.cells #[.int .i64 (1 + (y : Int))] 3)).alloc (.cells #[.int .i64 (1 + (y : Int))] 3)) from ((Only.refl _ _).alloc _).alloc _)
  generalize hW2 : ((w.alloc (.cells #[.int .i64 (1 + (y : Int))] 3)).alloc (.cells #[.int .i64 (1 + (y : Int))] 3)) = w2 at HN HBS HQ0
  have HB := Lib.hid (show w.heap.size ≤ w2.heap.size from HQ0.out.size)
  go_enter Try.func6, Try.ntmps6
  go_upto_region 2 with (fail)
  go_wp2_with (first
    | (go_at_call 15; (with_reducible refine HN.out.mono ?_); rintro e w1 ⟨p, rfl, ht1, hq1⟩; have HT1 := Lib.hid (ht1.quiet ((Only.refl _ _).alloc (.cells #[.pointer (some ⟨p, 0, none⟩)] 23))); have HQ1 := Lib.hid ((HQ0.out.trans hq1).trans ((Only.refl _ _).alloc (.cells #[.pointer (some ⟨p, 0, none⟩)] 23))); have HBS1 := Lib.hid ((hq1.trans ((Only.refl _ _).alloc (.cells #[.pointer (some ⟨p, 0, none⟩)] 23))).keep HBS.out (fun x => x)); have HBW := Lib.hid (blk_new w1 (.cells #[.pointer (some ⟨p, 0, none⟩)] 23)); clear ht1 hq1))
  have LBW := Lib.hid (show w1.heap.size < (w1.alloc (.cells #[.pointer (some ⟨p, 0, none⟩)] 23)).heap.size by simp)
  have BW0 := blk_cell HBW.out 0
  simp only [List.getElem?_toArray, List.getElem?_cons_zero] at BW0
  have bwl := LBW.out
  clear hW2
  generalize hwo : w1.alloc (.cells #[.pointer (some ⟨p, 0, none⟩)] 23) = wo at HT1 HQ1 HBS1 HBW LBW BW0 bwl ⊢
  obtain ⟨base, hbase⟩ : ∃ base, base = w2.heap.size := ⟨_, rfl⟩
  rw [← hbase] at HT1 HB
  obtain ⟨bw, hbw⟩ : ∃ bw, bw = w1.heap.size := ⟨_, rfl⟩
  rw [← hbw] at HBW LBW BW0 bwl ⊢
  obtain ⟨bs, hbs⟩ : ∃ bs, bs = w.heap.size := ⟨_, rfl⟩
  rw [← hbs] at HBS1 ⊢
  clear hwo hbase hbw hbs HN HBS HQ0
  go_wp2_with fail
  go_loopw [9, 10, 11, 12] (fun v1 v2 vs vi wr => SRelP wo l0 v1 v2 vs vi wr) (fun _ _ _ i _ => 40 - (intOf i).toNat)
  case atStart => exact ⟨0, rfl, by omega, by omega, rfl, s_start wo l0⟩
  case round =>
    obtain ⟨k, rfl, hk40, hkl, rfl, hs⟩ := hrel
    obtain ⟨Av1, cv1, e1⟩ := own_shapes hs.own1
    obtain ⟨Av2, cv2, e2⟩ := own_shapes hs.own2
    subst e1 e2
    have HS := Lib.hid hs; clear hs
    obtain ⟨sm1, sm2⟩ := sum_in l0 k
    obtain ⟨sm, hsm⟩ : ∃ sm, sm = w32 (sumL (l0.take k)) := ⟨_, rfl⟩
    rw [← hsm] at sm1 sm2 ⊢
    have HSM := Lib.hid hsm; clear hsm
    by_cases hc : k < n0 ∧ k < 40
    · obtain ⟨hc1, hc2⟩ := hc
      have hd1 : decide ((k : Int) < (n0 : Int)) = true := by simpa using hc1
      have hd2 : decide ((k : Int) < 40) = true := by simp; omega
      obtain ⟨ha0, _, hcell0⟩ := AR0.out
      obtain ⟨b0, o0, rfl, hb0, hcell1⟩ := hcell0 (by omega)
      obtain ⟨x, hx⟩ : ∃ x, l0[k]? = some x := ⟨_, List.getElem?_eq_getElem (by omega)⟩
      have Q1 := Lib.hid (fun (W : World) (hW : Quiet wo W) => show W.cell? ⟨b0, o0 + k, none⟩ = some (.int .i64 x) ∧ b0 < W.heap.size from ⟨((HQ1.out.trans hW).cell (p := ⟨b0, o0 + k, none⟩) hb0 (fun x => x)).trans (hcell1 k x hx), Nat.lt_of_lt_of_le hb0 (HQ1.out.trans hW).size⟩)
      obtain ⟨q0, q1⟩ := Q1.out wr HS.out.q
      have HX := Lib.hid hx
      have HLO := Lib.hid (show wo.heap.size ≤ wr.heap.size from HS.out.q.size)
      clear hx hcell1 hcell0 ha0
      have k0 : (0 : Int) ≤ (k : Int) := by omega
      have k1 : (k : Int) < (n0 : Int) := by omega
      have ww := w32_wrap x
      have www := w32_wrap (sm + w32 x)
      go_wp2_with (first
        | (at_builtin; refine wpList_append_own_at _ rfl (.tmp 44) (.tmp 50) 22 rfl wo.heap.size 41 io (.agg #[.int .i64 0, .int .i64 0, .int .i64 0]) 3 24 Try.underlying22 ho0 ho1 ho2 ho3 rfl (by decide) _ k (opsF (sends (l0.take k))) rfl (HS.out.own1.alloc _) ⟨wr.heap.size, 0, none⟩ 1 1 [.int .i64 3, .int .i64 0, .int .i64 x] rfl rfl (news_threes _ _ _ _ _) three_ones (by unfold maxLen; omega) (by omega) (by have := HLO.out; simp; omega) ?_; intro v1' w3 hown hg _ hat; have HM := Lib.hid (HS.out.mid ((Only.refl _ _).alloc _) HX.out hown hg hat); obtain ⟨Av1', cv1', e1'⟩ := own_shapes hown; subst e1'; obtain ⟨y0, y1⟩ := Q1.out w3 HM.out.q; have HLO3 := Lib.hid HM.out.q.size; clear hown hg hat)
        | (at_builtin; refine wpList_append_own_at _ rfl (.tmp 52) (.tmp 54) 22 rfl wo.heap.size 41 io (.agg #[.int .i64 0, .int .i64 0, .int .i64 0]) 3 24 Try.underlying22 ho0 ho1 ho2 ho3 rfl (by decide) _ k (opsF (recvs k)) rfl (HM.out.own2.alloc _) ⟨w3.heap.size, 0, none⟩ 1 1 [.int .i64 4, .int .i64 0, .int .i64 0] rfl rfl (news_threes _ _ _ _ _) three_ones (by unfold maxLen; omega) (by omega) (by have := HLO3.out; simp; omega) ?_; intro v2' w4 hown hg _ hat; have HN4 := Lib.hid (HM.out.next ((Only.refl _ _).alloc _) hown hg hat); obtain ⟨Av2', cv2', e2'⟩ := own_shapes hown; subst e2'; obtain ⟨z0, z1⟩ := Q1.out w4 HN4.out.q; clear hown hg hat))
      go_roundw
      case rel => exact ⟨k + 1, by go_num, by omega, by have := AR0.out.1; omega, by rw [← sum_more HX.out, ← HSM.out], HN4.out⟩
      case measure => simp [intOf]; omega
    · have hstop : n0 ≤ k ∨ (k < n0 ∧ 40 ≤ k) := by omega
      have CG1 := Lib.hid (p_go1 (size := 1 + (y : Int)) (HT1.out.quiet HS.out.q) HS.out hkl hk40 (by omega))
      have BWR := Lib.hid (HS.out.q.keep HBW.out (fun x => x))
      have BSR := Lib.hid (HS.out.q.keep HBS1.out (fun x => x))
      have QR := Lib.hid (HQ1.out.trans HS.out.q)
      have bw1 := blk_cell BWR.out 0
      have bwl1 := lt_of_heap BWR.out
      simp only [List.getElem?_toArray, List.getElem?_cons_zero] at bw1
      have hNl : (l0.take k).length = k := by rw [List.length_take]; omega
      have HNL := Lib.hid hNl; clear hNl
      have HTK := Lib.hid (show n0 ≤ k ∨ 40 ≤ k by omega)
      clear hc BW0 bwl
      rcases hstop with h3 | ⟨h3, h4⟩
      all_goals
        go_wp2_with (first
          | (go_at_call 9; (with_reducible refine CG1.out.mono ?_); rintro e w3 ⟨rfl, ht3, ho3, hs3⟩; have HT3 := Lib.hid ht3; have HO3 := Lib.hid ho3; have BW3 := Lib.hid (side_keep hs3 BWR.out (by decide)); have BS3 := Lib.hid (side_keep hs3 BSR.out (by decide)); have Q3 := Lib.hid (side_quiet QR.out HB.out hs3); have bw3 := blk_cell (side_keep hs3 BWR.out (by decide)) 0; have bwl3 := lt_of_heap (side_keep hs3 BWR.out (by decide)); simp only [List.getElem?_toArray, List.getElem?_cons_zero] at bw3; have CG2 := Lib.hid (p_go2 (size := 1 + (y : Int)) ht3 ho3 hkl hk40 (by omega)); clear ht3 ho3 hs3)
          | (go_at_call 9; (with_reducible refine CG2.out.mono ?_); rintro e w4 ⟨rfl, ht4, hs4⟩; have HP := Lib.hid (p_start (w0 := w) (bs := bs) (show 1 ≤ 1 + (y : Int) ∧ 1 + (y : Int) ≤ 8 by omega) (by have := HNL.out; omega) ht4 (side_keep hs4 BW3.out (by decide)) (side_keep hs4 BS3.out (by decide)) (side_quiet Q3.out HB.out hs4) HB.out rfl); clear ht4 hs4))
        have sms := And.intro sm1 sm2
        have HNL2 := Lib.hid (show (l0.take k).length ≤ 40 by have := HNL.out; omega)
        generalize (w4.alloc (.cells #[.int .i64 0] 3)).alloc (.cells #[.int .i64 0] 3) = w5 at HP ⊢
        generalize w4.heap.size + 1 = bo at HP ⊢
        generalize w4.heap.size = bi at HP ⊢
        generalize l0.take k = N at HP HSM HNL2
        clear BW3 BS3 Q3 bw3 bwl3 CG2 CG1 BWR BSR QR bw1 bwl1 HNL HTK HT1 HQ1 HBS1 HBW LBW HS
        go_loopw [16] (fun vj wr => ∃ j i1 j1, vj = .int .i64 (j : Nat) ∧ j ≤ 100 ∧ PAt w base p bw bi bo bs (1 + (y : Int)) N i1 j1 i1 j1 wr) (fun j _ => 100 - (intOf j).toNat)
        case atStart => exact ⟨0, 0, 0, rfl, by omega, HP.out⟩
        case round =>
          obtain ⟨j, i1, j1, rfl, hj, hp⟩ := hrel
          clear HP
          have HP := Lib.hid hp; clear hp
          by_cases hc : j < n1 ∧ j < 100
          · obtain ⟨hc1, hc2⟩ := hc
            have hd3 : decide ((j : Int) < (n1 : Int)) = true := by simpa using hc1
            have hd4 : decide ((j : Int) < 100) = true := by simp; omega
            obtain ⟨hl1', hcell⟩ := AR1.out
            obtain ⟨b1, o1, rfl, hb1, hcell1⟩ := hcell (by omega)
            obtain ⟨x, hx⟩ : ∃ x, l1[j]? = some x := ⟨_, List.getElem?_eq_getElem (by omega)⟩
            have q0 : wr.cell? ⟨b1, o1 + j, none⟩ = some (.bool x) := (HP.out.q.cell (p := ⟨b1, o1 + j, none⟩) hb1 (fun x => x)).trans (hcell1 j x hx)
            have q1 : b1 < wr.heap.size := Nat.lt_of_lt_of_le hb1 HP.out.q.size
            clear hl1' hcell hcell1 hx
            have j0 : (0 : Int) ≤ (j : Int) := by omega
            have j2 : (j : Int) < (n1 : Int) := by omega
            cases x
            · go_wp2_with (go_at_call 17; (with_reducible refine (pstep_at HP.out 0 (.inl rfl)).mono ?_); rintro e w6 ⟨rfl, s, c, i2, j2, hp2, _, _⟩; have HP2 := Lib.hid hp2; clear hp2)
              go_roundw
              case rel => exact ⟨j + 1, _, _, by go_num, by omega, HP2.out⟩
              case measure => simp [intOf]; omega
            · go_wp2_with (go_at_call 17; (with_reducible refine (pstep_at HP.out 1 (.inr rfl)).mono ?_); rintro e w6 ⟨rfl, s, c, i2, j2, hp2, _, _⟩; have HP2 := Lib.hid hp2; clear hp2)
              go_roundw
              case rel => exact ⟨j + 1, _, _, by go_num, by omega, HP2.out⟩
              case measure => simp [intOf]; omega
          · have hstop : n1 ≤ j ∨ (j < n1 ∧ 100 ≤ j) := by omega
            clear hc
            rcases hstop with h7 | ⟨h7, h8⟩
            all_goals
              go_wp2_with fail
              obtain ⟨w7, rfl⟩ : ∃ w7 : World, w7 = wr := ⟨_, rfl⟩
              go_loopw [18] (fun vr wx => ∃ r i1 j1, vr = .int .i64 (r : Nat) ∧ r ≤ 100 ∧ PAt w base p bw bi bo bs (1 + (y : Int)) N i1 j1 i1 j1 wx ∧ (N.length - i1) + (N.length - j1) ≤ 80 - r) (fun r _ => 100 - (intOf r).toNat)
              case atStart => exact ⟨0, _, _, rfl, by omega, HP.out, by have := HNL2.out; omega⟩
              case round =>
                obtain ⟨r, i1, j1, rfl, hr, hp, hm⟩ := hrel
                clear HP
                have HP := Lib.hid hp; clear hp
                have HM := Lib.hid hm; clear hm
                by_cases hr1 : r < 100
                · have hd9 : decide ((r : Int) < 100) = true := by simp; omega
                  go_wp2_with (first
                    | (go_at_call 17; (with_reducible refine (pstep_at HP.out 0 (.inl rfl)).mono ?_); rintro e w8 ⟨rfl, s, c, i2, j2, hp2, e0, a0⟩; have HP2 := Lib.hid hp2; have E0 := Lib.hid e0; have A0' := Lib.hid a0; clear hp2 e0 a0)
                    | (go_at_call 17; (with_reducible refine (pstep_at HP2.out 1 (.inr rfl)).mono ?_); rintro e w9 ⟨rfl, s', c', i3, j3, hp3, e1, a1⟩; have HP3 := Lib.hid hp3; have E1 := Lib.hid e1; have A1' := Lib.hid a1; clear hp3 e1 a1))
                  go_roundw
                  case rel => exact ⟨r + 1, _, _, by go_num, by omega, HP3.out, pipe_round HP.out.ix HP2.out.ix E0.out A0'.out E1.out A1'.out HM.out HNL2.out⟩
                  case measure => simp [intOf]; omega
                · have hr2 : r = 100 := by omega
                  subst hr2
                  have hd9 : decide (((100 : Nat) : Int) < 100) = false := by decide
                  clear hr1 hr
                  obtain ⟨e0, e1, e2⟩ := pipe_end HP.out.ix (by have := HM.out; omega)
                  rw [← HSM.out] at e2
                  have C0 := Lib.hid (fun (V : World) (hV : PAt w base p bw bi bo bs (1 + (y : Int)) N i1 j1 i1 j1 V) => tstate hV.rel 0)
                  have C1 := Lib.hid (fun (V : World) (hV : PAt w base p bw bi bo bs (1 + (y : Int)) N i1 j1 i1 j1 V) => tstate hV.rel 1)
                  have C2 := Lib.hid (fun (V : World) (hV : PAt w base p bw bi bo bs (1 + (y : Int)) N i1 j1 i1 j1 V) => thas hV.rel 1)
                  rw [e0] at C0
                  rw [e1] at C1
                  rw [e2] at C2
                  clear e0 e1 e2
                  obtain ⟨⟨x0, _, _, _⟩, ⟨x1, _, _, _⟩, _, _⟩ := HP.out.cells
                  obtain ⟨sm1, sm2⟩ := sms
                  go_wp2_with (first
                    | (go_at_call 11; (with_reducible refine (C0.out _ HP.out).mono ?_); rintro e w10 ⟨rfl, hq⟩; have H4 := Lib.hid (HP.out.quiet hq); obtain ⟨⟨y0, _, _, _⟩, ⟨y1, _, _, _⟩, _, _⟩ := (HP.out.quiet hq).cells; clear hq)
                    | (go_at_call 11; (with_reducible refine (C1.out _ H4.out).mono ?_); rintro e w11 ⟨rfl, hq⟩; have H5 := Lib.hid (H4.out.quiet hq); obtain ⟨⟨z0, _, _, _⟩, ⟨z1, _, _, _⟩, _, _⟩ := (H4.out.quiet hq).cells; clear hq)
                    | (go_at_call 12; (with_reducible refine (C2.out _ H5.out).mono ?_); rintro e w12 ⟨rfl, hq⟩; have H6 := Lib.hid (H5.out.quiet hq); clear hq))
                  go_ret
                  exact ⟨rfl, H6.out.q⟩
theorem pipes_law (w : World) (A0 : Option Addr) (n0 c0 : Nat) (l0 : List Int) (hnc0 : n0 ≤ c0) (hcm0 : c0 ≤ maxLen) (_ : A0 = none → n0 = 0 ∧ c0 = 0) (arg0 : IntsArg .i64 w A0 n0 l0) (sz : Int) (_ : (Lit.int .i64 sz).wf = true)
    (A1 : Option Addr) (n1 c1 : Nat) (l1 : List Bool) (hnc1 : n1 ≤ c1) (hcm1 : c1 ≤ maxLen) (_ : A1 = none → n1 = 0 ∧ c1 = 0) (arg1 : BoolsArg w A1 n1 l1) :
    Calls Try.prog 6 #[.slice A0 n0 c0, .int .i64 sz, .slice A1 n1 c1] w fun e w' => e = .returned (.bool true) ∧ Below w.heap.size w w' :=
  (pipes_walk w A0 n0 c0 l0 hnc0 hcm0 arg0 sz A1 n1 c1 l1 hnc1 hcm1 arg1).mono fun _ _ ⟨he, ho⟩ => ⟨he, ho.below (Nat.le_refl _) (fun _ x => x.elim)⟩
end Go.Proofs.Ytgdjbmfpbihopaa
