/-
  Remove. No conditions.
-/
import Derived.Test.YthhaaakabpnbnaaAdd
namespace Go.Proofs.Ythhaaakabpnbnaa
open Go.RowKit
set_option linter.unusedVariables false
set_option linter.unusedSimpArgs false

/-- Spans gathered in a row of the call's own, behind block 'base'. -/
structure Gath (base : Nat) (w wr : World) (v : Value) (L : List Sp) : Prop where
  own : wr.ownsRow base 28 2 v L.length (flat L)
  q : Quiet w wr
theorem Gath.start {w wr : World} (base : Nat) (hq : Quiet w wr) : Gath base w wr (.slice none 0 0) [] := ⟨World.ownsRow_nil _ _ _ _, hq⟩
theorem Gath.step {base : Nat} {w W w' : World} {v v' : Value} {L : List Sp} {y : Sp} (hb : w.heap.size ≤ base) (hq : Quiet w W) (hr : ∀ k, v.ownBlock = some k → base ≤ k ∧ k < W.heap.size) (hown : w'.ownsRow base 28 2 v' (L.length + 1) (flat L ++ [.int .i64 y.1, .int .i64 y.2])) (hg : W.grownBy w' v.ownBlock) : Gath base w w' v' (L ++ [y]) :=
  ⟨by rw [List.length_append, flat_app]; exact hown, hq.of_grown hg fun k hk hlt => absurd (hr k hk).1 (by omega)⟩
theorem grown_keep {W w' : World} {row : Option Nat} {q : Nat} {o : Obj} (hg : W.grownBy w' row) (hb : W.heap[q]? = some o) (hr : row ≠ some q) : w'.heap[q]? = some o := (hg.block q (lt_of_heap hb) (fun e => hr e.symm)).trans hb
theorem news_at {W : World} {g : Nat} (hg : g = W.heap.size) (a b : Int) : ∀ j u, [Value.int .i64 a, Value.int .i64 b][j]? = some u → (W.alloc (.cells #[.int .i64 a, .int .i64 b] 28)).cell? ((⟨g, 0, none⟩ : Addr).add j) = some u := by
  subst hg
  intro j u hj
  rw [Addr.add_lit, Nat.zero_add, blk_cell (blk_new W _) j, ← hj]
  match j with
  | 0 => rfl
  | 1 => rfl
  | j + 2 => rfl
theorem news_one (a b : Int) : ∀ u ∈ [Value.int .i64 a, Value.int .i64 b], u.oneCell' = true := by
  intro u hu
  simp only [List.mem_cons, List.not_mem_nil, or_false] at hu
  rcases hu with rfl | rfl <;> rfl
theorem Gath.sps {base : Nat} {w wr : World} {v : Value} {L : List Sp} (h : Gath base w wr v L) (hb : w.heap.size ≤ base) : ∃ A c, v = .slice A L.length c ∧ Sps wr A L.length c L ∧ Own w A := by
  obtain ⟨h1, h2⟩ := h.own
  rcases h2 with ⟨rfl, h3⟩ | ⟨g, cap, cur, rfl, h4, h5, h6, h7, h8, h9⟩
  · have : L = [] := List.eq_nil_of_length_eq_zero h3
    subst this
    exact ⟨none, 0, rfl, Sps.nil' _, Own.none _⟩
  · refine ⟨_, cap, rfl, ⟨rfl, h6, h7, fun e => (nomatch e), fun _ => ⟨g, 0, rfl, lt_of_heap h5, fun i x hx => ?_⟩⟩, fun k ⟨a, e, hk⟩ => ?_⟩
    · obtain ⟨f1, f2⟩ := flat_at hx
      have hi : i < L.length := (List.getElem?_eq_some_iff.1 hx).1
      rw [← h9, List.getElem?_take] at f1 f2
      rw [if_pos (by omega), Array.getElem?_toList] at f1 f2
      rw [Nat.zero_add]
      exact ⟨(blk_cell h5 _).trans f1, (blk_cell h5 _).trans f2⟩
    · obtain rfl := Option.some.inj e
      have hk : k = g := by first | exact hk | exact hk.symm
      omega
set_option maxHeartbeats 2000000 in
theorem remove_bad {w : World} {A : Option Addr} {n c : Nat} {l : List Sp} (h : Sps w A n c l) (s : Sp) (hok : okF l s = false) :
    Calls Try.prog 10 #[.slice A n c, .agg #[.int .i64 s.1, .int .i64 s.2]] w fun e w' => e = .returned (.tuple #[.slice none 0 0, .int .i64 2]) ∧ Quiet w w' := by
  have q1 : Quiet w (w.alloc (.cells #[.int .i64 s.1, .int .i64 s.2] 28)) := (Only.refl _ _).alloc _
  have b0 := blk_new w (.cells #[.int .i64 s.1, .int .i64 s.2] 28)
  have V := Lib.hid (valid_at (h.quiet q1))
  clear h
  cases hv : validF l with
  | false =>
    rw [hv] at V
    go_enter Try.func10, Try.ntmps10
    go_wp2_with (go_at_call 16; refine V.out.mono ?_; rintro e w2 ⟨rfl, hq2⟩; have HQ2 := Lib.hid hq2; clear hq2)
    go_ret2
    exact ⟨rfl, q1.trans HQ2.out⟩
  | true =>
    rw [hv] at V
    have hs : isSp s = false := by unfold okF at hok; rw [hv] at hok; simpa using hok
    have C := Lib.hid (fun w2 => is_at w2 s)
    rw [hs] at C
    have AT := Lib.hid (fun (w2 : World) (hq2 : Quiet (w.alloc (.cells #[.int .i64 s.1, .int .i64 s.2] 28)) w2) => show w2.cell? ⟨w.heap.size, 0, none⟩ = some (.int .i64 s.1) ∧ w2.cell? ⟨w.heap.size, 1, none⟩ = some (.int .i64 s.2) ∧ w.heap.size < w2.heap.size from ⟨blk_cell (hq2.keep b0 (fun x => x)) 0, blk_cell (hq2.keep b0 (fun x => x)) 1, lt_of_heap (hq2.keep b0 (fun x => x))⟩)
    clear b0
    go_enter Try.func10, Try.ntmps10
    go_wp2_with (first
      | (go_at_call 16; refine V.out.mono ?_; rintro e w2 ⟨rfl, hq2⟩; obtain ⟨t0, t1, t2⟩ := AT.out w2 hq2; have HQ2 := Lib.hid hq2; clear hq2)
      | (go_at_call 25; refine (C.out _).mono ?_; rintro e w3 ⟨rfl, hq3⟩; have HQ3 := Lib.hid hq3; clear hq3))
    go_ret2
    exact ⟨rfl, q1.trans (HQ2.out.trans HQ3.out)⟩
set_option maxHeartbeats 2000000 in
theorem remove_eq {w : World} {A : Option Addr} {n c : Nat} {l : List Sp} (h : Sps w A n c l) (s : Sp) (hok : okF l s = true) (he : s.1 = s.2) :
    Calls Try.prog 10 #[.slice A n c, .agg #[.int .i64 s.1, .int .i64 s.2]] w fun e w' => Res w (joinF l [] []) e w' := by
  have H := Lib.hid (head h s hok)
  have h32 := okF_len hok
  have hn := h.len
  have J := Lib.hid (fun (W : World) (hW : Quiet w W) => join_nil (h.quiet hW) (by omega))
  clear h
  have de : (s.1 == s.2) = true := by simpa using he
  clear he hok
  go_enter Try.func10, Try.ntmps10
  go_wp2_with (first
    | (go_at_call 16; refine (H.out.v _ (Only.refl _ _)).mono ?_; rintro e w2 ⟨rfl, hq2⟩; obtain ⟨t0, t1, t2⟩ := H.out.b w2 hq2; have HQ2 := Lib.hid hq2; clear hq2)
    | (go_at_call 25; refine (H.out.i _).mono ?_; rintro e w3 ⟨rfl, hq3⟩; have HQ3 := Lib.hid (HQ2.out.trans hq3); clear hq3; obtain ⟨t3, t4, t5⟩ := H.out.b w3 HQ3.out)
    | (go_at_call 26; refine (J.out _ (H.out.q _ HQ3.out)).mono ?_; rintro e w4 ⟨D, d, rfl, h1, h2, h3⟩; have F1 := Lib.hid h1; clear h1; have F2 := Lib.hid h2; clear h2; have F3 := Lib.hid h3; clear h3))
  go_ret2
  exact ⟨D, d, rfl, F1.out, fun k hk => Nat.le_trans (H.out.q _ HQ3.out).size (F2.out k hk), (H.out.q _ HQ3.out).trans F3.out⟩
theorem app_step {base : Nat} {w wr W w5 : World} {v v' : Value} {L : List Sp} {y : Sp} (hb : w.heap.size ≤ base) (ga : Gath base w wr v L) (hq : Quiet wr W)
    (hown : w5.ownsRow base 28 2 v' (L.length + 1) (flat L ++ [.int .i64 y.1, .int .i64 y.2])) (hg : W.grownBy w5 v.ownBlock) :
    Gath base w w5 v' (L ++ [y]) ∧ ∀ k o, W.heap[k]? = some o → (k < base ∨ wr.heap.size ≤ k) → w5.heap[k]? = some o := by
  refine ⟨Gath.step hb (ga.q.trans hq) (fun k hk => ⟨(ga.own.lt k hk).1, Nat.lt_of_lt_of_le (ga.own.lt k hk).2 hq.size⟩) hown hg, fun k o hk hd => grown_keep hg hk fun e => ?_⟩
  have := ga.own.lt k e
  omega
theorem pieces_len (s : Sp) : ∀ (l : List Sp) {k : Nat}, l.length ≤ k → (l.flatMap (pieces s)).length ≤ 2 * k
  | [], k, _ => by simp
  | x :: l, k, h => by
    have h1 := pieces_len s l (k := k - 1) (by simp at h; omega)
    have h2 : (pieces s x).length ≤ 2 := by unfold pieces; split <;> split <;> simp
    rw [List.flatMap_cons, List.length_append]
    simp at h
    omega
set_option maxHeartbeats 4000000 in
theorem remove_ne {w : World} {A : Option Addr} {n c : Nat} {l : List Sp} (h : Sps w A n c l) (s : Sp) (hok : okF l s = true) (he : s.1 ≠ s.2) :
    Calls Try.prog 10 #[.slice A n c, .agg #[.int .i64 s.1, .int .i64 s.2]] w fun e w' => Res w (joinF (aheadF l s) ((ownF l s).flatMap (pieces s)) (behindF l s)) e w' := by
  obtain ⟨i0, hi0, hz0, hz1, hz2⟩ := info_parts Try.row28
  have H := Lib.hid (head h s hok)
  have h32 := okF_len hok
  have hn := h.len
  have b0 := Lib.hid (blk_new w (.cells #[.int .i64 s.1, .int .i64 s.2] 28))
  have T := Lib.hid (fun (W : World) (hW : Quiet w W) => touched_at (h.quiet hW) s)
  have hpl := parts_len l s
  obtain ⟨hgood, _⟩ := validF_iff.1 (Bool.and_eq_true_iff.1 hok).1
  have CU := Lib.hid (cutt hgood s)
  obtain ⟨own, hown⟩ : ∃ own, own = ownF l s := ⟨_, rfl⟩
  rw [← hown] at T CU hpl
  have HOWN := Lib.hid hown; clear hown
  obtain ⟨m, hm⟩ : ∃ m, m = own.length := ⟨_, rfl⟩
  rw [← hm] at T hpl
  have hm32 : m ≤ 32 := by omega
  have HM := Lib.hid hm; clear hm
  have HH := Lib.hid h; clear h
  have HPL := Lib.hid hpl; clear hpl
  have de : (s.1 == s.2) = false := by simpa using he
  clear he hok hgood
  go_enter Try.func10, Try.ntmps10
  go_upto_region 7 with (first
    | (go_at_call 16; refine (H.out.v _ (Only.refl _ _)).mono ?_; rintro e w2 ⟨rfl, hq2⟩; obtain ⟨t0, t1, t2⟩ := H.out.b w2 hq2; have HQ2 := Lib.hid hq2; clear hq2)
    | (go_at_call 25; refine (H.out.i _).mono ?_; rintro e w3 ⟨rfl, hq3⟩; have HQ3 := Lib.hid (HQ2.out.trans hq3); clear hq3; obtain ⟨t3, t4, t5⟩ := H.out.b w3 HQ3.out)
    | (go_at_call 27; refine (T.out _ (H.out.q _ HQ3.out)).mono ?_; rintro e w4 ⟨A1, c1, A2, c2, A3, c3, rfl, h1, h4⟩; have FF := Lib.hid h1; clear h1; have HQ4 := Lib.hid (HQ3.out.trans h4); clear h4; obtain ⟨t6, t7, t8⟩ := H.out.b w4 HQ4.out))
  have B4 := Lib.hid (HQ4.out.keep b0.out (fun x => x))
  have Q4 := Lib.hid (H.out.q _ HQ4.out)
  clear t0 t1 t2 t3 t4 t5 t6 t7 t8 b0 T
  go_wp2
  go_loopw [9, 38] (fun v i wr => ∃ k : Nat, k ≤ m ∧ i = .int .i64 k ∧ Gath (w.heap.size + 1) w wr v ((own.take k).flatMap (pieces s)) ∧ wr.heap[w.heap.size]? = some (.cells #[.int .i64 s.1, .int .i64 s.2] 28 (0, 0))) (fun _ i _ => m - (intOf i).toNat)
  case atStart => exact ⟨0, by omega, rfl, Gath.start _ Q4.out, B4.out⟩
  case round =>
    obtain ⟨k, hk, rfl, hga, hb⟩ := hrel
    have b0 := blk_cell hb 0
    have b1 := blk_cell hb 1
    simp only [List.getElem?_toArray, List.getElem?_cons_zero, List.getElem?_cons_succ] at b0 b1
    have bs := lt_of_heap hb
    have HB := Lib.hid hb; clear hb
    have GA := Lib.hid hga; clear hga
    by_cases hc : k < m
    · have dd : decide ((k : Int) < (m : Int)) = true := by simpa using hc
      obtain ⟨_, x2, _⟩ := FF.out wr (HH.out.quiet GA.out.q)
      obtain ⟨b, o, rfl, hb2, hcell⟩ := x2.src (by omega)
      have hkl : k < own.length := by rw [← HM.out]; exact hc
      obtain ⟨x, hx⟩ : ∃ x, own[k]? = some x := ⟨_, List.getElem?_eq_getElem hkl⟩
      obtain ⟨c0, c1'⟩ := hcell k x hx
      have hmem := List.mem_of_getElem? hx
      have o1 := CU.out.own1 x hmem
      have o2 := CU.out.own2 x hmem
      have o3 := (CU.out.gO.ok x hmem).2.1
      have hle : ((own.take k).flatMap (pieces s)).length ≤ 2 * k := pieces_len s (own.take k) (by rw [List.length_take]; omega)
      have hst : (own.take (k + 1)).flatMap (pieces s) = (own.take k).flatMap (pieces s) ++ pieces s x := by rw [List.take_add_one, hx, List.flatMap_append]; simp
      have HST := Lib.hid hst; clear hst
      obtain ⟨L, hL⟩ : ∃ L, L = (own.take k).flatMap (pieces s) := ⟨_, rfl⟩
      rw [← hL] at HST GA hle
      clear hL hx hmem hcell x2 hkl
      have HO := Lib.hid GA.out.own
      have mn : (if s.1 < x.2 then s.1 else x.2) = s.1 := by split <;> omega
      have mx : (if x.1 < s.2 then s.2 else x.1) = s.2 := by split <;> omega
      by_cases p1 : x.1 < s.1
      · have d1 : decide (x.1 < s.1) = true := by simpa using p1
        by_cases p2 : s.2 < x.2
        · have d2 : decide (s.2 < x.2) = true := by simpa using p2
          have hp : pieces s x = [(x.1, s.1)] ++ [(s.2, x.2)] := by unfold pieces; rw [if_pos p1, if_pos p2, show min x.2 s.1 = s.1 by omega, show max x.1 s.2 = s.2 by omega]
          rw [hp, ← List.append_assoc] at HST
          clear hp
          have NW1 := Lib.hid (news_at (W := wr.alloc (.cells #[.int .i64 x.1, .int .i64 x.2] 28)) (g := wr.heap.size + 1) (by simp) x.1 s.1)
          go_wp2_with (at_builtin; refine wpList_append_own _ rfl (.tmp 47) (.tmp 56) 22 rfl (w.heap.size + 1) 28 i0 (.agg #[.int .i64 0, .int .i64 0]) 2 16 Try.underlying22 hi0 hz0 hz1 hz2 rfl (by decide) _ _ _ rfl ((HO.out.alloc _).alloc _) ⟨wr.heap.size + 1, 0, none⟩ 1 1 [.int .i64 x.1, .int .i64 s.1] rfl rfl NW1.out (news_one _ _) (by unfold maxLen; omega) (by omega) (by first | (simp; omega) | omega) ?_)
          intro v' w5 hown' hgrow' _
          obtain ⟨ga5, kp5⟩ := app_step (y := (x.1, s.1)) (Nat.le_succ _) GA.out (((Only.refl _ _).alloc _).alloc _) hown' hgrow'
          have xb := kp5 wr.heap.size _ (blk_alloc (blk_new wr _) _) (.inr (Nat.le_refl _))
          have sb := kp5 w.heap.size _ (blk_alloc (blk_alloc HB.out _) _) (.inl (by omega))
          have x0' := blk_cell xb 0
          have x1' := blk_cell xb 1
          have s0' := blk_cell sb 0
          have s1' := blk_cell sb 1
          simp only [List.getElem?_toArray, List.getElem?_cons_zero, List.getElem?_cons_succ] at x0' x1' s0' s1'
          have xs' := lt_of_heap xb
          have ss' := lt_of_heap sb
          have GA5 := Lib.hid ga5
          have SB := Lib.hid sb
          clear hown' hgrow' ga5 sb xb kp5
          have HO5 := Lib.hid GA5.out.own
          rw [show (L ++ [(x.1, s.1)]).length = L.length + 1 by simp] at HO5
          have NW2 := Lib.hid (news_at (W := w5) (g := w5.heap.size) rfl s.2 x.2)
          go_wp2_with (at_builtin; refine wpList_append_own _ rfl (.tmp 63) (.tmp 72) 22 rfl (w.heap.size + 1) 28 i0 (.agg #[.int .i64 0, .int .i64 0]) 2 16 Try.underlying22 hi0 hz0 hz1 hz2 rfl (by decide) _ _ _ rfl (HO5.out.alloc _) ⟨w5.heap.size, 0, none⟩ 1 1 [.int .i64 s.2, .int .i64 x.2] rfl rfl NW2.out (news_one _ _) (by unfold maxLen; omega) (by omega) (by first | (simp; omega) | omega) ?_)
          intro v6 w6 hown' hgrow' _
          obtain ⟨ga6, kp6⟩ := app_step (y := (s.2, x.2)) (Nat.le_succ _) GA5.out ((Only.refl _ _).alloc _) (by rw [show (L ++ [(x.1, s.1)]).length = L.length + 1 by simp]; exact hown') hgrow'
          have sb6 := kp6 w.heap.size _ (blk_alloc SB.out _) (.inl (by omega))
          have GA6 := Lib.hid ga6
          have SB6 := Lib.hid sb6
          clear hown' hgrow' ga6 sb6 kp6
          go_wp2
          go_roundw
          case rel => exact ⟨k + 1, by omega, by go_num, by rw [HST.out]; exact GA6.out, SB6.out⟩
          case measure => simp [intOf]; omega
        · have d2 : decide (s.2 < x.2) = false := by simpa using p2
          have hp : pieces s x = [(x.1, s.1)] := by unfold pieces; rw [if_pos p1, if_neg p2, show min x.2 s.1 = s.1 by omega]; rfl
          rw [hp] at HST
          clear hp
          have NW1 := Lib.hid (news_at (W := wr.alloc (.cells #[.int .i64 x.1, .int .i64 x.2] 28)) (g := wr.heap.size + 1) (by simp) x.1 s.1)
          go_wp2_with (at_builtin; refine wpList_append_own _ rfl (.tmp 47) (.tmp 56) 22 rfl (w.heap.size + 1) 28 i0 (.agg #[.int .i64 0, .int .i64 0]) 2 16 Try.underlying22 hi0 hz0 hz1 hz2 rfl (by decide) _ _ _ rfl ((HO.out.alloc _).alloc _) ⟨wr.heap.size + 1, 0, none⟩ 1 1 [.int .i64 x.1, .int .i64 s.1] rfl rfl NW1.out (news_one _ _) (by unfold maxLen; omega) (by omega) (by first | (simp; omega) | omega) ?_)
          intro v' w5 hown' hgrow' _
          obtain ⟨ga5, kp5⟩ := app_step (y := (x.1, s.1)) (Nat.le_succ _) GA.out (((Only.refl _ _).alloc _).alloc _) hown' hgrow'
          have xb := kp5 wr.heap.size _ (blk_alloc (blk_new wr _) _) (.inr (Nat.le_refl _))
          have sb := kp5 w.heap.size _ (blk_alloc (blk_alloc HB.out _) _) (.inl (by omega))
          have x0' := blk_cell xb 0
          have x1' := blk_cell xb 1
          have s0' := blk_cell sb 0
          have s1' := blk_cell sb 1
          simp only [List.getElem?_toArray, List.getElem?_cons_zero, List.getElem?_cons_succ] at x0' x1' s0' s1'
          have xs' := lt_of_heap xb
          have ss' := lt_of_heap sb
          have GA5 := Lib.hid ga5
          have SB := Lib.hid sb
          clear hown' hgrow' ga5 sb xb kp5
          go_wp2
          go_roundw
          case rel => exact ⟨k + 1, by omega, by go_num, by rw [HST.out]; exact GA5.out, SB.out⟩
          case measure => simp [intOf]; omega
      · have d1 : decide (x.1 < s.1) = false := by simpa using p1
        by_cases p2 : s.2 < x.2
        · have d2 : decide (s.2 < x.2) = true := by simpa using p2
          have hp : pieces s x = [(s.2, x.2)] := by unfold pieces; rw [if_neg p1, if_pos p2, show max x.1 s.2 = s.2 by omega]; rfl
          rw [hp] at HST
          clear hp
          have NW1 := Lib.hid (news_at (W := wr.alloc (.cells #[.int .i64 x.1, .int .i64 x.2] 28)) (g := wr.heap.size + 1) (by simp) s.2 x.2)
          go_wp2_with (at_builtin; refine wpList_append_own _ rfl (.tmp 63) (.tmp 72) 22 rfl (w.heap.size + 1) 28 i0 (.agg #[.int .i64 0, .int .i64 0]) 2 16 Try.underlying22 hi0 hz0 hz1 hz2 rfl (by decide) _ _ _ rfl ((HO.out.alloc _).alloc _) ⟨wr.heap.size + 1, 0, none⟩ 1 1 [.int .i64 s.2, .int .i64 x.2] rfl rfl NW1.out (news_one _ _) (by unfold maxLen; omega) (by omega) (by first | (simp; omega) | omega) ?_)
          intro v' w5 hown' hgrow' _
          obtain ⟨ga5, kp5⟩ := app_step (y := (s.2, x.2)) (Nat.le_succ _) GA.out (((Only.refl _ _).alloc _).alloc _) hown' hgrow'
          have xb := kp5 wr.heap.size _ (blk_alloc (blk_new wr _) _) (.inr (Nat.le_refl _))
          have sb := kp5 w.heap.size _ (blk_alloc (blk_alloc HB.out _) _) (.inl (by omega))
          have x0' := blk_cell xb 0
          have x1' := blk_cell xb 1
          have s0' := blk_cell sb 0
          have s1' := blk_cell sb 1
          simp only [List.getElem?_toArray, List.getElem?_cons_zero, List.getElem?_cons_succ] at x0' x1' s0' s1'
          have xs' := lt_of_heap xb
          have ss' := lt_of_heap sb
          have GA5 := Lib.hid ga5
          have SB := Lib.hid sb
          clear hown' hgrow' ga5 sb xb kp5
          go_wp2
          go_roundw
          case rel => exact ⟨k + 1, by omega, by go_num, by rw [HST.out]; exact GA5.out, SB.out⟩
          case measure => simp [intOf]; omega
        · have d2 : decide (s.2 < x.2) = false := by simpa using p2
          have hp : pieces s x = [] := by unfold pieces; rw [if_neg p1, if_neg p2]; rfl
          rw [hp, List.append_nil] at HST
          clear hp
          go_wp2
          go_roundw
          case rel => exact ⟨k + 1, by omega, by go_num, by rw [HST.out]; exact ⟨HO.out.alloc _, GA.out.q.alloc _⟩, blk_alloc HB.out _⟩
          case measure => simp [intOf]; omega
    · have dd : decide ((k : Int) < (m : Int)) = false := by simpa using hc
      have ht : own.take k = own := List.take_of_length_le (by have := HM.out; omega)
      rw [ht, HOWN.out] at GA
      have hlen : ((ownF l s).flatMap (pieces s)).length ≤ 2 * m := pieces_len s _ (by rw [← HOWN.out, HM.out]; exact Nat.le_refl _)
      obtain ⟨R, hR⟩ : ∃ R, R = (ownF l s).flatMap (pieces s) := ⟨_, rfl⟩
      rw [← hR] at GA hlen
      have HR := Lib.hid hR
      clear hR ht
      obtain ⟨AR, cr, rfl, r1, r2⟩ := GA.out.sps (Nat.le_succ _)
      obtain ⟨z1, _, z3⟩ := FF.out wr (HH.out.quiet GA.out.q)
      have J := Lib.hid (join_at z1 r1 z3 (by have := HPL.out; omega))
      clear r1 r2 z1 z3
      go_wp2_with (go_at_call 26; refine J.out.mono ?_; rintro e w6 ⟨D, d, rfl, h1, h2, h3⟩; have G1 := Lib.hid h1; clear h1; have G2 := Lib.hid h2; clear h2; have G3 := Lib.hid h3; clear h3)
      go_ret2
      rw [← HR.out]
      exact ⟨D, d, rfl, G1.out, fun j hj => Nat.le_trans GA.out.q.size (G2.out j hj), GA.out.q.trans G3.out⟩
theorem remove_at {w : World} {A : Option Addr} {n c : Nat} {l : List Sp} (h : Sps w A n c l) (s : Sp) :
    Calls Try.prog 10 #[.slice A n c, .agg #[.int .i64 s.1, .int .i64 s.2]] w fun e w' => Res w (removeF l s) e w' := by
  unfold removeF
  cases hok : okF l s with
  | false =>
    rw [if_pos rfl]
    refine (remove_bad h s hok).mono ?_
    rintro e w' ⟨rfl, hq⟩
    exact Res.bad hq
  | true =>
    rw [if_neg (by decide)]
    by_cases he : s.1 = s.2
    · rw [if_pos he]
      exact remove_eq h s hok he
    · rw [if_neg he]
      exact remove_ne h s hok he
end Go.Proofs.Ythhaaakabpnbnaa
