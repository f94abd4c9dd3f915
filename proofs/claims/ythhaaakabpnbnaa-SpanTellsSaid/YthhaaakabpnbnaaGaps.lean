/-
  Gaps. No conditions.
-/
import Derived.Test.YthhaaakabpnbnaaRemove
namespace Go.Proofs.Ythhaaakabpnbnaa
open Go.RowKit
set_option linter.unusedVariables false
set_option linter.unusedSimpArgs false

theorem row_slice {W : World} {base : Nat} {v : Value} {n : Nat} {xs : List Value} (h : W.ownsRow base 28 2 v (n + 1) xs) : ∃ g cap, v = .slice (some ⟨g, 0, none⟩) (n + 1) cap := by
  obtain ⟨_, ⟨_, h⟩ | ⟨g, cap, cur, h, _⟩⟩ := h
  · omega
  · exact ⟨g, cap, h⟩
theorem Gath.set {base : Nat} {w W : World} {v : Value} {L : List Sp} (h : Gath base w W v L) {p : Nat} (hp : w.heap.size ≤ p) (hpb : p < base) (u : Value) : Gath base w (W.setCell ⟨p, 0, none⟩ u) v L := by
  refine ⟨?_, h.q.setCell (fun q => absurd q (by show ¬ p < w.heap.size; omega)) _⟩
  obtain ⟨h1, h2⟩ := h.own
  refine ⟨h1, h2.imp_right ?_⟩
  rintro ⟨g, cap, cur, h3, h4, h5, h6⟩
  exact ⟨g, cap, cur, h3, h4, blk_far h5 (show g ≠ p by omega) u, h6⟩
set_option maxHeartbeats 2000000 in
theorem gapadd_at {base : Nat} {w W : World} {q p : Nat} {f t : Int} {v : Value} {L : List Sp} (hqw : w.heap.size ≤ q) (hpw : w.heap.size ≤ p) (hqp : q ≠ p) (hqb : q < base) (hpb : p < base) (hbW : base ≤ W.heap.size) (ga : Gath base w W v L)
    (hq : W.heap[q]? = some (.cells #[.int .i64 f, .int .i64 t] 28 (0, 0))) (hp : W.heap[p]? = some (.cells #[v] 22 (0, 0))) (hL : L.length ≤ 1000) (z : Int) :
    Calls Try.prog 29 #[.int .i64 z, .pointer (some ⟨q, 0, none⟩), .pointer (some ⟨p, 0, none⟩)] W fun e w' => e = .returned (.tuple #[]) ∧ ∃ v', Gath base w w' v' (L ++ gap f z) ∧
      w'.heap[q]? = some (.cells #[.int .i64 f, .int .i64 t] 28 (0, 0)) ∧ w'.heap[p]? = some (.cells #[v'] 22 (0, 0)) ∧ (∀ k o, W.heap[k]? = some o → k ≠ p → (k < base ∨ v.ownBlock ≠ some k) → w'.heap[k]? = some o) ∧ W.heap.size ≤ w'.heap.size := by
  obtain ⟨i0, hi0, hz0, hz1, hz2⟩ := info_parts Try.row28
  have q0 := blk_cell hq 0
  have q1 := blk_cell hq 1
  have p0 := blk_cell hp 0
  simp only [List.getElem?_toArray, List.getElem?_cons_zero, List.getElem?_cons_succ] at q0 q1 p0
  have qs := lt_of_heap hq
  have ps := lt_of_heap hp
  have HQ := Lib.hid hq; clear hq
  have HP := Lib.hid hp; clear hp
  have GA := Lib.hid ga; clear ga
  have HO := Lib.hid GA.out.own
  by_cases hf : f < z
  · have df : decide (f < z) = true := by simpa using hf
    have hg : gap f z = [(f, z)] := by unfold gap; rw [if_pos hf]
    rw [hg]
    clear hg
    have NW := Lib.hid (news_at (W := W) (g := W.heap.size) rfl f z)
    obtain ⟨A0, n0, c0, rfl⟩ : ∃ A0 n0 c0, v = .slice A0 n0 c0 := by
      obtain ⟨_, ⟨h, _⟩ | ⟨g, cap, cur, h, _⟩⟩ := HO.out
      · exact ⟨_, _, _, h⟩
      · exact ⟨_, _, _, h⟩
    go_enter Try.func29, Try.ntmps29
    go_wp2_with (at_builtin; refine wpList_append_own _ rfl (.tmp 8) (.tmp 13) 22 rfl base 28 i0 (.agg #[.int .i64 0, .int .i64 0]) 2 16 Try.underlying22 hi0 hz0 hz1 hz2 rfl (by decide) _ _ _ rfl (HO.out.alloc _) ⟨W.heap.size, 0, none⟩ 1 1 [.int .i64 f, .int .i64 z] rfl rfl NW.out (news_one _ _) (by unfold maxLen; omega) (by omega) (by first | (simp; omega) | omega) ?_)
    intro v' w5 hown' hgrow' _
    obtain ⟨g', cap', rfl⟩ := row_slice hown'
    obtain ⟨ga5, kp5⟩ := app_step (y := (f, z)) (by omega) GA.out ((Only.refl _ _).alloc _) hown' hgrow'
    have pb := kp5 p _ (blk_alloc HP.out _) (.inl hpb)
    have p0' := blk_cell pb 0
    have p1' := blk_frozen pb 0
    simp only [List.getElem?_toArray, List.getElem?_cons_zero] at p0'
    have ps' := lt_of_heap pb
    have PB := Lib.hid pb
    have GA5 := Lib.hid ga5
    have KP := Lib.hid (fun (k : Nat) (o : Obj) (hk : W.heap[k]? = some o) (hd : k < base ∨ (Value.slice A0 n0 c0).ownBlock ≠ some k) => show w5.heap[k]? = some o from grown_keep hgrow' (blk_alloc hk _) fun e => by
      have := HO.out.lt k e
      rcases hd with hd | hd
      · omega
      · exact hd e)
    have SZ := Lib.hid (show W.heap.size ≤ w5.heap.size from Nat.le_trans (by simp) hgrow'.size)
    clear hown' hgrow' ga5 pb kp5 p0 ps
    go_wp2
    go_end0
    have hne : ∀ k, k ≠ p → ∀ o, w5.heap[k]? = some o → (w5.setCell ⟨p, 0, none⟩ (.slice (some ⟨g', 0, none⟩) (L.length + 1) cap')).heap[k]? = some o := fun k hk o ho => blk_far ho (show k ≠ p from hk) _
    exact ⟨rfl, _, GA5.out.set hpw hpb _, hne q hqp _ (KP.out q _ HQ.out (.inl hqb)), blk_set PB.out 0 _, fun k o hk hkp hd => hne k hkp _ (KP.out k o hk hd), by have := SZ.out; simpa using this⟩
  · have df : decide (f < z) = false := by simpa using hf
    have hg : gap f z = [] := by unfold gap; rw [if_neg hf]
    rw [hg, List.append_nil]
    clear hg
    go_enter Try.func29, Try.ntmps29
    go_wp2
    go_end0
    exact ⟨rfl, v, GA.out, HQ.out, HP.out, fun k o hk _ _ => hk, Nat.le_refl _⟩
/-- A result: spans in a row of the call's own (or none). -/
def Res1 (w : World) (r : List Sp) (e : Ending) (w' : World) : Prop := ∃ D c, e = .returned (.slice D r.length c) ∧ Sps w' D r.length c r ∧ Own w D ∧ Quiet w w'
theorem Res1.nil {w w' : World} (hq : Quiet w w') : Res1 w [] (.returned (.slice none 0 0)) w' := ⟨none, 0, rfl, Sps.nil' _, Own.none _, hq⟩
set_option maxHeartbeats 2000000 in
theorem gaps_bad {w : World} {A : Option Addr} {n c : Nat} {l : List Sp} (h : Sps w A n c l) (s : Sp) (hok : okF l s = false) :
    Calls Try.prog 17 #[.slice A n c, .agg #[.int .i64 s.1, .int .i64 s.2]] w fun e w' => e = .returned (.slice none 0 0) ∧ Quiet w w' := by
  have q1 : Quiet w (w.alloc (.cells #[.int .i64 s.1, .int .i64 s.2] 28)) := (Only.refl _ _).alloc _
  have b0 := blk_new w (.cells #[.int .i64 s.1, .int .i64 s.2] 28)
  have V := Lib.hid (valid_at (h.quiet q1))
  clear h
  cases hv : validF l with
  | false =>
    rw [hv] at V
    go_enter Try.func17, Try.ntmps17
    go_wp2_with (go_at_call 16; refine V.out.mono ?_; rintro e w2 ⟨rfl, hq2⟩; have HQ2 := Lib.hid hq2; clear hq2)
    go_ret
    exact ⟨rfl, q1.trans HQ2.out⟩
  | true =>
    rw [hv] at V
    have hs : isSp s = false := by unfold okF at hok; rw [hv] at hok; simpa using hok
    have C := Lib.hid (fun w2 => is_at w2 s)
    rw [hs] at C
    have AT := Lib.hid (fun (w2 : World) (hq2 : Quiet (w.alloc (.cells #[.int .i64 s.1, .int .i64 s.2] 28)) w2) => show w2.cell? ⟨w.heap.size, 0, none⟩ = some (.int .i64 s.1) ∧ w2.cell? ⟨w.heap.size, 1, none⟩ = some (.int .i64 s.2) ∧ w.heap.size < w2.heap.size from ⟨blk_cell (hq2.keep b0 (fun x => x)) 0, blk_cell (hq2.keep b0 (fun x => x)) 1, lt_of_heap (hq2.keep b0 (fun x => x))⟩)
    clear b0
    go_enter Try.func17, Try.ntmps17
    go_wp2_with (first
      | (go_at_call 16; refine V.out.mono ?_; rintro e w2 ⟨rfl, hq2⟩; obtain ⟨t0, t1, t2⟩ := AT.out w2 hq2; have HQ2 := Lib.hid hq2; clear hq2)
      | (go_at_call 25; refine (C.out _).mono ?_; rintro e w3 ⟨rfl, hq3⟩; have HQ3 := Lib.hid hq3; clear hq3))
    go_ret
    exact ⟨rfl, q1.trans (HQ2.out.trans HQ3.out)⟩
set_option maxHeartbeats 4000000 in
theorem gaps_ok {w : World} {A : Option Addr} {n c : Nat} {l : List Sp} (h : Sps w A n c l) (s : Sp) (hok : okF l s = true) :
    Calls Try.prog 17 #[.slice A n c, .agg #[.int .i64 s.1, .int .i64 s.2]] w fun e w' => Res1 w (gapsG s.2 s.1 (ownF l s)) e w' := by
  have H := Lib.hid (head h s hok)
  have h32 := okF_len hok
  have hn := h.len
  have b0 := Lib.hid (blk_new w (.cells #[.int .i64 s.1, .int .i64 s.2] 28))
  have T := Lib.hid (fun (W : World) (hW : Quiet w W) => touched_at (h.quiet hW) s)
  have hpl := parts_len l s
  obtain ⟨own, hown⟩ : ∃ own, own = ownF l s := ⟨_, rfl⟩
  rw [← hown] at T hpl
  have HOWN := Lib.hid hown; clear hown
  obtain ⟨m, hm⟩ : ∃ m, m = own.length := ⟨_, rfl⟩
  rw [← hm] at T hpl
  have hm32 : m ≤ 32 := by omega
  have HM := Lib.hid hm; clear hm
  have HH := Lib.hid h; clear h
  clear hpl hok
  have mf := hmf
  go_enter Try.func17, Try.ntmps17
  go_upto_region 3 with (first
    | (go_at_call 16; refine (H.out.v _ (Only.refl _ _)).mono ?_; rintro e w2 ⟨rfl, hq2⟩; obtain ⟨t0, t1, t2⟩ := H.out.b w2 hq2; have HQ2 := Lib.hid hq2; clear hq2)
    | (go_at_call 25; refine (H.out.i _).mono ?_; rintro e w3 ⟨rfl, hq3⟩; have HQ3 := Lib.hid (HQ2.out.trans hq3); clear hq3; obtain ⟨t3, t4, t5⟩ := H.out.b w3 HQ3.out))
  have Q3 := Lib.hid ((H.out.q _ HQ3.out).alloc (.cells #[.slice none 0 0] 22))
  have B3 := Lib.hid (blk_alloc (HQ3.out.keep b0.out (fun x => x)) (.cells #[.slice none 0 0] 22))
  have P3 := Lib.hid (blk_new w3 (.cells #[.slice none 0 0] 22))
  obtain ⟨p, hp⟩ : ∃ p, p = w3.heap.size := ⟨_, rfl⟩
  have hpw : w.heap.size < p := by rw [hp]; exact t5
  rw [← hp] at P3
  have HP := Lib.hid hp; clear hp
  clear t0 t1 t2 b0
  go_upto_region 6 with (go_at_call 27; refine (T.out _ Q3.out).mono ?_; rintro e w4 ⟨A1, c1, A2, c2, A3, c3, rfl, h1, h4⟩; have FF := Lib.hid h1; clear h1; have HQ4 := Lib.hid h4; clear h4)
  have B4 := Lib.hid (HQ4.out.keep B3.out (fun x => x))
  have P4 := Lib.hid (HQ4.out.keep P3.out (fun x => x))
  have Q4 := Lib.hid (Q3.out.trans HQ4.out)
  rw [← HP.out]
  clear HP B3 P3 T t3 t4 t5
  have hbs : p + 1 ≤ w4.heap.size := lt_of_heap P4.out
  go_wp2
  go_loopw [30] (fun i wr => ∃ (k : Nat) (f : Int) (v : Value) (L : List Sp), k ≤ m ∧ i = .int .i64 k ∧ Gath (p + 1) w wr v L ∧ wr.heap[w.heap.size]? = some (.cells #[.int .i64 f, .int .i64 s.2] 28 (0, 0)) ∧ wr.heap[p]? = some (.cells #[v] 22 (0, 0)) ∧ p + 1 ≤ wr.heap.size ∧ L.length ≤ k ∧ gapsG s.2 s.1 own = L ++ gapsG s.2 f (own.drop k)) (fun i _ => m - (intOf i).toNat)
  case atStart => exact ⟨0, s.1, _, [], by omega, rfl, Gath.start _ Q4.out, B4.out, P4.out, hbs, Nat.le_refl _, rfl⟩
  case round =>
    obtain ⟨k, f, v, L, hk, rfl, hga, hb, hpb, hsz, hLk, heq⟩ := hrel
    have b0 := blk_cell hb 0
    have b1 := blk_cell hb 1
    have p0 := blk_cell hpb 0
    simp only [List.getElem?_toArray, List.getElem?_cons_zero, List.getElem?_cons_succ] at b0 b1 p0
    have bs := lt_of_heap hb
    have ps := lt_of_heap hpb
    have HB := Lib.hid hb; clear hb
    have HPB := Lib.hid hpb; clear hpb
    have GA := Lib.hid hga; clear hga
    have HE := Lib.hid heq; clear heq
    by_cases hc : k < m
    · have dd : decide ((k : Int) < (m : Int)) = true := by simpa using hc
      obtain ⟨_, x2, _⟩ := FF.out wr (HH.out.quiet GA.out.q)
      obtain ⟨b, o, rfl, hb2, hcell⟩ := x2.src (by omega)
      have hkl : k < own.length := by rw [← HM.out]; exact hc
      obtain ⟨x, hx⟩ : ∃ x, own[k]? = some x := ⟨_, List.getElem?_eq_getElem hkl⟩
      obtain ⟨c0, c1'⟩ := hcell k x hx
      have hd : own.drop k = x :: own.drop (k + 1) := by rw [List.drop_eq_getElem_cons hkl, (List.getElem?_eq_some_iff.1 hx).2]
      obtain ⟨z, hz⟩ : ∃ z, z = min x.1 s.2 := ⟨_, rfl⟩
      obtain ⟨y, hy⟩ : ∃ y, y = max f x.2 := ⟨_, rfl⟩
      obtain ⟨f', hf'⟩ : ∃ f', f' = min y s.2 := ⟨_, rfl⟩
      have mn : (if s.2 < x.1 then s.2 else x.1) = z := by rw [hz]; split <;> omega
      have mx : (if f < x.2 then x.2 else f) = y := by rw [hy]; split <;> omega
      have mn2 : (if s.2 < y then s.2 else y) = f' := by rw [hf']; split <;> omega
      have hst : gapsG s.2 f (own.drop k) = gap f z ++ gapsG s.2 f' (own.drop (k + 1)) := by rw [hd, hz, hf', hy]; rfl
      have HST := Lib.hid hst; clear hst
      have hgl : (gap f z).length ≤ 1 := by unfold gap; split <;> simp
      have HGL := Lib.hid hgl
      clear hx hcell x2 hkl hd hz hy hf' hgl
      have C := Lib.hid (gapadd_at (base := p + 1) (q := w.heap.size) (p := p) (f := f) (t := s.2) (Nat.le_refl _) (Nat.le_of_lt hpw) (Nat.ne_of_lt hpw) (by omega) (by omega) (W := wr.alloc (.cells #[.int .i64 x.1, .int .i64 x.2] 28)) (by simp; omega) ⟨GA.out.own.alloc _, GA.out.q.alloc _⟩ (blk_alloc HB.out _) (blk_alloc HPB.out _) (by omega) z)
      have XK := Lib.hid (show v.ownBlock ≠ some wr.heap.size from fun e => by have := GA.out.own.lt _ e; omega)
      go_upto_region 10 with (go_at_call 29; refine C.out.mono ?_; rintro e w5 ⟨rfl, v', g1, g2, g3, g4, g5⟩; have GA5 := Lib.hid g1; clear g1; have xb := g4 _ _ (blk_new wr _) (by omega) (.inr XK.out); clear g4; have HB5 := Lib.hid g2; have HP5 := Lib.hid g3; have XB := Lib.hid xb; have SZ := Lib.hid g5; clear g5 g3 g2 xb)
      have xb := XB.out
      have x0' := blk_cell xb 0
      have x1' := blk_cell xb 1
      have s0' := blk_cell HB5.out 0
      have s1' := blk_cell HB5.out 1
      simp only [List.getElem?_toArray, List.getElem?_cons_zero, List.getElem?_cons_succ] at x0' x1' s0' s1'
      have xs' := lt_of_heap xb
      have ss' := lt_of_heap HB5.out
      have sf' := blk_frozen HB5.out 0
      clear xb
      go_wp2
      go_roundw
      case rel => exact ⟨k + 1, f', v', L ++ gap f z, by omega, by go_num, GA5.out.set (Nat.le_refl _) (by omega) _, blk_set HB5.out 0 _, blk_far HP5.out (show p ≠ w.heap.size by omega) _, by have := lt_of_heap HP5.out; simp; omega, by rw [List.length_append]; have := HGL.out; omega, by rw [HE.out, HST.out, List.append_assoc]⟩
      case measure => simp [intOf]; omega
    · have dd : decide ((k : Int) < (m : Int)) = false := by simpa using hc
      have hd : own.drop k = [] := List.drop_eq_nil_of_le (by have := HM.out; omega)
      have he2 : gapsG s.2 s.1 (ownF l s) = L ++ gap f s.2 := by rw [← HOWN.out, HE.out, hd]; rfl
      have HE2 := Lib.hid he2
      clear he2 hd
      have C := Lib.hid (gapadd_at (base := p + 1) (q := w.heap.size) (p := p) (f := f) (t := s.2) (Nat.le_refl _) (Nat.le_of_lt hpw) (Nat.ne_of_lt hpw) (by omega) (by omega) (W := wr) hsz GA.out HB.out HPB.out (by omega) s.2)
      obtain ⟨R, hR⟩ : ∃ R, R = L ++ gap f s.2 := ⟨_, rfl⟩
      rw [← hR] at C HE2
      clear hR
      go_upto_region 13 with (go_at_call 29; refine C.out.mono ?_; rintro e w5 ⟨rfl, v', g1, g2, g3, g4, g5⟩; have GA5 := Lib.hid g1; clear g1 g4; have HP5 := Lib.hid g3; clear g5 g3 g2)
      have s0' := blk_cell HP5.out 0
      simp only [List.getElem?_toArray, List.getElem?_cons_zero] at s0'
      have ss' := lt_of_heap HP5.out
      obtain ⟨D, d, rfl, r1, r2⟩ := GA5.out.sps (by omega)
      have R1 := Lib.hid r1; clear r1
      have R2 := Lib.hid r2; clear r2
      go_wp2
      go_ret
      rw [HE2.out]
      exact ⟨D, d, rfl, R1.out, R2.out, GA5.out.q⟩
theorem gaps_at {w : World} {A : Option Addr} {n c : Nat} {l : List Sp} (h : Sps w A n c l) (s : Sp) :
    Calls Try.prog 17 #[.slice A n c, .agg #[.int .i64 s.1, .int .i64 s.2]] w fun e w' => Res1 w (gapsF l s) e w' := by
  unfold gapsF
  cases hok : okF l s with
  | false =>
    rw [if_pos rfl]
    refine (gaps_bad h s hok).mono ?_
    rintro e w' ⟨rfl, hq⟩
    exact Res1.nil hq
  | true =>
    rw [if_neg (by decide)]
    exact gaps_ok h s hok
end Go.Proofs.Ythhaaakabpnbnaa
