/-
  Cut. No conditions.
-/
import Derived.Test.YthhaaakabpnbnaaGaps
namespace Go.Proofs.Ythhaaakabpnbnaa
open Go.RowKit
set_option linter.unusedVariables false
set_option linter.unusedSimpArgs false

theorem clip_len (s : Sp) : ∀ (l : List Sp) {k : Nat}, l.length ≤ k → (l.flatMap (clip s)).length ≤ k
  | [], k, _ => by simp
  | x :: l, k, h => by
    have h1 := clip_len s l (k := k - 1) (by simp at h; omega)
    have h2 : (clip s x).length ≤ 1 := by unfold clip; split <;> simp
    rw [List.flatMap_cons, List.length_append]
    simp at h
    omega
set_option maxHeartbeats 2000000 in
theorem cut_bad {w : World} {A : Option Addr} {n c : Nat} {l : List Sp} (h : Sps w A n c l) (s : Sp) (hok : okF l s = false) :
    Calls Try.prog 18 #[.slice A n c, .agg #[.int .i64 s.1, .int .i64 s.2]] w fun e w' => e = .returned (.slice none 0 0) ∧ Quiet w w' := by
  have q1 : Quiet w (w.alloc (.cells #[.int .i64 s.1, .int .i64 s.2] 28)) := (Only.refl _ _).alloc _
  have b0 := blk_new w (.cells #[.int .i64 s.1, .int .i64 s.2] 28)
  have V := Lib.hid (valid_at (h.quiet q1))
  clear h
  cases hv : validF l with
  | false =>
    rw [hv] at V
    go_enter Try.func18, Try.ntmps18
    go_wp2_with (go_at_call 16; refine V.out.mono ?_; rintro e w2 ⟨rfl, hq2⟩; have HQ2 := Lib.hid hq2; clear hq2)
    go_ret
    exact ⟨rfl, q1.trans HQ2.out⟩
  | true =>
    rw [hv] at V
    have hs : isSp s = false := by unfold okF at hok; rw [hv] at hok; simpa using hok
    have C := Lib.hid (fun w2 => is_at w2 s)
    rw [hs] at C
    have AT := Lib.hid (fun (w2 : World) (hq2 : Quiet (w.alloc (.cells #[.int .i64 s.1, .int .i64 s.2] 28)) w2) => show w2.cell? ⟨w.heap.size, 0, none⟩ = some (.int .i64 s.1) ∧ w2.cell? ⟨w.heap.size, 1, none⟩ = some (.int .i64 s.2) ∧ w.heap.size < w2.heap.size from ⟨blk_cell (hq2.keep b0 (fun x => x)) 0, blk_cell (hq2.keep b0 (fun x => x)) 1, lt_of_heap (hq2.keep b0 (fun x => x))⟩)
    clear b0
    go_enter Try.func18, Try.ntmps18
    go_wp2_with (first
      | (go_at_call 16; refine V.out.mono ?_; rintro e w2 ⟨rfl, hq2⟩; obtain ⟨t0, t1, t2⟩ := AT.out w2 hq2; have HQ2 := Lib.hid hq2; clear hq2)
      | (go_at_call 25; refine (C.out _).mono ?_; rintro e w3 ⟨rfl, hq3⟩; have HQ3 := Lib.hid hq3; clear hq3))
    go_ret
    exact ⟨rfl, q1.trans (HQ2.out.trans HQ3.out)⟩
set_option maxHeartbeats 4000000 in
theorem cut_ok {w : World} {A : Option Addr} {n c : Nat} {l : List Sp} (h : Sps w A n c l) (s : Sp) (hok : okF l s = true) :
    Calls Try.prog 18 #[.slice A n c, .agg #[.int .i64 s.1, .int .i64 s.2]] w fun e w' => Res1 w ((ownF l s).flatMap (clip s)) e w' := by
  obtain ⟨i0, hi0, hz0, hz1, hz2⟩ := info_parts Try.row28
  have H := Lib.hid (head h s hok)
  have h32 := okF_len hok
  have hn := h.len
  have b0 := Lib.hid (blk_new w (.cells #[.int .i64 s.1, .int .i64 s.2] 28))
  have T := Lib.hid (fun (W : World) (hW : Quiet w W) => touched_at (h.quiet hW) s)
  have hpl := parts_len l s
  obtain ⟨own, hown⟩ : ∃ own, own = ownF l s := ⟨_, rfl⟩
  rw [← hown] at T hpl
  have HOWN := Lib.hid hown; clear hown
  obtain ⟨m, hm⟩ : ∃ m, m = own.length := ⟨_, rfl⟩
  rw [← hm] at T hpl
  have hm32 : m ≤ 32 := by omega
  have HM := Lib.hid hm; clear hm
  have HH := Lib.hid h; clear h
  clear hpl hok
  go_enter Try.func18, Try.ntmps18
  go_upto_region 5 with (first
    | (go_at_call 16; refine (H.out.v _ (Only.refl _ _)).mono ?_; rintro e w2 ⟨rfl, hq2⟩; obtain ⟨t0, t1, t2⟩ := H.out.b w2 hq2; have HQ2 := Lib.hid hq2; clear hq2)
    | (go_at_call 25; refine (H.out.i _).mono ?_; rintro e w3 ⟨rfl, hq3⟩; have HQ3 := Lib.hid (HQ2.out.trans hq3); clear hq3; obtain ⟨t3, t4, t5⟩ := H.out.b w3 HQ3.out)
    | (go_at_call 27; refine (T.out _ (H.out.q _ HQ3.out)).mono ?_; rintro e w4 ⟨A1, c1, A2, c2, A3, c3, rfl, h1, h4⟩; have FF := Lib.hid h1; clear h1; have HQ4 := Lib.hid (HQ3.out.trans h4); clear h4; obtain ⟨t6, t7, t8⟩ := H.out.b w4 HQ4.out))
  have B4 := Lib.hid (HQ4.out.keep b0.out (fun x => x))
  have Q4 := Lib.hid (H.out.q _ HQ4.out)
  clear t0 t1 t2 t3 t4 t5 t6 t7 t8 b0 T
  go_wp2
  go_loopw [5, 28] (fun v i wr => ∃ k : Nat, k ≤ m ∧ i = .int .i64 k ∧ Gath (w.heap.size + 1) w wr v ((own.take k).flatMap (clip s)) ∧ wr.heap[w.heap.size]? = some (.cells #[.int .i64 s.1, .int .i64 s.2] 28 (0, 0))) (fun _ i _ => m - (intOf i).toNat)
  case atStart => exact ⟨0, by omega, rfl, Gath.start _ Q4.out, B4.out⟩
  case round =>
    obtain ⟨k, hk, rfl, hga, hb⟩ := hrel
    have b0 := blk_cell hb 0
    have b1 := blk_cell hb 1
    simp only [List.getElem?_toArray, List.getElem?_cons_zero, List.getElem?_cons_succ] at b0 b1
    have bs := lt_of_heap hb
    have HB := Lib.hid hb; clear hb
    have GA := Lib.hid hga; clear hga
    by_cases hc : k < m
    · have dd : decide ((k : Int) < (m : Int)) = true := by simpa using hc
      obtain ⟨_, x2, _⟩ := FF.out wr (HH.out.quiet GA.out.q)
      obtain ⟨b, o, rfl, hb2, hcell⟩ := x2.src (by omega)
      have hkl : k < own.length := by rw [← HM.out]; exact hc
      obtain ⟨x, hx⟩ : ∃ x, own[k]? = some x := ⟨_, List.getElem?_eq_getElem hkl⟩
      obtain ⟨c0, c1'⟩ := hcell k x hx
      have hle : ((own.take k).flatMap (clip s)).length ≤ k := clip_len s (own.take k) (by rw [List.length_take]; omega)
      have hst : (own.take (k + 1)).flatMap (clip s) = (own.take k).flatMap (clip s) ++ clip s x := by rw [List.take_add_one, hx, List.flatMap_append]; simp
      have HST := Lib.hid hst; clear hst
      obtain ⟨L, hL⟩ : ∃ L, L = (own.take k).flatMap (clip s) := ⟨_, rfl⟩
      rw [← hL] at HST GA hle
      clear hL hx hcell x2 hkl
      have HO := Lib.hid GA.out.own
      obtain ⟨lo, hlo⟩ : ∃ lo, lo = max x.1 s.1 := ⟨_, rfl⟩
      obtain ⟨hi, hhi⟩ : ∃ hi, hi = min x.2 s.2 := ⟨_, rfl⟩
      have mx : (if x.1 < s.1 then s.1 else x.1) = lo := by rw [hlo]; split <;> omega
      have mn : (if s.2 < x.2 then s.2 else x.2) = hi := by rw [hhi]; split <;> omega
      have hcl : clip s x = if lo < hi then [(lo, hi)] else [] := by rw [hlo, hhi]; rfl
      rw [hcl] at HST
      clear hcl hlo hhi
      go_upto_region 8 with (fail)
      go_region
      go_upto_region 9 with (fail)
      by_cases hlh : lo < hi
      · have dl : decide (lo < hi) = true := by simpa using hlh
        rw [if_pos hlh] at HST
        have NW := Lib.hid (news_at (W := (wr.alloc (.cells #[.int .i64 lo, .int .i64 hi] 28)).drew) (g := wr.heap.size + 1) (by simp) lo hi)
        go_wp2_with (at_builtin; refine wpList_append_own _ rfl (.tmp 49) (.tmp 51) 22 rfl (w.heap.size + 1) 28 i0 (.agg #[.int .i64 0, .int .i64 0]) 2 16 Try.underlying22 hi0 hz0 hz1 hz2 rfl (by decide) _ _ _ rfl (((HO.out.alloc _).drew).alloc _) ⟨wr.heap.size + 1, 0, none⟩ 1 1 [.int .i64 lo, .int .i64 hi] rfl rfl NW.out (news_one _ _) (by unfold maxLen; omega) (by omega) (by first | (simp; omega) | omega) ?_)
        intro v' w5 hown' hgrow' _
        obtain ⟨ga5, kp5⟩ := app_step (y := (lo, hi)) (Nat.le_succ _) GA.out ((Only.drew ((Only.refl _ _).alloc _)).alloc _) hown' hgrow'
        have sb := kp5 w.heap.size _ (blk_alloc (show ((wr.alloc (.cells #[.int .i64 lo, .int .i64 hi] 28)).drew).heap[w.heap.size]? = _ from blk_alloc HB.out _) _) (.inl (by omega))
        have GA5 := Lib.hid ga5
        have SB := Lib.hid sb
        clear hown' hgrow' ga5 sb kp5
        go_wp2
        go_roundw
        case rel => exact ⟨k + 1, by omega, by go_num, by rw [HST.out]; exact GA5.out, SB.out⟩
        case measure => simp [intOf]; omega
      · have dl : decide (lo < hi) = false := by simpa using hlh
        rw [if_neg hlh, List.append_nil] at HST
        go_wp2
        go_roundw
        case rel => exact ⟨k + 1, by omega, by go_num, by rw [HST.out]; exact ⟨(HO.out.alloc _).drew, Only.drew (GA.out.q.alloc _)⟩, blk_alloc HB.out _⟩
        case measure => simp [intOf]; omega
    · have dd : decide ((k : Int) < (m : Int)) = false := by simpa using hc
      have ht : own.take k = own := List.take_of_length_le (by have := HM.out; omega)
      rw [ht, HOWN.out] at GA
      obtain ⟨R, hR⟩ : ∃ R, R = (ownF l s).flatMap (clip s) := ⟨_, rfl⟩
      rw [← hR] at GA
      have HR := Lib.hid hR
      clear hR ht
      obtain ⟨AR, cr, rfl, r1, r2⟩ := GA.out.sps (Nat.le_succ _)
      have R1 := Lib.hid r1; clear r1
      have R2 := Lib.hid r2; clear r2
      go_wp2
      go_ret
      rw [← HR.out]
      exact ⟨AR, cr, rfl, R1.out, R2.out, GA.out.q⟩
theorem cut_at {w : World} {A : Option Addr} {n c : Nat} {l : List Sp} (h : Sps w A n c l) (s : Sp) :
    Calls Try.prog 18 #[.slice A n c, .agg #[.int .i64 s.1, .int .i64 s.2]] w fun e w' => Res1 w (cutF l s) e w' := by
  unfold cutF
  cases hok : okF l s with
  | false =>
    rw [if_pos rfl]
    refine (cut_bad h s hok).mono ?_
    rintro e w' ⟨rfl, hq⟩
    exact Res1.nil hq
  | true =>
    rw [if_neg (by decide)]
    exact cut_ok h s hok
end Go.Proofs.Ythhaaakabpnbnaa
