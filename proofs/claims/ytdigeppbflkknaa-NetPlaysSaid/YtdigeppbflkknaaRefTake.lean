/-
  The reference's Take. No conditions.
-/
import Derived.Test.YtdigeppbflkknaaRefSend
namespace Go.Proofs.Ytdigeppbflkknaa
open Go.RowKit
set_option linter.unusedVariables false
set_option linter.unusedSimpArgs false

theorem bytes_drop (l : List UInt8) (k : Nat) : (bytes l).drop k = bytes (l.drop k) := by simp [bytes]
theorem RPost.size {base : Nat} {w wr w' : World} {p : Nat} {ys : List (RW × Wire)} {xs : List Wire} (h : RPost base w wr p ys xs w') : wr.heap.size ≤ w'.heap.size := by
  obtain ⟨_, _, _, _, h⟩ := h
  exact h.only.size
theorem App.drew {W0 w3 : World} {S : Nat → Prop} (h : Only S W0.drew w3) : Only S W0 w3 := (Only.drew (Only.refl _ _)).trans h
theorem take0_mid {base : Nat} {w wr W : World} {p g cap N : Nat} {ys : List (RW × Wire)} (h : RNet base w wr p (.slice (some ⟨g, 0, none⟩) N cap) ys) (hN : N = ys.length) (hq : Quiet wr W) {i : Nat} {y : RW × Wire} (hy : ys[i]? = some y) (hlo : y.2.lost = false) {A1 : Option Addr} {c1 nm k : Nat}
    (hk : k ≤ y.2.q0.length) (enm : nm = y.2.q0.length - k) (hs2 : Sl W 5 A1 nm c1 (bytes (y.2.q0.drop k))) (hr : ∀ k, RowOf A1 k → wr.heap.size ≤ k) :
    RPost base w wr p ys ((wires ys).set i (y.2.setQ 0 (y.2.q0.drop k))) (W.setCell ⟨g, i * 5, none⟩ (.slice A1 nm c1)) ∧ Sl (W.setCell ⟨g, i * 5, none⟩ (.slice A1 nm c1)) 5 y.1.A0 k y.1.c0 (bytes (y.2.q0.take k)) := by
  subst hN enm
  have h2 := h.quiet hq
  obtain ⟨hs0, hs1⟩ := h2.sl y (List.mem_of_getElem? hy)
  obtain ⟨cur, hg⟩ := h2.gside.2
  refine ⟨?_, ?_⟩
  · obtain ⟨h1, h2, h3⟩ := h.turn1 hq hy ({ y.1 with A0 := A1, c0 := c1 }, y.2.setQ 0 (y.2.q0.drop k)) 0 (.slice A1 (y.2.q0.length - k) c1) (by decide) (by simp [rcells, Wire.setQ]) ⟨by simpa [Wire.setQ] using hs2, by simpa [Wire.setQ] using hs1⟩ (fun e => by have e : y.2.lost = true := (by simpa [Wire.setQ] using e); rw [hlo] at e; cases e) (fun k hk => hk.elim (fun hk => .inr (hr k hk)) (fun hk => .inl (rb_at hy (.inr hk))))
    exact ⟨_, _, h1, h2, h3⟩
  · have := hs0.take hk
    rw [bytes_take] at this
    refine this.only (Only.setCell (S := (· = g)) (Only.refl _ _) (fun _ => rfl) _) (fun k hk e => ?_)
    obtain ⟨cu, hc⟩ := hs0.type hk
    subst e
    exact blk_ne hc hg (by decide) rfl
theorem take1_mid {base : Nat} {w wr W : World} {p g cap N : Nat} {ys : List (RW × Wire)} (h : RNet base w wr p (.slice (some ⟨g, 0, none⟩) N cap) ys) (hN : N = ys.length) (hq : Quiet wr W) {i : Nat} {y : RW × Wire} (hy : ys[i]? = some y) (hlo : y.2.lost = false) {A1 : Option Addr} {c1 nm k : Nat}
    (hk : k ≤ y.2.q1.length) (enm : nm = y.2.q1.length - k) (hs2 : Sl W 5 A1 nm c1 (bytes (y.2.q1.drop k))) (hr : ∀ k, RowOf A1 k → wr.heap.size ≤ k) :
    RPost base w wr p ys ((wires ys).set i (y.2.setQ 1 (y.2.q1.drop k))) (W.setCell ⟨g, i * 5 + 1, none⟩ (.slice A1 nm c1)) ∧ Sl (W.setCell ⟨g, i * 5 + 1, none⟩ (.slice A1 nm c1)) 5 y.1.A1 k y.1.c1 (bytes (y.2.q1.take k)) := by
  subst hN enm
  have h2 := h.quiet hq
  obtain ⟨hs0, hs1⟩ := h2.sl y (List.mem_of_getElem? hy)
  obtain ⟨cur, hg⟩ := h2.gside.2
  refine ⟨?_, ?_⟩
  · obtain ⟨h1, h2, h3⟩ := h.turn1 hq hy ({ y.1 with A1 := A1, c1 := c1 }, y.2.setQ 1 (y.2.q1.drop k)) 1 (.slice A1 (y.2.q1.length - k) c1) (by decide) (by simp [rcells, Wire.setQ]) ⟨by simpa [Wire.setQ] using hs0, by simpa [Wire.setQ] using hs2⟩ (fun e => by have e : y.2.lost = true := (by simpa [Wire.setQ] using e); rw [hlo] at e; cases e) (fun k hk => hk.elim (fun hk => .inl (rb_at hy (.inl hk))) (fun hk => .inr (hr k hk)))
    exact ⟨_, _, h1, h2, h3⟩
  · have := hs1.take hk
    rw [bytes_take] at this
    refine this.only (Only.setCell (S := (· = g)) (Only.refl _ _) (fun _ => rfl) _) (fun k hk e => ?_)
    obtain ⟨cu, hc⟩ := hs1.type hk
    subst e
    exact blk_ne hc hg (by decide) rfl
set_option maxHeartbeats 8000000 in
theorem rtake0_ok {base : Nat} {w wr : World} {p g cap N : Nat} {ys : List (RW × Wire)} (h : RNet base w wr p (.slice (some ⟨g, 0, none⟩) N cap) ys) (hN : N = ys.length) {i : Nat} {y : RW × Wire} (hy : ys[i]? = some y) (hlo : y.2.lost = false) (most : Int) (hm : 0 ≤ most) (hn1 : y.2.q0.length ≤ 1048576)
    (k : Nat) (hk : k ≤ y.2.q0.length) (hkm : (most = k) ∨ ((y.2.q0.length : Int) < most ∧ k = y.2.q0.length)) :
    Calls Try.prog 17 #[.pointer (some ⟨p, 0, none⟩), .int .i64 ((i : Int) + 1), .int .i64 0, .int .i64 most] wr fun e w' => ∃ A c, e = .returned (.tuple #[.slice A k c, .int .i64 0]) ∧ Sl w' 5 A k c (bytes (y.2.q0.take k)) ∧ (∀ k, RowOf A k → wr.heap.size ≤ k) ∧ RPost base w wr p ys ((wires ys).set i (y.2.setQ 0 (y.2.q0.drop k))) w' := by
  have W := Lib.hid (wrong_at h ((i : Int) + 1) 0)
  rw [at_ok (wires_at hy) (by omega), hlo] at W
  obtain ⟨i0, hi0, hz0, hz1, hz2⟩ := info_parts Try.info5
  have hsm := h.small
  have hi : i < ys.length := (List.getElem?_eq_some_iff.1 hy).1
  obtain ⟨g', cap', hgc, hcap, hcm, gs, ps, hf⟩ := h.facts hy
  simp only [Value.slice.injEq, Option.some.injEq, Addr.mk.injEq] at hgc
  obtain ⟨⟨rfl, -⟩, -, rfl⟩ := hgc
  unfold maxLen at hcm
  have hsl := (h.sl y (List.mem_of_getElem? hy)).1
  have hle := hsl.le
  have hcl := hsl.capLe
  unfold maxLen at hcl
  clear hsl
  have HF := Lib.hid hf; clear hf
  have HY := Lib.hid hy; clear hy
  have H := Lib.hid h; clear h
  have HN := Lib.hid hN
  rw [← hN] at HF hi hsm hcap
  clear hN
  have i0' : (0 : Int) ≤ (i : Int) := by omega
  have i1' : (i : Int) < (N : Int) := by omega
  have SQ := Lib.hid (fun (W : World) (hW : Quiet wr W) => ((H.out.quiet hW).sl y (List.mem_of_getElem? HY.out)).1)
  obtain ⟨n, hn⟩ : ∃ n, n = y.2.q0.length := ⟨_, rfl⟩
  rw [← hn] at HF SQ hk hkm hle hn1
  have HNN := Lib.hid hn; clear hn
  have iw : IntKind.i64.wrap (i : Int) = (i : Int) := by rw [IntKind.wrap_i64]; omega
  have dm : decide (most < 0) = false := by simp; omega
  obtain ⟨A, hA⟩ : ∃ A, A = y.1.A0 := ⟨_, rfl⟩
  obtain ⟨c, hc⟩ : ∃ c, c = y.1.c0 := ⟨_, rfl⟩
  rw [← hA] at HF SQ
  rw [← hc] at HF SQ hle hcl
  have HA := Lib.hid hA; clear hA
  have HC := Lib.hid hc; clear hc
  have SC := Lib.hid (fun (W : World) (hW : Quiet wr W) => bytes_drop y.2.q0 k ▸ (SQ.out W hW).cut hk)
  rcases hkm with rfl | ⟨hkm, rfl⟩
  · skip
    have dk : decide ((n : Int) < (k : Int)) = false := by simp; omega
    go_enter Try.func17, Try.ntmps17
    go_wp2_with (first
      | (go_at_call 28; refine W.out.mono ?_; rintro e w2 ⟨rfl, hq⟩; have Q2 := Lib.hid hq; clear hq; obtain ⟨t0, ⟨t1, t2, t3, t4, t5⟩, t6, t7, t8, t9⟩ := HF.out w2 Q2.out; rw [hlo] at t5; have t10 := t8 (i * 5); clear t8))
    go_region_law (refine step_append_sl _ rfl (.tmp 50) (.tmp 53) 22 rfl 5 i0 (.int .u8 0) 1 Try.underlying22 hi0 hz0 hz1 hz2 rfl (some ⟨w2.heap.size + 1, 0, none⟩) 0 0 [] rfl (Sl.empty (cur := #[]) (by repeat (first | exact blk_new' _ _ (by simp) | refine blk_drew ?_))) _ _ _ (bytes (y.2.q0.drop k)) rfl (by rw [bytes_len, List.length_drop]; have := HNN.out; omega) (SC.out _ (Q2.out.trans (Only.drew (((Only.refl _ _).alloc _).alloc _)))).src (SC.out _ Q2.out).src' (bytes_one _) (by unfold maxLen; omega) (by omega) ?_
                   intro A1 c1 w3 hs3 ho3 hr3
                   rw [Nat.zero_add] at hs3 ⊢
                   rw [List.nil_append] at hs3
                   have HS3 := Lib.hid hs3
                   obtain ⟨hq3, hr4⟩ := one_app (by simp) (App.drew ho3) hr3
                   have q3 := Q2.out.trans (Only.trans ((Only.refl _ _).alloc _) hq3)
                   have hr5 : ∀ k, RowOf A1 k → wr.heap.size ≤ k := fun k hk => by
                     have h1 := hr4 k hk
                     have h2 := Q2.out.size
                     simp at h1
                     omega
                   have Q3 := Lib.hid q3
                   have R5 := Lib.hid hr5
                   clear hs3 ho3 hr3 hq3 hr4 q3 hr5 t0 t1 t2 t3 t4 t5 t6 t7 t9 t10
                   obtain ⟨t0, ⟨t1, t2, t3, t4, t5⟩, t6, t7, t8, t9⟩ := HF.out w3 Q3.out
                   have t10 := t8 (i * 5)
                   clear t8)
    all_goals
      obtain ⟨hp, hs4⟩ := take0_mid H.out HN.out Q3.out HY.out hlo (k := k) (by have := HNN.out; omega) (by have := HNN.out; omega) HS3.out R5.out
      rw [← HA.out, ← HC.out] at hs4
      have HP := Lib.hid hp; clear hp
      have HS4 := Lib.hid hs4; clear hs4
      generalize hX : w3.setCell _ _ = X at HP HS4 ⊢
      go_wp2_with (at_builtin; refine wpList_append_sl _ rfl (.tmp 70) (.tmp 73) 22 rfl 5 i0 (.int .u8 0) 1 Try.underlying22 hi0 hz0 hz1 hz2 rfl (some ⟨X.heap.size, 0, none⟩) 0 0 [] rfl (Sl.empty (cur := #[]) (blk_new' _ _ rfl)) A k c (bytes (y.2.q0.take k)) rfl (by rw [bytes_len, List.length_take, ← HNN.out]; omega) (HS4.out.alloc _).src HS4.out.src' (bytes_one _) (by unfold maxLen; omega) (by omega) ?_; intro A2 c2 w4 hs5 ho5 hr5; rw [Nat.zero_add] at hs5 ⊢; rw [List.nil_append] at hs5; have HS5 := Lib.hid hs5; obtain ⟨hq5, hr6⟩ := one_app rfl ho5 hr5; have Q5 := Lib.hid hq5; have R6 := Lib.hid hr6; clear hs5 ho5 hr5 hq5 hr6)
      all_goals exact bodyPost_ret (v := .tuple #[.slice A2 k c2, .int .i64 0]) (by simp [results, Try.results17, go_sem]) rfl ⟨A2, c2, rfl, HS5.out, fun j hj => Nat.le_trans HP.out.size (R6.out j hj), HP.out.quiet Q5.out⟩
  · have SC0 := SC.out
    rw [Nat.sub_self] at SC0
    clear SC
    have SC := Lib.hid SC0; clear SC0
    have dk : decide ((k : Int) < most) = true := by simp; omega
    go_enter Try.func17, Try.ntmps17
    go_wp2_with (first
      | (go_at_call 28; refine W.out.mono ?_; rintro e w2 ⟨rfl, hq⟩; have Q2 := Lib.hid hq; clear hq; obtain ⟨t0, ⟨t1, t2, t3, t4, t5⟩, t6, t7, t8, t9⟩ := HF.out w2 Q2.out; rw [hlo] at t5; have t10 := t8 (i * 5); clear t8))
    go_region_law (refine step_append_sl _ rfl (.tmp 50) (.tmp 53) 22 rfl 5 i0 (.int .u8 0) 1 Try.underlying22 hi0 hz0 hz1 hz2 rfl (some ⟨w2.heap.size + 1, 0, none⟩) 0 0 [] rfl (Sl.empty (cur := #[]) (by repeat (first | exact blk_new' _ _ (by simp) | refine blk_drew ?_))) _ _ _ (bytes (y.2.q0.drop k)) rfl (by rw [bytes_len, List.length_drop]; have := HNN.out; omega) (SC.out _ (Q2.out.trans (Only.drew (((Only.refl _ _).alloc _).alloc _)))).src (SC.out _ Q2.out).src' (bytes_one _) (by unfold maxLen; omega) (by omega) ?_
                   intro A1 c1 w3 hs3 ho3 hr3
                   rw [Nat.zero_add] at hs3 ⊢
                   rw [List.nil_append] at hs3
                   have HS3 := Lib.hid hs3
                   obtain ⟨hq3, hr4⟩ := one_app (by simp) (App.drew ho3) hr3
                   have q3 := Q2.out.trans (Only.trans ((Only.refl _ _).alloc _) hq3)
                   have hr5 : ∀ k, RowOf A1 k → wr.heap.size ≤ k := fun k hk => by
                     have h1 := hr4 k hk
                     have h2 := Q2.out.size
                     simp at h1
                     omega
                   have Q3 := Lib.hid q3
                   have R5 := Lib.hid hr5
                   clear hs3 ho3 hr3 hq3 hr4 q3 hr5 t0 t1 t2 t3 t4 t5 t6 t7 t9 t10
                   obtain ⟨t0, ⟨t1, t2, t3, t4, t5⟩, t6, t7, t8, t9⟩ := HF.out w3 Q3.out
                   have t10 := t8 (i * 5)
                   clear t8)
    all_goals
      obtain ⟨hp, hs4⟩ := take0_mid H.out HN.out Q3.out HY.out hlo (k := k) (by have := HNN.out; omega) (by have := HNN.out; omega) HS3.out R5.out
      rw [← HA.out, ← HC.out] at hs4
      have HP := Lib.hid hp; clear hp
      have HS4 := Lib.hid hs4; clear hs4
      generalize hX : w3.setCell _ _ = X at HP HS4 ⊢
      go_wp2_with (at_builtin; refine wpList_append_sl _ rfl (.tmp 70) (.tmp 73) 22 rfl 5 i0 (.int .u8 0) 1 Try.underlying22 hi0 hz0 hz1 hz2 rfl (some ⟨X.heap.size, 0, none⟩) 0 0 [] rfl (Sl.empty (cur := #[]) (blk_new' _ _ rfl)) A k c (bytes (y.2.q0.take k)) rfl (by rw [bytes_len, List.length_take, ← HNN.out]; omega) (HS4.out.alloc _).src HS4.out.src' (bytes_one _) (by unfold maxLen; omega) (by omega) ?_; intro A2 c2 w4 hs5 ho5 hr5; rw [Nat.zero_add] at hs5 ⊢; rw [List.nil_append] at hs5; have HS5 := Lib.hid hs5; obtain ⟨hq5, hr6⟩ := one_app rfl ho5 hr5; have Q5 := Lib.hid hq5; have R6 := Lib.hid hr6; clear hs5 ho5 hr5 hq5 hr6)
      all_goals exact bodyPost_ret (v := .tuple #[.slice A2 k c2, .int .i64 0]) (by simp [results, Try.results17, go_sem]) rfl ⟨A2, c2, rfl, HS5.out, fun j hj => Nat.le_trans HP.out.size (R6.out j hj), HP.out.quiet Q5.out⟩
set_option maxHeartbeats 8000000 in
theorem rtake1_ok {base : Nat} {w wr : World} {p g cap N : Nat} {ys : List (RW × Wire)} (h : RNet base w wr p (.slice (some ⟨g, 0, none⟩) N cap) ys) (hN : N = ys.length) {i : Nat} {y : RW × Wire} (hy : ys[i]? = some y) (hlo : y.2.lost = false) (most : Int) (hm : 0 ≤ most) (hn1 : y.2.q1.length ≤ 1048576)
    (k : Nat) (hk : k ≤ y.2.q1.length) (hkm : (most = k) ∨ ((y.2.q1.length : Int) < most ∧ k = y.2.q1.length)) :
    Calls Try.prog 17 #[.pointer (some ⟨p, 0, none⟩), .int .i64 ((i : Int) + 1), .int .i64 1, .int .i64 most] wr fun e w' => ∃ A c, e = .returned (.tuple #[.slice A k c, .int .i64 0]) ∧ Sl w' 5 A k c (bytes (y.2.q1.take k)) ∧ (∀ k, RowOf A k → wr.heap.size ≤ k) ∧ RPost base w wr p ys ((wires ys).set i (y.2.setQ 1 (y.2.q1.drop k))) w' := by
  have W := Lib.hid (wrong_at h ((i : Int) + 1) 1)
  rw [at_ok (wires_at hy) (by omega), hlo] at W
  obtain ⟨i0, hi0, hz0, hz1, hz2⟩ := info_parts Try.info5
  have hsm := h.small
  have hi : i < ys.length := (List.getElem?_eq_some_iff.1 hy).1
  obtain ⟨g', cap', hgc, hcap, hcm, gs, ps, hf⟩ := h.facts hy
  simp only [Value.slice.injEq, Option.some.injEq, Addr.mk.injEq] at hgc
  obtain ⟨⟨rfl, -⟩, -, rfl⟩ := hgc
  unfold maxLen at hcm
  have hsl := (h.sl y (List.mem_of_getElem? hy)).2
  have hle := hsl.le
  have hcl := hsl.capLe
  unfold maxLen at hcl
  clear hsl
  have HF := Lib.hid hf; clear hf
  have HY := Lib.hid hy; clear hy
  have H := Lib.hid h; clear h
  have HN := Lib.hid hN
  rw [← hN] at HF hi hsm hcap
  clear hN
  have i0' : (0 : Int) ≤ (i : Int) := by omega
  have i1' : (i : Int) < (N : Int) := by omega
  have SQ := Lib.hid (fun (W : World) (hW : Quiet wr W) => ((H.out.quiet hW).sl y (List.mem_of_getElem? HY.out)).2)
  obtain ⟨n, hn⟩ : ∃ n, n = y.2.q1.length := ⟨_, rfl⟩
  rw [← hn] at HF SQ hk hkm hle hn1
  have HNN := Lib.hid hn; clear hn
  have iw : IntKind.i64.wrap (i : Int) = (i : Int) := by rw [IntKind.wrap_i64]; omega
  have dm : decide (most < 0) = false := by simp; omega
  obtain ⟨A, hA⟩ : ∃ A, A = y.1.A1 := ⟨_, rfl⟩
  obtain ⟨c, hc⟩ : ∃ c, c = y.1.c1 := ⟨_, rfl⟩
  rw [← hA] at HF SQ
  rw [← hc] at HF SQ hle hcl
  have HA := Lib.hid hA; clear hA
  have HC := Lib.hid hc; clear hc
  have SC := Lib.hid (fun (W : World) (hW : Quiet wr W) => bytes_drop y.2.q1 k ▸ (SQ.out W hW).cut hk)
  rcases hkm with rfl | ⟨hkm, rfl⟩
  · skip
    have dk : decide ((n : Int) < (k : Int)) = false := by simp; omega
    go_enter Try.func17, Try.ntmps17
    go_wp2_with (first
      | (go_at_call 28; refine W.out.mono ?_; rintro e w2 ⟨rfl, hq⟩; have Q2 := Lib.hid hq; clear hq; obtain ⟨t0, ⟨t1, t2, t3, t4, t5⟩, t6, t7, t8, t9⟩ := HF.out w2 Q2.out; rw [hlo] at t5; have t10 := t8 (i * 5 + 1); clear t8))
    go_region_law (refine step_append_sl _ rfl (.tmp 63) (.tmp 66) 22 rfl 5 i0 (.int .u8 0) 1 Try.underlying22 hi0 hz0 hz1 hz2 rfl (some ⟨w2.heap.size + 1, 0, none⟩) 0 0 [] rfl (Sl.empty (cur := #[]) (by repeat (first | exact blk_new' _ _ (by simp) | refine blk_drew ?_))) _ _ _ (bytes (y.2.q1.drop k)) rfl (by rw [bytes_len, List.length_drop]; have := HNN.out; omega) (SC.out _ (Q2.out.trans (Only.drew (((Only.refl _ _).alloc _).alloc _)))).src (SC.out _ Q2.out).src' (bytes_one _) (by unfold maxLen; omega) (by omega) ?_
                   intro A1 c1 w3 hs3 ho3 hr3
                   rw [Nat.zero_add] at hs3 ⊢
                   rw [List.nil_append] at hs3
                   have HS3 := Lib.hid hs3
                   obtain ⟨hq3, hr4⟩ := one_app (by simp) (App.drew ho3) hr3
                   have q3 := Q2.out.trans (Only.trans ((Only.refl _ _).alloc _) hq3)
                   have hr5 : ∀ k, RowOf A1 k → wr.heap.size ≤ k := fun k hk => by
                     have h1 := hr4 k hk
                     have h2 := Q2.out.size
                     simp at h1
                     omega
                   have Q3 := Lib.hid q3
                   have R5 := Lib.hid hr5
                   clear hs3 ho3 hr3 hq3 hr4 q3 hr5 t0 t1 t2 t3 t4 t5 t6 t7 t9 t10
                   obtain ⟨t0, ⟨t1, t2, t3, t4, t5⟩, t6, t7, t8, t9⟩ := HF.out w3 Q3.out
                   have t10 := t8 (i * 5 + 1)
                   clear t8)
    all_goals
      obtain ⟨hp, hs4⟩ := take1_mid H.out HN.out Q3.out HY.out hlo (k := k) (by have := HNN.out; omega) (by have := HNN.out; omega) HS3.out R5.out
      rw [← HA.out, ← HC.out] at hs4
      have HP := Lib.hid hp; clear hp
      have HS4 := Lib.hid hs4; clear hs4
      generalize hX : w3.setCell _ _ = X at HP HS4 ⊢
      go_wp2_with (at_builtin; refine wpList_append_sl _ rfl (.tmp 70) (.tmp 73) 22 rfl 5 i0 (.int .u8 0) 1 Try.underlying22 hi0 hz0 hz1 hz2 rfl (some ⟨X.heap.size, 0, none⟩) 0 0 [] rfl (Sl.empty (cur := #[]) (blk_new' _ _ rfl)) A k c (bytes (y.2.q1.take k)) rfl (by rw [bytes_len, List.length_take, ← HNN.out]; omega) (HS4.out.alloc _).src HS4.out.src' (bytes_one _) (by unfold maxLen; omega) (by omega) ?_; intro A2 c2 w4 hs5 ho5 hr5; rw [Nat.zero_add] at hs5 ⊢; rw [List.nil_append] at hs5; have HS5 := Lib.hid hs5; obtain ⟨hq5, hr6⟩ := one_app rfl ho5 hr5; have Q5 := Lib.hid hq5; have R6 := Lib.hid hr6; clear hs5 ho5 hr5 hq5 hr6)
      all_goals exact bodyPost_ret (v := .tuple #[.slice A2 k c2, .int .i64 0]) (by simp [results, Try.results17, go_sem]) rfl ⟨A2, c2, rfl, HS5.out, fun j hj => Nat.le_trans HP.out.size (R6.out j hj), HP.out.quiet Q5.out⟩
  · have SC0 := SC.out
    rw [Nat.sub_self] at SC0
    clear SC
    have SC := Lib.hid SC0; clear SC0
    have dk : decide ((k : Int) < most) = true := by simp; omega
    go_enter Try.func17, Try.ntmps17
    go_wp2_with (first
      | (go_at_call 28; refine W.out.mono ?_; rintro e w2 ⟨rfl, hq⟩; have Q2 := Lib.hid hq; clear hq; obtain ⟨t0, ⟨t1, t2, t3, t4, t5⟩, t6, t7, t8, t9⟩ := HF.out w2 Q2.out; rw [hlo] at t5; have t10 := t8 (i * 5 + 1); clear t8))
    go_region_law (refine step_append_sl _ rfl (.tmp 63) (.tmp 66) 22 rfl 5 i0 (.int .u8 0) 1 Try.underlying22 hi0 hz0 hz1 hz2 rfl (some ⟨w2.heap.size + 1, 0, none⟩) 0 0 [] rfl (Sl.empty (cur := #[]) (by repeat (first | exact blk_new' _ _ (by simp) | refine blk_drew ?_))) _ _ _ (bytes (y.2.q1.drop k)) rfl (by rw [bytes_len, List.length_drop]; have := HNN.out; omega) (SC.out _ (Q2.out.trans (Only.drew (((Only.refl _ _).alloc _).alloc _)))).src (SC.out _ Q2.out).src' (bytes_one _) (by unfold maxLen; omega) (by omega) ?_
                   intro A1 c1 w3 hs3 ho3 hr3
                   rw [Nat.zero_add] at hs3 ⊢
                   rw [List.nil_append] at hs3
                   have HS3 := Lib.hid hs3
                   obtain ⟨hq3, hr4⟩ := one_app (by simp) (App.drew ho3) hr3
                   have q3 := Q2.out.trans (Only.trans ((Only.refl _ _).alloc _) hq3)
                   have hr5 : ∀ k, RowOf A1 k → wr.heap.size ≤ k := fun k hk => by
                     have h1 := hr4 k hk
                     have h2 := Q2.out.size
                     simp at h1
                     omega
                   have Q3 := Lib.hid q3
                   have R5 := Lib.hid hr5
                   clear hs3 ho3 hr3 hq3 hr4 q3 hr5 t0 t1 t2 t3 t4 t5 t6 t7 t9 t10
                   obtain ⟨t0, ⟨t1, t2, t3, t4, t5⟩, t6, t7, t8, t9⟩ := HF.out w3 Q3.out
                   have t10 := t8 (i * 5 + 1)
                   clear t8)
    all_goals
      obtain ⟨hp, hs4⟩ := take1_mid H.out HN.out Q3.out HY.out hlo (k := k) (by have := HNN.out; omega) (by have := HNN.out; omega) HS3.out R5.out
      rw [← HA.out, ← HC.out] at hs4
      have HP := Lib.hid hp; clear hp
      have HS4 := Lib.hid hs4; clear hs4
      generalize hX : w3.setCell _ _ = X at HP HS4 ⊢
      go_wp2_with (at_builtin; refine wpList_append_sl _ rfl (.tmp 70) (.tmp 73) 22 rfl 5 i0 (.int .u8 0) 1 Try.underlying22 hi0 hz0 hz1 hz2 rfl (some ⟨X.heap.size, 0, none⟩) 0 0 [] rfl (Sl.empty (cur := #[]) (blk_new' _ _ rfl)) A k c (bytes (y.2.q1.take k)) rfl (by rw [bytes_len, List.length_take, ← HNN.out]; omega) (HS4.out.alloc _).src HS4.out.src' (bytes_one _) (by unfold maxLen; omega) (by omega) ?_; intro A2 c2 w4 hs5 ho5 hr5; rw [Nat.zero_add] at hs5 ⊢; rw [List.nil_append] at hs5; have HS5 := Lib.hid hs5; obtain ⟨hq5, hr6⟩ := one_app rfl ho5 hr5; have Q5 := Lib.hid hq5; have R6 := Lib.hid hr6; clear hs5 ho5 hr5 hq5 hr6)
      all_goals exact bodyPost_ret (v := .tuple #[.slice A2 k c2, .int .i64 0]) (by simp [results, Try.results17, go_sem]) rfl ⟨A2, c2, rfl, HS5.out, fun j hj => Nat.le_trans HP.out.size (R6.out j hj), HP.out.quiet Q5.out⟩
end Go.Proofs.Ytdigeppbflkknaa
