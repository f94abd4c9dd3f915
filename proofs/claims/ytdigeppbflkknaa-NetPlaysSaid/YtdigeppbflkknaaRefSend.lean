/-
  The reference's Send. No conditions.
-/
import Derived.Test.YtdigeppbflkknaaRefReset
import Derived.Lib.SlBytesConst
namespace Go.Proofs.Ytdigeppbflkknaa
open Go.RowKit
set_option linter.unusedVariables false
set_option linter.unusedSimpArgs false

theorem Quiet.fresh {W X w' : World} {b : Nat} (h : Quiet W X) (ho : Only (fun k => b ≤ k) X w') (hb : W.heap.size ≤ b) : Quiet W w' := h.over ho (fun i hi hk => by omega)
theorem one_app {W0 w3 : World} {o : Obj} {b : Nat} {A1 : Option Addr} (hb : b = W0.heap.size) (ho3 : Only (RowOf (some ⟨b, 0, none⟩)) (W0.alloc o) w3) (hr3 : ∀ k, RowOf A1 k → RowOf (some ⟨b, 0, none⟩) k ∨ (W0.alloc o).heap.size ≤ k) :
    Quiet W0 w3 ∧ ∀ k, RowOf A1 k → W0.heap.size ≤ k := by
  subst hb
  have hk : ∀ k, RowOf (some ⟨W0.heap.size, 0, none⟩) k → k = W0.heap.size := fun k ⟨a, e, h⟩ => by
    obtain rfl := Option.some.inj e
    exact h.symm
  refine ⟨Only.over ((Only.refl _ _).alloc o) ho3 (fun i hi q => by have := hk i q; omega), fun k q => ?_⟩
  rcases hr3 k q with h | h
  · exact Nat.le_of_eq (hk k h).symm
  · simp at h; omega
theorem two_app {W0 w3 w4 : World} {o : Obj} {b : Nat} {A1 A2 : Option Addr} (hb : b = W0.heap.size) (ho3 : Only (RowOf (some ⟨b, 0, none⟩)) (W0.alloc o) w3) (hr3 : ∀ k, RowOf A1 k → RowOf (some ⟨b, 0, none⟩) k ∨ (W0.alloc o).heap.size ≤ k)
    (ho4 : Only (RowOf A1) w3 w4) (hr4 : ∀ k, RowOf A2 k → RowOf A1 k ∨ w3.heap.size ≤ k) : Quiet W0 w4 ∧ ∀ k, RowOf A2 k → W0.heap.size ≤ k := by
  obtain ⟨h1, h2⟩ := one_app hb ho3 hr3
  refine ⟨h1.over ho4 (fun i hi q => by have := h2 i q; omega), fun k q => ?_⟩
  rcases hr4 k q with h | h
  · exact h2 k h
  · exact Nat.le_trans h1.size h
theorem Sl.src' {w : World} {A : Option Addr} {n c : Nat} {l : List UInt8} (h : Sl w 5 A n c (bytes l)) : A = none → n = 0 := fun e => by
  subst e
  rcases h.2 with ⟨_, h1, _⟩ | ⟨_, _, _, h1, _⟩
  · exact h1
  · cases h1
theorem send0_post {base : Nat} {w wr W : World} {p g cap N : Nat} {ys : List (RW × Wire)} (h : RNet base w wr p (.slice (some ⟨g, 0, none⟩) N cap) ys) (hN : N = ys.length) (hq : Quiet wr W) {i : Nat} {y : RW × Wire} (hy : ys[i]? = some y) (hlo : y.2.lost = false) {A2 : Option Addr} {c2 n0 n1 nm : Nat} {l : List UInt8} {v2 v3 v4 : Value}
    (e0 : n0 = y.2.q0.length) (enm : nm = y.2.q1.length + l.length) (e2 : v2 = .bool y.2.s1) (e3 : v3 = .bool y.2.s0) (e4 : v4 = .bool y.2.lost)
    (hs2 : Sl W 5 A2 nm c2 (bytes y.2.q1 ++ bytes l)) (hr : ∀ k, RowOf A2 k → wr.heap.size ≤ k) :
    RPost base w wr p ys ((wires ys).set i (y.2.setQ (1 - 0) (y.2.q1 ++ l))) (set5 W g (i * 5) (.slice y.1.A0 n0 y.1.c0) (.slice A2 nm c2) v2 v3 v4) := by
  subst hN e0 enm e2 e3 e4
  obtain ⟨hs0, hs1⟩ := (h.quiet hq).sl y (List.mem_of_getElem? hy)
  obtain ⟨h1, h2, h3⟩ := h.turn5 hq hy ({ y.1 with A1 := A2, c1 := c2 }, y.2.setQ (1 - 0) (y.2.q1 ++ l)) (.slice y.1.A0 y.2.q0.length y.1.c0) (.slice A2 (y.2.q1.length + l.length) c2) (.bool y.2.s1) (.bool y.2.s0) (.bool y.2.lost) (by simp [rcells, Wire.setQ]) ⟨by simpa [Wire.setQ] using hs0, by simpa [bytes, Wire.setQ] using hs2⟩ (fun e => by have e : y.2.lost = true := (by simpa [Wire.setQ] using e); rw [hlo] at e; cases e) (fun k hk => hk.elim (fun hk => .inl (rb_at hy (.inl hk))) (fun hk => .inr (hr k hk)))
  exact ⟨_, _, h1, h2, h3⟩
set_option maxHeartbeats 8000000 in
theorem rsend0_ok {base : Nat} {w wr : World} {p g cap N : Nat} {ys : List (RW × Wire)} (h : RNet base w wr p (.slice (some ⟨g, 0, none⟩) N cap) ys) (hN : N = ys.length) {i : Nat} {y : RW × Wire} (hy : ys[i]? = some y) (hlo : y.2.lost = false) (hss : y.2.s1 = false)
    (A : Option Addr) (c : Nat) (l : List UInt8) (hll : l.length ≤ maxLen) (hsrc : ∀ W, Quiet wr W → Src W A (bytes l)) (hnil : A = none → l.length = 0) (hroom : (l.length : Int) ≤ 1048576 - (y.2.q1.length : Int)) :
    Calls Try.prog 16 #[.pointer (some ⟨p, 0, none⟩), .int .i64 ((i : Int) + 1), .int .i64 0, .slice A l.length c] wr fun e w' => e = .returned (.int .i64 0) ∧ RPost base w wr p ys ((wires ys).set i (y.2.setQ (1 - 0) (y.2.q1 ++ l))) w' := by
  have W := Lib.hid (wrong_at h ((i : Int) + 1) 0)
  rw [at_ok (wires_at hy) (by omega), hlo] at W
  obtain ⟨i0, hi0, hz0, hz1, hz2⟩ := info_parts Try.info5
  have hsm := h.small
  have hi : i < ys.length := (List.getElem?_eq_some_iff.1 hy).1
  obtain ⟨g', cap', hgc, hcap, hcm, gs, ps, hf⟩ := h.facts hy
  simp only [Value.slice.injEq, Option.some.injEq, Addr.mk.injEq] at hgc
  obtain ⟨⟨rfl, _⟩, _, rfl⟩ := hgc
  unfold maxLen at hcm hll
  have HF := Lib.hid hf; clear hf
  have HY := Lib.hid hy; clear hy
  have H := Lib.hid h; clear h
  have HN := Lib.hid hN
  have HS := Lib.hid hsrc; clear hsrc
  have HL := Lib.hid hnil; clear hnil
  rw [← hN] at HF hi hsm hcap
  clear hN
  have i0' : (0 : Int) ≤ (i : Int) := by omega
  have i1' : (i : Int) < (N : Int) := by omega
  obtain ⟨n, hn⟩ : ∃ n, n = y.2.q1.length := ⟨_, rfl⟩
  rw [← hn] at HF hroom
  have hn1 : n ≤ 1048576 := by omega
  have hl1 : l.length ≤ 1048576 := by omega
  have SQ := Lib.hid (fun (W : World) (hW : Quiet wr W) => hn.symm ▸ ((H.out.quiet hW).sl y (List.mem_of_getElem? HY.out)).2)
  have HNN := Lib.hid hn; clear hn
  obtain ⟨m, hm⟩ : ∃ m, m = l.length := ⟨_, rfl⟩
  rw [← hm] at hroom hl1 HL hll ⊢
  have HM := Lib.hid hm; clear hm
  have dr : decide (1048576 - (n : Int) < (m : Int)) = false := by simp; omega
  have HR := Lib.hid hroom; clear hroom
  go_enter Try.func16, Try.ntmps16
  go_wp2_with (first
    | (go_at_call 28; refine W.out.mono ?_; rintro e w2 ⟨rfl, hq⟩; have Q2 := Lib.hid hq; clear hq; obtain ⟨t0, ⟨t1, t2, t3, t4, t5⟩, t6, t7, t8, t9⟩ := HF.out w2 Q2.out; rw [hss] at t3; rw [hlo] at t5)
    | (at_builtin; refine wpList_append_sl _ rfl (.tmp 49) (.tmp 51) 22 rfl 5 i0 (.int .u8 0) 1 Try.underlying22 hi0 hz0 hz1 hz2 rfl (some ⟨w2.heap.size + 1, 0, none⟩) 0 0 [] rfl (Sl.empty (cur := #[]) (blk_newAt _ _ (by simp))) y.1.A1 n y.1.c1 (bytes y.2.q1) rfl (by rw [bytes_len]; exact HNN.out.symm) (SQ.out _ (Q2.out.trans (((Only.refl _ _).alloc _).alloc _))).src (SQ.out _ Q2.out).src' (bytes_one _) (by unfold maxLen; omega) (by omega) ?_; intro A1 c1 w3 hs3 ho3 hr3; rw [Nat.zero_add] at hs3 ⊢; rw [List.nil_append] at hs3
       have SL3 := Lib.hid hs3; have HO3 := Lib.hid ho3; have HR3 := Lib.hid hr3; clear hs3 ho3 hr3)
    | (at_builtin; refine wpList_append_sl _ rfl (.tmp 52) (.tmp 53) 22 rfl 5 i0 (.int .u8 0) 1 Try.underlying22 hi0 hz0 hz1 hz2 rfl A1 n c1 (bytes y.2.q1) rfl SL3.out A m c (bytes l) rfl (by rw [bytes_len]; exact HM.out.symm) (HS.out _ (Q2.out.trans (Only.trans ((Only.refl _ _).alloc _) (one_app (by simp) HO3.out HR3.out).1))) HL.out (bytes_one _) (by unfold maxLen; omega) (by omega) ?_; intro A2 c2 w4 hs4 ho4 hr4
       have SL4 := Lib.hid hs4
       obtain ⟨hq4, hr5⟩ := two_app (by simp) HO3.out HR3.out ho4 hr4
       have q4 := Q2.out.trans (Only.trans ((Only.refl _ _).alloc _) hq4)
       have bx := hq4.keep (blk_new w2 _) (fun x => x)
       have x0 := blk_cell bx 0
       have x1 := blk_cell bx 1
       have x2 := blk_cell bx 2
       have x3 := blk_cell bx 3
       have x4 := blk_cell bx 4
       have x5 := blk_frozen bx 1
       have x6 := lt_of_heap bx
       have hr6 : ∀ k, RowOf A2 k → w2.heap.size < k := fun k hk => by have := hr5 k hk; simp at this; omega
       simp only [List.getElem?_toArray, List.getElem?_cons_zero, List.getElem?_cons_succ] at x0 x1 x2 x3 x4
       have hgb : g < w2.heap.size := t6
       have hpb : p < w2.heap.size := t7
       have hwb : wr.heap.size ≤ w2.heap.size := Q2.out.size
       clear t0 t1 t2 t3 t4 t5 t6 t7 t8 t9 hs4 ho4 hr4 hq4 hr5 SL3 HO3 HR3
       have Q4 := Lib.hid q4; clear q4
       have BX := Lib.hid bx; clear bx
       have HR6 := Lib.hid hr6; clear hr6
       obtain ⟨t0, ⟨t1, t2, t3, t4, t5⟩, t6, t7, t8, t9⟩ := HF.out w4 Q4.out
       have t10 := t8 (i * 5); have t11 := t8 (i * 5 + 1); have t12 := t8 (i * 5 + 2); have t13 := t8 (i * 5 + 3); have t14 := t8 (i * 5 + 4); clear t8
       generalize w2.heap.size = b at x0 x1 x2 x3 x4 x5 x6 hgb hpb hwb BX HR6 ⊢
       have nbg : ¬ b = g := by omega
       have ngb : ¬ g = b := by omega
       have npb : ¬ p = b := by omega
       have nbp : ¬ b = p := by omega))
  go_region
  all_goals go_wp2
  all_goals go_ret
  all_goals
    exact ⟨rfl, (send0_post (n1 := 0) H.out HN.out (W := w4.setCell ⟨b, 1, none⟩ (.slice A2 (n + m) c2)) (Q4.out.setCell (fun q => absurd q (Nat.not_lt.2 hwb)) _) HY.out hlo rfl (by rw [HNN.out, HM.out]) (by first | rfl | rw [hss]) (by first | rfl | rw [hss]) (by rw [hlo]) (SL4.out.only (Only.setCell (S := (· = b)) (Only.refl _ _) (fun _ => rfl) _) (fun k hk e => by have := HR6.out k hk; omega)) (fun k hk => by have := HR6.out k hk; omega)).quiet (Only.drew (Only.refl _ _))⟩
theorem send1_post {base : Nat} {w wr W : World} {p g cap N : Nat} {ys : List (RW × Wire)} (h : RNet base w wr p (.slice (some ⟨g, 0, none⟩) N cap) ys) (hN : N = ys.length) (hq : Quiet wr W) {i : Nat} {y : RW × Wire} (hy : ys[i]? = some y) (hlo : y.2.lost = false) {A2 : Option Addr} {c2 n0 n1 nm : Nat} {l : List UInt8} {v2 v3 v4 : Value}
    (e0 : n1 = y.2.q1.length) (enm : nm = y.2.q0.length + l.length) (e2 : v2 = .bool y.2.s1) (e3 : v3 = .bool y.2.s0) (e4 : v4 = .bool y.2.lost)
    (hs2 : Sl W 5 A2 nm c2 (bytes y.2.q0 ++ bytes l)) (hr : ∀ k, RowOf A2 k → wr.heap.size ≤ k) :
    RPost base w wr p ys ((wires ys).set i (y.2.setQ (1 - 1) (y.2.q0 ++ l))) (set5 W g (i * 5) (.slice A2 nm c2) (.slice y.1.A1 n1 y.1.c1) v2 v3 v4) := by
  subst hN e0 enm e2 e3 e4
  obtain ⟨hs0, hs1⟩ := (h.quiet hq).sl y (List.mem_of_getElem? hy)
  obtain ⟨h1, h2, h3⟩ := h.turn5 hq hy ({ y.1 with A0 := A2, c0 := c2 }, y.2.setQ (1 - 1) (y.2.q0 ++ l)) (.slice A2 (y.2.q0.length + l.length) c2) (.slice y.1.A1 y.2.q1.length y.1.c1) (.bool y.2.s1) (.bool y.2.s0) (.bool y.2.lost) (by simp [rcells, Wire.setQ]) ⟨by simpa [bytes, Wire.setQ] using hs2, by simpa [Wire.setQ] using hs1⟩ (fun e => by have e : y.2.lost = true := (by simpa [Wire.setQ] using e); rw [hlo] at e; cases e) (fun k hk => hk.elim (fun hk => .inr (hr k hk)) (fun hk => .inl (rb_at hy (.inr hk))))
  exact ⟨_, _, h1, h2, h3⟩
set_option maxHeartbeats 8000000 in
theorem rsend1_ok {base : Nat} {w wr : World} {p g cap N : Nat} {ys : List (RW × Wire)} (h : RNet base w wr p (.slice (some ⟨g, 0, none⟩) N cap) ys) (hN : N = ys.length) {i : Nat} {y : RW × Wire} (hy : ys[i]? = some y) (hlo : y.2.lost = false) (hss : y.2.s0 = false)
    (A : Option Addr) (c : Nat) (l : List UInt8) (hll : l.length ≤ maxLen) (hsrc : ∀ W, Quiet wr W → Src W A (bytes l)) (hnil : A = none → l.length = 0) (hroom : (l.length : Int) ≤ 1048576 - (y.2.q0.length : Int)) :
    Calls Try.prog 16 #[.pointer (some ⟨p, 0, none⟩), .int .i64 ((i : Int) + 1), .int .i64 1, .slice A l.length c] wr fun e w' => e = .returned (.int .i64 0) ∧ RPost base w wr p ys ((wires ys).set i (y.2.setQ (1 - 1) (y.2.q0 ++ l))) w' := by
  have W := Lib.hid (wrong_at h ((i : Int) + 1) 1)
  rw [at_ok (wires_at hy) (by omega), hlo] at W
  obtain ⟨i0, hi0, hz0, hz1, hz2⟩ := info_parts Try.info5
  have hsm := h.small
  have hi : i < ys.length := (List.getElem?_eq_some_iff.1 hy).1
  obtain ⟨g', cap', hgc, hcap, hcm, gs, ps, hf⟩ := h.facts hy
  simp only [Value.slice.injEq, Option.some.injEq, Addr.mk.injEq] at hgc
  obtain ⟨⟨rfl, _⟩, _, rfl⟩ := hgc
  unfold maxLen at hcm hll
  have HF := Lib.hid hf; clear hf
  have HY := Lib.hid hy; clear hy
  have H := Lib.hid h; clear h
  have HN := Lib.hid hN
  have HS := Lib.hid hsrc; clear hsrc
  have HL := Lib.hid hnil; clear hnil
  rw [← hN] at HF hi hsm hcap
  clear hN
  have i0' : (0 : Int) ≤ (i : Int) := by omega
  have i1' : (i : Int) < (N : Int) := by omega
  obtain ⟨n, hn⟩ : ∃ n, n = y.2.q0.length := ⟨_, rfl⟩
  rw [← hn] at HF hroom
  have hn1 : n ≤ 1048576 := by omega
  have hl1 : l.length ≤ 1048576 := by omega
  have SQ := Lib.hid (fun (W : World) (hW : Quiet wr W) => hn.symm ▸ ((H.out.quiet hW).sl y (List.mem_of_getElem? HY.out)).1)
  have HNN := Lib.hid hn; clear hn
  obtain ⟨m, hm⟩ : ∃ m, m = l.length := ⟨_, rfl⟩
  rw [← hm] at hroom hl1 HL hll ⊢
  have HM := Lib.hid hm; clear hm
  have dr : decide (1048576 - (n : Int) < (m : Int)) = false := by simp; omega
  have HR := Lib.hid hroom; clear hroom
  go_enter Try.func16, Try.ntmps16
  go_wp2_with (first
    | (go_at_call 28; refine W.out.mono ?_; rintro e w2 ⟨rfl, hq⟩; have Q2 := Lib.hid hq; clear hq; obtain ⟨t0, ⟨t1, t2, t3, t4, t5⟩, t6, t7, t8, t9⟩ := HF.out w2 Q2.out; rw [hss] at t4; rw [hlo] at t5)
    | (at_builtin; refine wpList_append_sl _ rfl (.tmp 63) (.tmp 65) 22 rfl 5 i0 (.int .u8 0) 1 Try.underlying22 hi0 hz0 hz1 hz2 rfl (some ⟨w2.heap.size + 1, 0, none⟩) 0 0 [] rfl (Sl.empty (cur := #[]) (blk_newAt _ _ (by simp))) y.1.A0 n y.1.c0 (bytes y.2.q0) rfl (by rw [bytes_len]; exact HNN.out.symm) (SQ.out _ (Q2.out.trans (((Only.refl _ _).alloc _).alloc _))).src (SQ.out _ Q2.out).src' (bytes_one _) (by unfold maxLen; omega) (by omega) ?_; intro A1 c1 w3 hs3 ho3 hr3; rw [Nat.zero_add] at hs3 ⊢; rw [List.nil_append] at hs3
       have SL3 := Lib.hid hs3; have HO3 := Lib.hid ho3; have HR3 := Lib.hid hr3; clear hs3 ho3 hr3)
    | (at_builtin; refine wpList_append_sl _ rfl (.tmp 66) (.tmp 67) 22 rfl 5 i0 (.int .u8 0) 1 Try.underlying22 hi0 hz0 hz1 hz2 rfl A1 n c1 (bytes y.2.q0) rfl SL3.out A m c (bytes l) rfl (by rw [bytes_len]; exact HM.out.symm) (HS.out _ (Q2.out.trans (Only.trans ((Only.refl _ _).alloc _) (one_app (by simp) HO3.out HR3.out).1))) HL.out (bytes_one _) (by unfold maxLen; omega) (by omega) ?_; intro A2 c2 w4 hs4 ho4 hr4
       have SL4 := Lib.hid hs4
       obtain ⟨hq4, hr5⟩ := two_app (by simp) HO3.out HR3.out ho4 hr4
       have q4 := Q2.out.trans (Only.trans ((Only.refl _ _).alloc _) hq4)
       have bx := hq4.keep (blk_new w2 _) (fun x => x)
       have x0 := blk_cell bx 0
       have x1 := blk_cell bx 1
       have x2 := blk_cell bx 2
       have x3 := blk_cell bx 3
       have x4 := blk_cell bx 4
       have x5 := blk_frozen bx 0
       have x6 := lt_of_heap bx
       have hr6 : ∀ k, RowOf A2 k → w2.heap.size < k := fun k hk => by have := hr5 k hk; simp at this; omega
       simp only [List.getElem?_toArray, List.getElem?_cons_zero, List.getElem?_cons_succ] at x0 x1 x2 x3 x4
       have hgb : g < w2.heap.size := t6
       have hpb : p < w2.heap.size := t7
       have hwb : wr.heap.size ≤ w2.heap.size := Q2.out.size
       clear t0 t1 t2 t3 t4 t5 t6 t7 t8 t9 hs4 ho4 hr4 hq4 hr5 SL3 HO3 HR3
       have Q4 := Lib.hid q4; clear q4
       have BX := Lib.hid bx; clear bx
       have HR6 := Lib.hid hr6; clear hr6
       obtain ⟨t0, ⟨t1, t2, t3, t4, t5⟩, t6, t7, t8, t9⟩ := HF.out w4 Q4.out
       have t10 := t8 (i * 5); have t11 := t8 (i * 5 + 1); have t12 := t8 (i * 5 + 2); have t13 := t8 (i * 5 + 3); have t14 := t8 (i * 5 + 4); clear t8
       generalize w2.heap.size = b at x0 x1 x2 x3 x4 x5 x6 hgb hpb hwb BX HR6 ⊢
       have nbg : ¬ b = g := by omega
       have ngb : ¬ g = b := by omega
       have npb : ¬ p = b := by omega
       have nbp : ¬ b = p := by omega))
  go_region
  all_goals go_wp2
  all_goals go_ret
  all_goals
    exact ⟨rfl, (send1_post (n0 := 0) H.out HN.out (W := w4.setCell ⟨b, 0, none⟩ (.slice A2 (n + m) c2)) (Q4.out.setCell (fun q => absurd q (Nat.not_lt.2 hwb)) _) HY.out hlo rfl (by rw [HNN.out, HM.out]) (by first | rfl | rw [hss]) (by first | rfl | rw [hss]) (by rw [hlo]) (SL4.out.only (Only.setCell (S := (· = b)) (Only.refl _ _) (fun _ => rfl) _) (fun k hk e => by have := HR6.out k hk; omega)) (fun k hk => by have := HR6.out k hk; omega)).quiet (Only.drew (Only.refl _ _))⟩
set_option maxHeartbeats 8000000 in
theorem rsend0_no {base : Nat} {w wr : World} {p g cap N : Nat} {ys : List (RW × Wire)} (h : RNet base w wr p (.slice (some ⟨g, 0, none⟩) N cap) ys) (hN : N = ys.length) {i : Nat} {y : RW × Wire} (hy : ys[i]? = some y) (hlo : y.2.lost = false)
    (A : Option Addr) (c : Nat) (l : List UInt8) (hss : y.2.s1 = true) :
    Calls Try.prog 16 #[.pointer (some ⟨p, 0, none⟩), .int .i64 ((i : Int) + 1), .int .i64 0, .slice A l.length c] wr fun e w' => e = .returned (.int .i64 16) ∧ Quiet wr w' := by
  have W := Lib.hid (wrong_at h ((i : Int) + 1) 0)
  rw [at_ok (wires_at hy) (by omega), hlo] at W
  have hsm := h.small
  have hi : i < ys.length := (List.getElem?_eq_some_iff.1 hy).1
  obtain ⟨g', cap', hgc, hcap, hcm, gs, ps, hf⟩ := h.facts hy
  simp only [Value.slice.injEq, Option.some.injEq, Addr.mk.injEq] at hgc
  obtain ⟨⟨rfl, _⟩, _, rfl⟩ := hgc
  unfold maxLen at hcm
  have HF := Lib.hid hf; clear hf
  clear hy h
  rw [← hN] at HF hi hsm hcap
  clear hN
  have i0' : (0 : Int) ≤ (i : Int) := by omega
  have i1' : (i : Int) < (N : Int) := by omega
  obtain ⟨n, hn⟩ : ∃ n, n = y.2.q1.length := ⟨_, rfl⟩
  rw [← hn] at HF
  clear hn
  go_enter Try.func16, Try.ntmps16
  go_wp2_with (go_at_call 28; refine W.out.mono ?_; rintro e w2 ⟨rfl, hq⟩; have Q2 := Lib.hid hq; clear hq; obtain ⟨t0, ⟨t1, t2, t3, t4, t5⟩, t6, t7, t8, t9⟩ := HF.out w2 Q2.out; rw [hss] at t3; rw [hlo] at t5)
  all_goals go_ret
  all_goals
    exact ⟨rfl, Q2.out.alloc _⟩
set_option maxHeartbeats 8000000 in
theorem rsend0_full {base : Nat} {w wr : World} {p g cap N : Nat} {ys : List (RW × Wire)} (h : RNet base w wr p (.slice (some ⟨g, 0, none⟩) N cap) ys) (hN : N = ys.length) {i : Nat} {y : RW × Wire} (hy : ys[i]? = some y) (hlo : y.2.lost = false)
    (A : Option Addr) (c : Nat) (l : List UInt8) (hss : y.2.s1 = false) (hroom : 1048576 - (y.2.q1.length : Int) < (l.length : Int)) (hsm1 : y.2.q1.length ≤ 1048576) :
    Calls Try.prog 16 #[.pointer (some ⟨p, 0, none⟩), .int .i64 ((i : Int) + 1), .int .i64 0, .slice A l.length c] wr fun e w' => e = .returned (.int .i64 14) ∧ Quiet wr w' := by
  have W := Lib.hid (wrong_at h ((i : Int) + 1) 0)
  rw [at_ok (wires_at hy) (by omega), hlo] at W
  have hsm := h.small
  have hi : i < ys.length := (List.getElem?_eq_some_iff.1 hy).1
  obtain ⟨g', cap', hgc, hcap, hcm, gs, ps, hf⟩ := h.facts hy
  simp only [Value.slice.injEq, Option.some.injEq, Addr.mk.injEq] at hgc
  obtain ⟨⟨rfl, _⟩, _, rfl⟩ := hgc
  unfold maxLen at hcm
  have HF := Lib.hid hf; clear hf
  clear hy h
  rw [← hN] at HF hi hsm hcap
  clear hN
  have i0' : (0 : Int) ≤ (i : Int) := by omega
  have i1' : (i : Int) < (N : Int) := by omega
  obtain ⟨n, hn⟩ : ∃ n, n = y.2.q1.length := ⟨_, rfl⟩
  rw [← hn] at HF hroom hsm1
  clear hn
  go_enter Try.func16, Try.ntmps16
  go_wp2_with (go_at_call 28; refine W.out.mono ?_; rintro e w2 ⟨rfl, hq⟩; have Q2 := Lib.hid hq; clear hq; obtain ⟨t0, ⟨t1, t2, t3, t4, t5⟩, t6, t7, t8, t9⟩ := HF.out w2 Q2.out; rw [hss] at t3; rw [hlo] at t5)
  all_goals go_ret
  all_goals
    exact ⟨rfl, Q2.out.alloc _⟩
set_option maxHeartbeats 8000000 in
theorem rsend1_no {base : Nat} {w wr : World} {p g cap N : Nat} {ys : List (RW × Wire)} (h : RNet base w wr p (.slice (some ⟨g, 0, none⟩) N cap) ys) (hN : N = ys.length) {i : Nat} {y : RW × Wire} (hy : ys[i]? = some y) (hlo : y.2.lost = false)
    (A : Option Addr) (c : Nat) (l : List UInt8) (hss : y.2.s0 = true) :
    Calls Try.prog 16 #[.pointer (some ⟨p, 0, none⟩), .int .i64 ((i : Int) + 1), .int .i64 1, .slice A l.length c] wr fun e w' => e = .returned (.int .i64 16) ∧ Quiet wr w' := by
  have W := Lib.hid (wrong_at h ((i : Int) + 1) 1)
  rw [at_ok (wires_at hy) (by omega), hlo] at W
  have hsm := h.small
  have hi : i < ys.length := (List.getElem?_eq_some_iff.1 hy).1
  obtain ⟨g', cap', hgc, hcap, hcm, gs, ps, hf⟩ := h.facts hy
  simp only [Value.slice.injEq, Option.some.injEq, Addr.mk.injEq] at hgc
  obtain ⟨⟨rfl, _⟩, _, rfl⟩ := hgc
  unfold maxLen at hcm
  have HF := Lib.hid hf; clear hf
  clear hy h
  rw [← hN] at HF hi hsm hcap
  clear hN
  have i0' : (0 : Int) ≤ (i : Int) := by omega
  have i1' : (i : Int) < (N : Int) := by omega
  obtain ⟨n, hn⟩ : ∃ n, n = y.2.q0.length := ⟨_, rfl⟩
  rw [← hn] at HF
  clear hn
  go_enter Try.func16, Try.ntmps16
  go_wp2_with (go_at_call 28; refine W.out.mono ?_; rintro e w2 ⟨rfl, hq⟩; have Q2 := Lib.hid hq; clear hq; obtain ⟨t0, ⟨t1, t2, t3, t4, t5⟩, t6, t7, t8, t9⟩ := HF.out w2 Q2.out; rw [hss] at t4; rw [hlo] at t5)
  all_goals go_ret
  all_goals
    exact ⟨rfl, Q2.out.alloc _⟩
set_option maxHeartbeats 8000000 in
theorem rsend1_full {base : Nat} {w wr : World} {p g cap N : Nat} {ys : List (RW × Wire)} (h : RNet base w wr p (.slice (some ⟨g, 0, none⟩) N cap) ys) (hN : N = ys.length) {i : Nat} {y : RW × Wire} (hy : ys[i]? = some y) (hlo : y.2.lost = false)
    (A : Option Addr) (c : Nat) (l : List UInt8) (hss : y.2.s0 = false) (hroom : 1048576 - (y.2.q0.length : Int) < (l.length : Int)) (hsm1 : y.2.q0.length ≤ 1048576) :
    Calls Try.prog 16 #[.pointer (some ⟨p, 0, none⟩), .int .i64 ((i : Int) + 1), .int .i64 1, .slice A l.length c] wr fun e w' => e = .returned (.int .i64 14) ∧ Quiet wr w' := by
  have W := Lib.hid (wrong_at h ((i : Int) + 1) 1)
  rw [at_ok (wires_at hy) (by omega), hlo] at W
  have hsm := h.small
  have hi : i < ys.length := (List.getElem?_eq_some_iff.1 hy).1
  obtain ⟨g', cap', hgc, hcap, hcm, gs, ps, hf⟩ := h.facts hy
  simp only [Value.slice.injEq, Option.some.injEq, Addr.mk.injEq] at hgc
  obtain ⟨⟨rfl, _⟩, _, rfl⟩ := hgc
  unfold maxLen at hcm
  have HF := Lib.hid hf; clear hf
  clear hy h
  rw [← hN] at HF hi hsm hcap
  clear hN
  have i0' : (0 : Int) ≤ (i : Int) := by omega
  have i1' : (i : Int) < (N : Int) := by omega
  obtain ⟨n, hn⟩ : ∃ n, n = y.2.q0.length := ⟨_, rfl⟩
  rw [← hn] at HF hroom hsm1
  clear hn
  go_enter Try.func16, Try.ntmps16
  go_wp2_with (go_at_call 28; refine W.out.mono ?_; rintro e w2 ⟨rfl, hq⟩; have Q2 := Lib.hid hq; clear hq; obtain ⟨t0, ⟨t1, t2, t3, t4, t5⟩, t6, t7, t8, t9⟩ := HF.out w2 Q2.out; rw [hss] at t4; rw [hlo] at t5)
  all_goals go_ret
  all_goals
    exact ⟨rfl, Q2.out.alloc _⟩
theorem rsend_bad {base : Nat} {w wr : World} {p : Nat} {v : Value} {ys : List (RW × Wire)} (h : RNet base w wr p v ys) (k side : Int) (A : Option Addr) (n c : Nat) (hc : (at_ (wires ys) k side).1 ≠ 0) :
    Calls Try.prog 16 #[.pointer (some ⟨p, 0, none⟩), .int .i64 k, .int .i64 side, .slice A n c] wr fun e w' => e = .returned (.int .i64 (at_ (wires ys) k side).1) ∧ Quiet wr w' := by
  have W := Lib.hid (wrong_at h k side)
  obtain ⟨c', hcc⟩ : ∃ c, c = (at_ (wires ys) k side).1 := ⟨_, rfl⟩
  rw [← hcc] at W hc ⊢
  have dc : (c' != 0) = true := by simpa using hc
  clear hcc h hc
  go_enter Try.func16, Try.ntmps16
  go_wp2_with (go_at_call 28; refine W.out.mono ?_; rintro e w2 ⟨rfl, hq⟩; have Q2 := Lib.hid hq; clear hq)
  go_ret
  exact ⟨rfl, Q2.out⟩
theorem rsend_at {base : Nat} {w wr : World} {p : Nat} {v : Value} {ys : List (RW × Wire)} (h : RNet base w wr p v ys) (k side : Int) (hbnd : ∀ x ∈ wires ys, x.q0.length ≤ 1048576 ∧ x.q1.length ≤ 1048576)
    (A : Option Addr) (c : Nat) (l : List UInt8) (hll : l.length ≤ maxLen) (hsrc : ∀ W, Quiet wr W → Src W A (bytes l)) (hnil : A = none → l.length = 0) :
    Calls Try.prog 16 #[.pointer (some ⟨p, 0, none⟩), .int .i64 k, .int .i64 side, .slice A l.length c] wr fun e w' => e = .returned (.int .i64 (sendF (wires ys) k side l).1) ∧ RPost base w wr p ys (sendF (wires ys) k side l).2 w' := by
  by_cases hc : (at_ (wires ys) k side).1 = 0
  · obtain ⟨i, y, rfl, hy, hlo, hs, e⟩ := at_zero hc
    obtain ⟨b0, b1⟩ := hbnd _ (List.mem_of_getElem? (wires_at hy))
    obtain ⟨g, cap, rfl, _⟩ := h.facts hy
    unfold sendF
    rw [e]
    rcases hs with rfl | rfl
    · simp only [Wire.s, Wire.q, show ¬ ((1 : Int) - 0 = 0) by decide, if_false, ne_eq, not_true_eq_false]
      cases hss : y.2.s1
      · by_cases hroom : 1048576 - (y.2.q1.length : Int) < (l.length : Int)
        · simp only [hroom, if_true, if_false, Bool.false_eq_true]
          refine (rsend0_full h rfl hy hlo A c l hss hroom b1).mono ?_
          rintro e w' ⟨rfl, hq⟩
          exact ⟨rfl, RPost.same h hq⟩
        · simp only [hroom, if_false, Bool.false_eq_true]
          refine (rsend0_ok h rfl hy hlo hss A c l hll hsrc hnil (by omega)).mono ?_
          rintro e w' ⟨rfl, hq⟩
          exact ⟨rfl, by simpa using hq⟩
      · simp only [if_true]
        refine (rsend0_no h rfl hy hlo A c l hss).mono ?_
        rintro e w' ⟨rfl, hq⟩
        exact ⟨rfl, RPost.same h hq⟩
    · simp only [Wire.s, Wire.q, show ((1 : Int) - 1 = 0) by decide, if_true, if_false, ne_eq, not_true_eq_false]
      cases hss : y.2.s0
      · by_cases hroom : 1048576 - (y.2.q0.length : Int) < (l.length : Int)
        · simp only [hroom, if_true, if_false, Bool.false_eq_true]
          refine (rsend1_full h rfl hy hlo A c l hss hroom b0).mono ?_
          rintro e w' ⟨rfl, hq⟩
          exact ⟨rfl, RPost.same h hq⟩
        · simp only [hroom, if_false, Bool.false_eq_true]
          refine (rsend1_ok h rfl hy hlo hss A c l hll hsrc hnil (by omega)).mono ?_
          rintro e w' ⟨rfl, hq⟩
          exact ⟨rfl, by simpa using hq⟩
      · simp only [if_true]
        refine (rsend1_no h rfl hy hlo A c l hss).mono ?_
        rintro e w' ⟨rfl, hq⟩
        exact ⟨rfl, RPost.same h hq⟩
  · have e0 : sendF (wires ys) k side l = ((at_ (wires ys) k side).1, wires ys) := by simp [sendF, hc]
    rw [e0]
    refine (rsend_bad h k side A l.length c hc).mono ?_
    rintro e w' ⟨rfl, hq⟩
    exact ⟨rfl, RPost.same h hq⟩
end Go.Proofs.Ytdigeppbflkknaa
