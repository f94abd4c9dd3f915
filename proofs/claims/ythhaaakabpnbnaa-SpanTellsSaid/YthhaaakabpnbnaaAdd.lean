/-
  Add. No conditions.
-/
import Derived.Test.YthhaaakabpnbnaaJoin
namespace Go.Proofs.Ythhaaakabpnbnaa
open Go.RowKit
set_option linter.unusedVariables false
set_option linter.unusedSimpArgs false

/-- A result: spans in a row of the call's own (or none), and a number. -/
def Res (w : World) (r : List Sp × Int) (e : Ending) (w' : World) : Prop := ∃ D c, e = .returned (.tuple #[.slice D r.1.length c, .int .i64 r.2]) ∧ Sps w' D r.1.length c r.1 ∧ Own w D ∧ Quiet w w'
theorem Own.none (w : World) : Own w none := fun k ⟨a, e, _⟩ => nomatch e
theorem Res.bad {w w' : World} {z : Int} (hq : Quiet w w') : Res w ([], z) (.returned (.tuple #[.slice none 0 0, .int .i64 z])) w' := ⟨none, 0, rfl, Sps.nil' _, Own.none _, hq⟩
theorem join_at {w : World} {A B C : Option Addr} {n1 n2 n3 c1 c2 c3 : Nat} {a b c : List Sp} (ha : Sps w A n1 c1 a) (hb : Sps w B n2 c2 b) (hc : Sps w C n3 c3 c) (h : n1 + n2 + n3 ≤ 1000) :
    Calls Try.prog 26 #[.slice A n1 c1, .slice B n2 c2, .slice C n3 c3] w fun e w' => Res w (joinF a b c) e w' := by
  unfold joinF
  rw [ha.len, hb.len, hc.len]
  by_cases h32 : 32 < n1 + n2 + n3
  · rw [if_pos h32]
    refine (join_big h h32).mono ?_
    rintro e w' ⟨rfl, hq⟩
    exact Res.bad hq
  · rw [if_neg h32]
    refine (join_ok ha hb hc (by omega)).mono ?_
    rintro e w' ⟨D, rfl, h1, h2, h3⟩
    have hl : (a ++ b ++ c).length = n1 + n2 + n3 := h1.len
    exact ⟨D, n1 + n2 + n3, by rw [hl], by rw [hl]; exact h1, h2, h3⟩
theorem join_nil {w : World} {A : Option Addr} {n1 c1 : Nat} {a : List Sp} (ha : Sps w A n1 c1 a) (h : n1 ≤ 1000) :
    Calls Try.prog 26 #[.slice A n1 c1, .slice none 0 0, .slice none 0 0] w fun e w' => Res w (joinF a [] []) e w' := join_at ha (Sps.nil' w) (Sps.nil' w) (by omega)
theorem okF_len {l : List Sp} {s : Sp} (h : okF l s = true) : l.length ≤ 32 := by
  unfold okF at h
  exact (validF_iff.1 (Bool.and_eq_true_iff.1 h).1).2
set_option maxHeartbeats 2000000 in
theorem add_bad {w : World} {A : Option Addr} {n c : Nat} {l : List Sp} (h : Sps w A n c l) (s : Sp) (hok : okF l s = false) :
    Calls Try.prog 8 #[.slice A n c, .agg #[.int .i64 s.1, .int .i64 s.2]] w fun e w' => e = .returned (.tuple #[.slice none 0 0, .int .i64 2]) ∧ Quiet w w' := by
  have q1 : Quiet w (w.alloc (.cells #[.int .i64 s.1, .int .i64 s.2] 28)) := (Only.refl _ _).alloc _
  have b0 := blk_new w (.cells #[.int .i64 s.1, .int .i64 s.2] 28)
  have V := Lib.hid (valid_at (h.quiet q1))
  clear h
  cases hv : validF l with
  | false =>
    rw [hv] at V
    go_enter Try.func8, Try.ntmps8
    go_wp2_with (go_at_call 16; refine V.out.mono ?_; rintro e w2 ⟨rfl, hq2⟩; have HQ2 := Lib.hid hq2; clear hq2)
    go_ret2
    exact ⟨rfl, q1.trans HQ2.out⟩
  | true =>
    rw [hv] at V
    have hs : isSp s = false := by unfold okF at hok; rw [hv] at hok; simpa using hok
    have C := Lib.hid (fun w2 => is_at w2 s)
    rw [hs] at C
    have AT := Lib.hid (fun (w2 : World) (hq2 : Quiet (w.alloc (.cells #[.int .i64 s.1, .int .i64 s.2] 28)) w2) => show w2.cell? ⟨w.heap.size, 0, none⟩ = some (.int .i64 s.1) ∧ w2.cell? ⟨w.heap.size, 1, none⟩ = some (.int .i64 s.2) ∧ w.heap.size < w2.heap.size from ⟨blk_cell (hq2.keep b0 (fun x => x)) 0, blk_cell (hq2.keep b0 (fun x => x)) 1, lt_of_heap (hq2.keep b0 (fun x => x))⟩)
    clear b0
    go_enter Try.func8, Try.ntmps8
    go_wp2_with (first
      | (go_at_call 16; refine V.out.mono ?_; rintro e w2 ⟨rfl, hq2⟩; obtain ⟨t0, t1, t2⟩ := AT.out w2 hq2; have HQ2 := Lib.hid hq2; clear hq2)
      | (go_at_call 25; refine (C.out _).mono ?_; rintro e w3 ⟨rfl, hq3⟩; have HQ3 := Lib.hid hq3; clear hq3))
    go_ret2
    exact ⟨rfl, q1.trans (HQ2.out.trans HQ3.out)⟩
/-- What stands at a function's head: the span in a block of the call's own, and the two tests passed. -/
structure Head (w : World) (A : Option Addr) (n c : Nat) (l : List Sp) (s : Sp) : Prop where
  v : ∀ W, Quiet (w.alloc (.cells #[.int .i64 s.1, .int .i64 s.2] 28)) W → Calls Try.prog 16 #[.slice A n c] W fun e w' => e = .returned (.bool true) ∧ Quiet W w'
  i : ∀ W, Calls Try.prog 25 #[.agg #[.int .i64 s.1, .int .i64 s.2]] W fun e w' => e = .returned (.bool true) ∧ Quiet W w'
  b : ∀ W, Quiet (w.alloc (.cells #[.int .i64 s.1, .int .i64 s.2] 28)) W → W.cell? ⟨w.heap.size, 0, none⟩ = some (.int .i64 s.1) ∧ W.cell? ⟨w.heap.size, 1, none⟩ = some (.int .i64 s.2) ∧ w.heap.size < W.heap.size
  q : ∀ W, Quiet (w.alloc (.cells #[.int .i64 s.1, .int .i64 s.2] 28)) W → Quiet w W
theorem head {w : World} {A : Option Addr} {n c : Nat} {l : List Sp} (h : Sps w A n c l) (s : Sp) (hok : okF l s = true) : Head w A n c l s := by
  have q1 : Quiet w (w.alloc (.cells #[.int .i64 s.1, .int .i64 s.2] 28)) := (Only.refl _ _).alloc _
  have b0 := blk_new w (.cells #[.int .i64 s.1, .int .i64 s.2] 28)
  unfold okF at hok
  obtain ⟨hv, hs⟩ := Bool.and_eq_true_iff.1 hok
  refine ⟨fun W hW => ?_, fun W => ?_, fun W hW => ⟨blk_cell (hW.keep b0 (fun x => x)) 0, blk_cell (hW.keep b0 (fun x => x)) 1, lt_of_heap (hW.keep b0 (fun x => x))⟩, fun W hW => q1.trans hW⟩
  · have := valid_at (h.quiet (q1.trans hW))
    rwa [hv] at this
  · have := is_at W s
    rwa [hs] at this
set_option maxHeartbeats 2000000 in
theorem add_eq {w : World} {A : Option Addr} {n c : Nat} {l : List Sp} (h : Sps w A n c l) (s : Sp) (hok : okF l s = true) (he : s.1 = s.2) :
    Calls Try.prog 8 #[.slice A n c, .agg #[.int .i64 s.1, .int .i64 s.2]] w fun e w' => Res w (joinF l [] []) e w' := by
  have H := Lib.hid (head h s hok)
  have h32 := okF_len hok
  have hn := h.len
  have J := Lib.hid (fun (W : World) (hW : Quiet w W) => join_nil (h.quiet hW) (by omega))
  clear h
  have de : (s.1 == s.2) = true := by simpa using he
  clear he hok
  go_enter Try.func8, Try.ntmps8
  go_wp2_with (first
    | (go_at_call 16; refine (H.out.v _ (Only.refl _ _)).mono ?_; rintro e w2 ⟨rfl, hq2⟩; obtain ⟨t0, t1, t2⟩ := H.out.b w2 hq2; have HQ2 := Lib.hid hq2; clear hq2)
    | (go_at_call 25; refine (H.out.i _).mono ?_; rintro e w3 ⟨rfl, hq3⟩; have HQ3 := Lib.hid (HQ2.out.trans hq3); clear hq3; obtain ⟨t3, t4, t5⟩ := H.out.b w3 HQ3.out)
    | (go_at_call 26; refine (J.out _ (H.out.q _ HQ3.out)).mono ?_; rintro e w4 ⟨D, d, rfl, h1, h2, h3⟩; have F1 := Lib.hid h1; clear h1; have F2 := Lib.hid h2; clear h2; have F3 := Lib.hid h3; clear h3))
  go_ret2
  exact ⟨D, d, rfl, F1.out, fun k hk => Nat.le_trans (H.out.q _ HQ3.out).size (F2.out k hk), (H.out.q _ HQ3.out).trans F3.out⟩
theorem parts_len (l : List Sp) (s : Sp) : (aheadF l s).length + (ownF l s).length + (behindF l s).length = l.length := by
  have e1 : aheadF l s ++ restF l s = l := List.takeWhile_append_dropWhile ..
  have e2 : ownF l s ++ behindF l s = restF l s := List.takeWhile_append_dropWhile ..
  have h1 := congrArg List.length e1
  have h2 := congrArg List.length e2
  rw [List.length_append] at h1 h2
  omega
theorem one_new (W : World) (s : Sp) : Sps (W.alloc (.cells #[.int .i64 s.1, .int .i64 s.2] 28)) (some ⟨W.heap.size, 0, none⟩) 1 1 [s] := Sps.of_block (l := [s]) (blk_new W _) rfl (by unfold maxLen; omega)
set_option maxHeartbeats 2000000 in
theorem add_new {w : World} {A : Option Addr} {n c : Nat} {l : List Sp} (h : Sps w A n c l) (s : Sp) (hok : okF l s = true) (he : s.1 ≠ s.2) (hown : ownF l s = []) :
    Calls Try.prog 8 #[.slice A n c, .agg #[.int .i64 s.1, .int .i64 s.2]] w fun e w' => Res w (joinF (aheadF l s) [s] (behindF l s)) e w' := by
  have H := Lib.hid (head h s hok)
  have h32 := okF_len hok
  have hn := h.len
  have T := Lib.hid (fun (W : World) (hW : Quiet w W) => touched_at (h.quiet hW) s)
  rw [hown] at T
  have HH := Lib.hid h; clear h
  have de : (s.1 == s.2) = false := by simpa using he
  clear he hok
  go_enter Try.func8, Try.ntmps8
  go_upto_region 9 with (first
    | (go_at_call 16; refine (H.out.v _ (Only.refl _ _)).mono ?_; rintro e w2 ⟨rfl, hq2⟩; obtain ⟨t0, t1, t2⟩ := H.out.b w2 hq2; have HQ2 := Lib.hid hq2; clear hq2)
    | (go_at_call 25; refine (H.out.i _).mono ?_; rintro e w3 ⟨rfl, hq3⟩; have HQ3 := Lib.hid (HQ2.out.trans hq3); clear hq3; obtain ⟨t3, t4, t5⟩ := H.out.b w3 HQ3.out)
    | (go_at_call 27; refine (T.out _ (H.out.q _ HQ3.out)).mono ?_; rintro e w4 ⟨A1, c1, A2, c2, A3, c3, rfl, h1, h4⟩; have FF := Lib.hid h1; clear h1; have HQ4 := Lib.hid (HQ3.out.trans h4); clear h4; obtain ⟨t6, t7, t8⟩ := H.out.b w4 HQ4.out; simp only [List.length_nil]))
  obtain ⟨x1, _, x3⟩ := FF.out _ (HH.out.quiet (H.out.q _ HQ4.out))
  have F1 := Lib.hid x1; clear x1
  have F3 := Lib.hid x3; clear x3
  have q5 : Quiet w4 (w4.alloc (.cells #[.int .i64 s.1, .int .i64 s.2] 28)) := (Only.refl _ _).alloc _
  have J := Lib.hid (join_at (F1.out.quiet q5) (one_new w4 s) (F3.out.quiet q5) (by have := parts_len l s; omega))
  go_wp2_with (go_at_call 26; refine J.out.mono ?_; rintro e w5 ⟨D, d, rfl, h1, h2, h3⟩; have G1 := Lib.hid h1; clear h1; have G2 := Lib.hid h2; clear h2; have G3 := Lib.hid (q5.trans h3); clear h3)
  go_ret2
  have hq := H.out.q _ HQ4.out
  exact ⟨D, d, rfl, G1.out, fun k hk => Nat.le_trans (hq.trans q5).size (G2.out k hk), hq.trans G3.out⟩
theorem own_ends {o : List Sp} (h : o ≠ []) : ∃ m u v, o.length = m + 1 ∧ o[0]? = some u ∧ o[m]? = some v ∧ ∀ s, coverF o s = (min s.1 u.1, max s.2 v.2) := by
  cases o with
  | nil => exact absurd rfl h
  | cons u r =>
    obtain ⟨v, hv⟩ : ∃ v, (u :: r).getLast? = some v := ⟨_, List.getLast?_eq_some_getLast (by simp)⟩
    refine ⟨r.length, u, v, rfl, rfl, ?_, fun s => ?_⟩
    · rw [List.getLast?_eq_getElem?] at hv
      simpa using hv
    · unfold coverF
      rw [hv]
      rfl
theorem cover_world {w w4 : World} (hq : Quiet w w4) {x y : Value} (hb : w4.heap[w.heap.size]? = some (.cells #[x, y] 28 (0, 0))) (f t : Int) {w5 : World}
    (h5 : w5 = ((w4.setCell ⟨w.heap.size, 0, none⟩ (.int .i64 f)).setCell ⟨w.heap.size, 1, none⟩ (.int .i64 t)).drew) :
    w5.cell? ⟨w.heap.size, 0, none⟩ = some (.int .i64 f) ∧ w5.cell? ⟨w.heap.size, 1, none⟩ = some (.int .i64 t) ∧ w.heap.size < w5.heap.size ∧ Quiet w w5 := by
  subst h5
  have h2 : ((w4.setCell ⟨w.heap.size, 0, none⟩ (.int .i64 f)).setCell ⟨w.heap.size, 1, none⟩ (.int .i64 t)).drew.heap[w.heap.size]? = some (.cells #[.int .i64 f, .int .i64 t] 28 (0, 0)) := blk_set (blk_set hb 0 (.int .i64 f)) 1 (.int .i64 t)
  exact ⟨blk_cell h2 0, blk_cell h2 1, lt_of_heap h2, Only.drew ((hq.setCell (fun h => absurd h (Nat.lt_irrefl _)) _).setCell (fun h => absurd h (Nat.lt_irrefl _)) _)⟩
set_option maxHeartbeats 2000000 in
theorem add_cover {w : World} {A : Option Addr} {n c : Nat} {l : List Sp} (h : Sps w A n c l) (s : Sp) (hok : okF l s = true) (he : s.1 ≠ s.2) (hown : ownF l s ≠ []) :
    Calls Try.prog 8 #[.slice A n c, .agg #[.int .i64 s.1, .int .i64 s.2]] w fun e w' => Res w (joinF (aheadF l s) [coverF (ownF l s) s] (behindF l s)) e w' := by
  have H := Lib.hid (head h s hok)
  have h32 := okF_len hok
  have hn := h.len
  have b0 := Lib.hid (blk_new w (.cells #[.int .i64 s.1, .int .i64 s.2] 28))
  have T := Lib.hid (fun (W : World) (hW : Quiet w W) => touched_at (h.quiet hW) s)
  obtain ⟨m, u, v, hm, hu, hv, hc⟩ := own_ends hown
  rw [hm] at T
  have hm32 : m + 1 ≤ 32 := by have := parts_len l s; omega
  have HM := Lib.hid hm; clear hm
  have HU := Lib.hid hu; clear hu
  have HV := Lib.hid hv; clear hv
  rw [hc s]
  have HH := Lib.hid h; clear h
  clear hc
  have de : (s.1 == s.2) = false := by simpa using he
  clear he hok hown
  go_enter Try.func8, Try.ntmps8
  go_upto_region 8 with (first
    | (go_at_call 16; refine (H.out.v _ (Only.refl _ _)).mono ?_; rintro e w2 ⟨rfl, hq2⟩; obtain ⟨t0, t1, t2⟩ := H.out.b w2 hq2; have HQ2 := Lib.hid hq2; clear hq2)
    | (go_at_call 25; refine (H.out.i _).mono ?_; rintro e w3 ⟨rfl, hq3⟩; have HQ3 := Lib.hid (HQ2.out.trans hq3); clear hq3; obtain ⟨t3, t4, t5⟩ := H.out.b w3 HQ3.out)
    | (go_at_call 27; refine (T.out _ (H.out.q _ HQ3.out)).mono ?_; rintro e w4 ⟨A1, c1, A2, c2, A3, c3, rfl, h1, h4⟩; have FF := Lib.hid h1; clear h1; have HQ4 := Lib.hid (HQ3.out.trans h4); clear h4; obtain ⟨t6, t7, t8⟩ := H.out.b w4 HQ4.out))
  obtain ⟨_, x2, _⟩ := FF.out _ (HH.out.quiet (H.out.q _ HQ4.out))
  have hle := x2.le
  obtain ⟨b, o, rfl, hb, hcell⟩ := x2.src (by omega)
  obtain ⟨u0, _⟩ := hcell 0 u HU.out
  obtain ⟨_, v1⟩ := hcell m v HV.out
  rw [Nat.zero_mul, Nat.add_zero] at u0
  have b4 := HQ4.out.keep b0.out (fun x => x)
  have fz : w4.frozen? ⟨w.heap.size, 0, none⟩ = false := blk_frozen b4 0
  have fz1 : w4.frozen? ⟨w.heap.size, 1, none⟩ = false := blk_frozen b4 1
  have B4 := Lib.hid b4
  clear hcell t0 t1 t2 t3 t4 t5 b4 x2
  rcases Int.lt_or_le u.1 s.1 with g1 | g1 <;> rcases Int.lt_or_le s.2 v.2 with g2 | g2
  · skip
    have M1 := Lib.hid (show min s.1 u.1 = u.1 by omega)
    have M2 := Lib.hid (show max s.2 v.2 = v.2 by omega)
    go_region
    go_upto_region 9 with (fail)
    generalize h5 : ((w4.setCell ⟨w.heap.size, 0, none⟩ (.int .i64 u.1)).setCell ⟨w.heap.size, 1, none⟩ (.int .i64 v.2)).drew = w5
    have W5 := cover_world (H.out.q _ HQ4.out) B4.out u.1 v.2 h5.symm
    clear h5
    obtain ⟨y0, y1, y2, y3⟩ := W5
    have Y3 := Lib.hid y3; clear y3
    clear t6 t7 t8 fz fz1 u0 v1
    obtain ⟨x1, _, x3⟩ := FF.out _ (HH.out.quiet Y3.out)
    have F1 := Lib.hid x1; clear x1
    have F3 := Lib.hid x3; clear x3
    have q5 : Quiet w5 (w5.alloc (.cells #[.int .i64 u.1, .int .i64 v.2] 28)) := (Only.refl _ _).alloc _
    have J := Lib.hid (join_at (F1.out.quiet q5) (one_new w5 (u.1, v.2)) (F3.out.quiet q5) (by have := parts_len l s; omega))
    go_wp2_with (go_at_call 26; refine J.out.mono ?_; rintro e w6 ⟨D, d, rfl, h1, h2, h3⟩; have G1 := Lib.hid h1; clear h1; have G2 := Lib.hid h2; clear h2; have G3 := Lib.hid (q5.trans h3); clear h3)
    go_ret2
    try rw [M1.out]
    try rw [M2.out]
    exact ⟨D, d, rfl, G1.out, fun k hk => Nat.le_trans (Y3.out.trans q5).size (G2.out k hk), Y3.out.trans G3.out⟩
  · skip
    have M1 := Lib.hid (show min s.1 u.1 = u.1 by omega)
    have M2 := Lib.hid (show max s.2 v.2 = s.2 by omega)
    go_region
    go_upto_region 9 with (fail)
    generalize h5 : ((w4.setCell ⟨w.heap.size, 0, none⟩ (.int .i64 u.1)).setCell ⟨w.heap.size, 1, none⟩ (.int .i64 s.2)).drew = w5
    have W5 := cover_world (H.out.q _ HQ4.out) B4.out u.1 s.2 h5.symm
    clear h5
    obtain ⟨y0, y1, y2, y3⟩ := W5
    have Y3 := Lib.hid y3; clear y3
    clear t6 t7 t8 fz fz1 u0 v1
    obtain ⟨x1, _, x3⟩ := FF.out _ (HH.out.quiet Y3.out)
    have F1 := Lib.hid x1; clear x1
    have F3 := Lib.hid x3; clear x3
    have q5 : Quiet w5 (w5.alloc (.cells #[.int .i64 u.1, .int .i64 s.2] 28)) := (Only.refl _ _).alloc _
    have J := Lib.hid (join_at (F1.out.quiet q5) (one_new w5 (u.1, s.2)) (F3.out.quiet q5) (by have := parts_len l s; omega))
    go_wp2_with (go_at_call 26; refine J.out.mono ?_; rintro e w6 ⟨D, d, rfl, h1, h2, h3⟩; have G1 := Lib.hid h1; clear h1; have G2 := Lib.hid h2; clear h2; have G3 := Lib.hid (q5.trans h3); clear h3)
    go_ret2
    try rw [M1.out]
    try rw [M2.out]
    exact ⟨D, d, rfl, G1.out, fun k hk => Nat.le_trans (Y3.out.trans q5).size (G2.out k hk), Y3.out.trans G3.out⟩
  · skip
    have M1 := Lib.hid (show min s.1 u.1 = s.1 by omega)
    have M2 := Lib.hid (show max s.2 v.2 = v.2 by omega)
    go_region
    go_upto_region 9 with (fail)
    generalize h5 : ((w4.setCell ⟨w.heap.size, 0, none⟩ (.int .i64 s.1)).setCell ⟨w.heap.size, 1, none⟩ (.int .i64 v.2)).drew = w5
    have W5 := cover_world (H.out.q _ HQ4.out) B4.out s.1 v.2 h5.symm
    clear h5
    obtain ⟨y0, y1, y2, y3⟩ := W5
    have Y3 := Lib.hid y3; clear y3
    clear t6 t7 t8 fz fz1 u0 v1
    obtain ⟨x1, _, x3⟩ := FF.out _ (HH.out.quiet Y3.out)
    have F1 := Lib.hid x1; clear x1
    have F3 := Lib.hid x3; clear x3
    have q5 : Quiet w5 (w5.alloc (.cells #[.int .i64 s.1, .int .i64 v.2] 28)) := (Only.refl _ _).alloc _
    have J := Lib.hid (join_at (F1.out.quiet q5) (one_new w5 (s.1, v.2)) (F3.out.quiet q5) (by have := parts_len l s; omega))
    go_wp2_with (go_at_call 26; refine J.out.mono ?_; rintro e w6 ⟨D, d, rfl, h1, h2, h3⟩; have G1 := Lib.hid h1; clear h1; have G2 := Lib.hid h2; clear h2; have G3 := Lib.hid (q5.trans h3); clear h3)
    go_ret2
    try rw [M1.out]
    try rw [M2.out]
    exact ⟨D, d, rfl, G1.out, fun k hk => Nat.le_trans (Y3.out.trans q5).size (G2.out k hk), Y3.out.trans G3.out⟩
  · skip
    have M1 := Lib.hid (show min s.1 u.1 = s.1 by omega)
    have M2 := Lib.hid (show max s.2 v.2 = s.2 by omega)
    go_region
    go_upto_region 9 with (fail)
    generalize h5 : ((w4.setCell ⟨w.heap.size, 0, none⟩ (.int .i64 s.1)).setCell ⟨w.heap.size, 1, none⟩ (.int .i64 s.2)).drew = w5
    have W5 := cover_world (H.out.q _ HQ4.out) B4.out s.1 s.2 h5.symm
    clear h5
    obtain ⟨y0, y1, y2, y3⟩ := W5
    have Y3 := Lib.hid y3; clear y3
    clear t6 t7 t8 fz fz1 u0 v1
    obtain ⟨x1, _, x3⟩ := FF.out _ (HH.out.quiet Y3.out)
    have F1 := Lib.hid x1; clear x1
    have F3 := Lib.hid x3; clear x3
    have q5 : Quiet w5 (w5.alloc (.cells #[.int .i64 s.1, .int .i64 s.2] 28)) := (Only.refl _ _).alloc _
    have J := Lib.hid (join_at (F1.out.quiet q5) (one_new w5 (s.1, s.2)) (F3.out.quiet q5) (by have := parts_len l s; omega))
    go_wp2_with (go_at_call 26; refine J.out.mono ?_; rintro e w6 ⟨D, d, rfl, h1, h2, h3⟩; have G1 := Lib.hid h1; clear h1; have G2 := Lib.hid h2; clear h2; have G3 := Lib.hid (q5.trans h3); clear h3)
    go_ret2
    try rw [M1.out]
    try rw [M2.out]
    exact ⟨D, d, rfl, G1.out, fun k hk => Nat.le_trans (Y3.out.trans q5).size (G2.out k hk), Y3.out.trans G3.out⟩
theorem add_at {w : World} {A : Option Addr} {n c : Nat} {l : List Sp} (h : Sps w A n c l) (s : Sp) :
    Calls Try.prog 8 #[.slice A n c, .agg #[.int .i64 s.1, .int .i64 s.2]] w fun e w' => Res w (addF l s) e w' := by
  unfold addF
  cases hok : okF l s with
  | false =>
    rw [if_pos rfl]
    refine (add_bad h s hok).mono ?_
    rintro e w' ⟨rfl, hq⟩
    exact Res.bad hq
  | true =>
    rw [if_neg (by decide)]
    by_cases he : s.1 = s.2
    · rw [if_pos he]
      exact add_eq h s hok he
    · rw [if_neg he]
      by_cases ho : ownF l s = []
      · rw [show coverF (ownF l s) s = s by rw [ho]; rfl]
        exact add_new h s hok he ho
      · exact add_cover h s hok he ho
end Go.Proofs.Ythhaaakabpnbnaa
