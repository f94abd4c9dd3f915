/-
  The reference's Read. No conditions.
-/
import Derived.Test.YtffockkdiimneaaQBegin
import Derived.Deep.RegionHeld3
namespace Go.Proofs.Ytffockkdiimneaa
open Go.RowKit
set_option linter.unusedVariables false
set_option linter.unusedSimpArgs false

theorem sl_emptyQ {w : World} {g : Nat} {e : TypeId} (h : w.heap[g]? = some (.cells #[] e (0, 0))) : Sl w e (some ⟨g, 0, none⟩) 0 0 [] := ⟨rfl, .inr ⟨g, 0, #[], rfl, h, by omega, by simp, by unfold maxLen; omega, fun i x hx => by simp at hx⟩⟩
theorem fresh_rows {w0 W1 w8 : World} {g : Nat} (hq : Quiet w0 W1) (hg : w0.heap.size ≤ g) (ho : Only (RowOf (some ⟨g, 0, none⟩)) W1 w8) : Quiet w0 w8 ∧ True := by
  have hk : ∀ k, RowOf (some ⟨g, 0, none⟩) k → k = g := fun k ⟨a, e, h⟩ => by
    obtain rfl := Option.some.inj e
    exact h.symm
  exact ⟨Only.over hq ho (fun i hi q => by have := hk i q; omega), trivial⟩
section
variable {w : World} {M : QMem} {d : Desk}
set_option maxRecDepth 8000 in
set_option maxHeartbeats 8000000 in
theorem qread_no (h : QAt w M d) (id at_ n0 : Int) (hf : findJ id d.js = none) :
    Calls Try.prog 21 #[.pointer (some ⟨M.p, 0, none⟩), .int .i64 id, .int .i64 at_, .int .i64 n0] w fun x w' => x = .returned (.tuple #[.slice none 0 0, .int .i64 0, .int .i64 12]) ∧ Quiet w w' := by
  have CF := Lib.hid (qfind h id)
  rw [hf] at CF
  simp only [fpos] at CF
  clear hf h
  go_enter Try.func21, Try.ntmps21
  go_wp2_with (go_at_call 30; refine CF.out.mono ?_; rintro x w2 ⟨rfl, hq⟩; have Q2 := Lib.hid hq; clear hq)
  go_ret3
  exact ⟨rfl, Q2.out⟩
set_option maxRecDepth 8000 in
set_option maxHeartbeats 8000000 in
theorem qread_neg (h : QAt w M d) (id at_ n0 : Int) {i : Nat} {y : QF} (hf : findJ id d.js = some i) (hy : M.ys[i]? = some y) (h1 : at_ < 0) :
    Calls Try.prog 21 #[.pointer (some ⟨M.p, 0, none⟩), .int .i64 id, .int .i64 at_, .int .i64 n0] w fun x w' => x = .returned (.tuple #[.slice none 0 0, .int .i64 0, .int .i64 2]) ∧ Quiet w w' := by
  have CF := Lib.hid (qfind h id)
  rw [hf] at CF
  simp only [fpos] at CF
  obtain ⟨g, cap, hv, hc1, hc2, hpg, hfc⟩ := h.facts hy
  have hgp : g ≠ M.p := fun e => hpg e.symm
  have hi := (List.getElem?_eq_some_iff.1 hy).1
  have hsm := h.small
  have hsb := h.sb y (List.mem_of_getElem? hy)
  have hsl := h.sl y (List.mem_of_getElem? hy)
  have hycap := hsl.capLe
  have hyle := hsl.le
  have HC := Lib.hid hfc
  have H := Lib.hid h
  have HY := Lib.hid hy
  have HV := Lib.hid hv
  have HSL := Lib.hid hsl
  unfold maxLen at hc2 hycap
  obtain ⟨n, hn⟩ : ∃ n, n = M.ys.length := ⟨_, rfl⟩
  rw [← hn] at HC hi hsm hc1
  have HN := Lib.hid hn
  obtain ⟨nb, hnb⟩ : ∃ n, n = y.2.2.bytes.length := ⟨_, rfl⟩
  rw [← hnb] at HC HSL hsb hyle
  have HNB := Lib.hid hnb
  have d1 := decide_eq_true h1
  clear h1
  clear hf h hfc hv hn hy hsl hnb
  have i0 : (0 : Int) ≤ (i : Int) := by omega
  have i1 : (i : Int) < (n : Int) := by omega
  have d0 : decide ((i : Int) < 0) = false := by simp
  go_enter Try.func21, Try.ntmps21
  go_wp2_with (go_at_call 30; refine CF.out.mono ?_; rintro x w2 ⟨rfl, hq⟩; have Q2 := Lib.hid hq; obtain ⟨⟨t0, t1, t2, t3⟩, ⟨q0, q1, q2, q3, q4⟩, qf⟩ := HC.out w2 hq; have qf4 := qf (i * 5 + 4); clear hq qf)
  go_ret3
  exact ⟨rfl, Q2.out⟩
set_option maxRecDepth 8000 in
set_option maxHeartbeats 8000000 in
theorem qread_negn (h : QAt w M d) (id at_ n0 : Int) {i : Nat} {y : QF} (hf : findJ id d.js = some i) (hy : M.ys[i]? = some y) (h1 : ¬ at_ < 0) (h2 : n0 < 0) :
    Calls Try.prog 21 #[.pointer (some ⟨M.p, 0, none⟩), .int .i64 id, .int .i64 at_, .int .i64 n0] w fun x w' => x = .returned (.tuple #[.slice none 0 0, .int .i64 0, .int .i64 2]) ∧ Quiet w w' := by
  have CF := Lib.hid (qfind h id)
  rw [hf] at CF
  simp only [fpos] at CF
  obtain ⟨g, cap, hv, hc1, hc2, hpg, hfc⟩ := h.facts hy
  have hgp : g ≠ M.p := fun e => hpg e.symm
  have hi := (List.getElem?_eq_some_iff.1 hy).1
  have hsm := h.small
  have hsb := h.sb y (List.mem_of_getElem? hy)
  have hsl := h.sl y (List.mem_of_getElem? hy)
  have hycap := hsl.capLe
  have hyle := hsl.le
  have HC := Lib.hid hfc
  have H := Lib.hid h
  have HY := Lib.hid hy
  have HV := Lib.hid hv
  have HSL := Lib.hid hsl
  unfold maxLen at hc2 hycap
  obtain ⟨n, hn⟩ : ∃ n, n = M.ys.length := ⟨_, rfl⟩
  rw [← hn] at HC hi hsm hc1
  have HN := Lib.hid hn
  obtain ⟨nb, hnb⟩ : ∃ n, n = y.2.2.bytes.length := ⟨_, rfl⟩
  rw [← hnb] at HC HSL hsb hyle
  have HNB := Lib.hid hnb
  have d1 := decide_eq_false h1
  have d2 := decide_eq_true h2
  clear h1 h2
  clear hf h hfc hv hn hy hsl hnb
  have i0 : (0 : Int) ≤ (i : Int) := by omega
  have i1 : (i : Int) < (n : Int) := by omega
  have d0 : decide ((i : Int) < 0) = false := by simp
  go_enter Try.func21, Try.ntmps21
  go_wp2_with (go_at_call 30; refine CF.out.mono ?_; rintro x w2 ⟨rfl, hq⟩; have Q2 := Lib.hid hq; obtain ⟨⟨t0, t1, t2, t3⟩, ⟨q0, q1, q2, q3, q4⟩, qf⟩ := HC.out w2 hq; have qf4 := qf (i * 5 + 4); clear hq qf)
  go_ret3
  exact ⟨rfl, Q2.out⟩
set_option maxRecDepth 8000 in
set_option maxHeartbeats 8000000 in
theorem qread_far (h : QAt w M d) (id at_ n0 : Int) {i : Nat} {y : QF} (hf : findJ id d.js = some i) (hy : M.ys[i]? = some y) (h1 : ¬ at_ < 0) (h2 : ¬ n0 < 0) (h3 : (y.2.2.bytes.length : Int) < at_) :
    Calls Try.prog 21 #[.pointer (some ⟨M.p, 0, none⟩), .int .i64 id, .int .i64 at_, .int .i64 n0] w fun x w' => x = .returned (.tuple #[.slice none 0 0, .int .i64 0, .int .i64 2]) ∧ Quiet w w' := by
  have CF := Lib.hid (qfind h id)
  rw [hf] at CF
  simp only [fpos] at CF
  obtain ⟨g, cap, hv, hc1, hc2, hpg, hfc⟩ := h.facts hy
  have hgp : g ≠ M.p := fun e => hpg e.symm
  have hi := (List.getElem?_eq_some_iff.1 hy).1
  have hsm := h.small
  have hsb := h.sb y (List.mem_of_getElem? hy)
  have hsl := h.sl y (List.mem_of_getElem? hy)
  have hycap := hsl.capLe
  have hyle := hsl.le
  have HC := Lib.hid hfc
  have H := Lib.hid h
  have HY := Lib.hid hy
  have HV := Lib.hid hv
  have HSL := Lib.hid hsl
  unfold maxLen at hc2 hycap
  obtain ⟨n, hn⟩ : ∃ n, n = M.ys.length := ⟨_, rfl⟩
  rw [← hn] at HC hi hsm hc1
  have HN := Lib.hid hn
  obtain ⟨nb, hnb⟩ : ∃ n, n = y.2.2.bytes.length := ⟨_, rfl⟩
  rw [← hnb] at HC HSL hsb hyle
  have HNB := Lib.hid hnb
  rw [← hnb] at h3
  have d1 := decide_eq_false h1
  have d2 := decide_eq_false h2
  have d3 := decide_eq_true h3
  clear h1 h2 h3
  clear hf h hfc hv hn hy hsl hnb
  have i0 : (0 : Int) ≤ (i : Int) := by omega
  have i1 : (i : Int) < (n : Int) := by omega
  have d0 : decide ((i : Int) < 0) = false := by simp
  go_enter Try.func21, Try.ntmps21
  go_wp2_with (go_at_call 30; refine CF.out.mono ?_; rintro x w2 ⟨rfl, hq⟩; have Q2 := Lib.hid hq; obtain ⟨⟨t0, t1, t2, t3⟩, ⟨q0, q1, q2, q3, q4⟩, qf⟩ := HC.out w2 hq; have qf4 := qf (i * 5 + 4); clear hq qf)
  go_ret3
  exact ⟨rfl, Q2.out⟩
set_option maxRecDepth 8000 in
set_option maxHeartbeats 8000000 in
theorem qread_none (h : QAt w M d) (id : Int) (a m : Nat) {i : Nat} {y : QF} (hf : findJ id d.js = some i) (hy : M.ys[i]? = some y) (ha : a ≤ y.2.2.bytes.length) (hA : y.1.A = none) :
    Calls Try.prog 21 #[.pointer (some ⟨M.p, 0, none⟩), .int .i64 id, .int .i64 (a : Int), .int .i64 (m : Int)] w fun x w' => ∃ A' c', x = .returned (.tuple #[.slice A' ((y.2.2.bytes.drop a).take m).length c', .int .i64 (y.2.2.state : Nat), .int .i64 0]) ∧ Sl w' 5 A' ((y.2.2.bytes.drop a).take m).length c' (bytes ((y.2.2.bytes.drop a).take m)) ∧ Quiet w w' := by
  have CF := Lib.hid (qfind h id)
  rw [hf] at CF
  simp only [fpos] at CF
  obtain ⟨g, cap, hv, hc1, hc2, hpg, hfc⟩ := h.facts hy
  have hgp : g ≠ M.p := fun e => hpg e.symm
  have hi := (List.getElem?_eq_some_iff.1 hy).1
  have hsm := h.small
  have hsb := h.sb y (List.mem_of_getElem? hy)
  have hsl := h.sl y (List.mem_of_getElem? hy)
  have hycap := hsl.capLe
  have hyle := hsl.le
  have HC := Lib.hid hfc
  have H := Lib.hid h
  have HY := Lib.hid hy
  have HV := Lib.hid hv
  have HSL := Lib.hid hsl
  unfold maxLen at hc2 hycap
  obtain ⟨n, hn⟩ : ∃ n, n = M.ys.length := ⟨_, rfl⟩
  rw [← hn] at HC hi hsm hc1
  have HN := Lib.hid hn
  obtain ⟨nb, hnb⟩ : ∃ n, n = y.2.2.bytes.length := ⟨_, rfl⟩
  rw [← hnb] at HC HSL hsb hyle
  have HNB := Lib.hid hnb
  rw [← hnb] at ha
  obtain ⟨cc, hcc⟩ : ∃ n, n = y.1.c := ⟨_, rfl⟩
  rw [← hcc] at HC hycap hyle HSL
  have hst : ((y.2.2.bytes.drop a).take m).length = min m (nb - a) := by rw [List.length_take, List.length_drop, ← hnb]
  obtain ⟨i5, h50, h51, h52, h53⟩ := info_parts Try.row5q
  have hz : nb = 0 ∧ cc = 0 := by
    rcases HSL.out.2 with ⟨_, h2, h3⟩ | ⟨_, _, _, h1, _⟩
    · exact ⟨h2, h3⟩
    · rw [hA] at h1; cases h1
  obtain ⟨rfl, rfl⟩ := hz
  obtain rfl : a = 0 := by omega
  have HK := Lib.hid (show ((y.2.2.bytes.drop 0).take m).length = 0 by rw [hst]; simp)
  have HSR := Lib.hid (fun (V : World) (hV : Quiet w V) => show Src V none (bytes ((y.2.2.bytes.drop 0).take m)) from fun h0 => by rw [bytes_len, HK.out] at h0; omega)
  have HNILL := Lib.hid (show (none : Option Addr) = none → 0 = 0 from fun _ => rfl)
  rw [hA] at HC
  clear hst hA
  obtain ⟨st, hstt⟩ : ∃ n, n = y.2.2.state := ⟨_, rfl⟩
  rw [← hstt] at HC ⊢
  clear hstt hcc
  clear hf h hfc hv hn hy hsl hnb
  have i0 : (0 : Int) ≤ (i : Int) := by omega
  have i1 : (i : Int) < (n : Int) := by omega
  have d0 : decide ((i : Int) < 0) = false := by simp
  have m0 : (0 : Int) ≤ (m : Int) := by omega
  have d1 : decide (((0 : Nat) : Int) < 0) = false := by simp
  have d2 : decide ((m : Int) < 0) = false := by simp
  go_enter Try.func21, Try.ntmps21
  go_wp2_with (go_at_call 30; refine CF.out.mono ?_; rintro x w2 ⟨rfl, hq⟩; have Q2 := Lib.hid hq; obtain ⟨⟨t0, t1, t2, t3⟩, ⟨q0, q1, q2, q3, q4⟩, qf⟩ := HC.out w2 hq; clear hq qf)
  refine wp_region_noPanic ?_
  refine wp_region_held_drew (S := (fun w' => w'.cell? ⟨M.p, 0, none⟩ = some (.slice (some ⟨g, 0, none⟩) n cap) ∧ w'.cell? ⟨g, i * 5 + 1, none⟩ = some (.int .i64 (st : Nat)))) (by kernel_rfl) ?_ (fun hHeld => ?_)
  · try dsimp only
    (first | exact ⟨t0, q1⟩ | exact ⟨z0, z5⟩ | go_keep)
  refine wpAnyH_take (i := 1) (v := ?_) (at_list rfl) (by kernel_rfl) (by kernel_rfl) (by kernel_rfl) (fun _ _ _ h => h) (Or.inl ⟨by rfl, ?_⟩) (by assumption) ?_
  rotate_left
  · intro w hSw
    try dsimp only at hSw
    go_simp
    try with_reducible rfl
  simp only [Act.put, List.setIfInBounds_toArray, List.set_cons_zero, List.set_cons_succ]
  refine wpAnyH_take (i := 3) (v := ?_) (at_list rfl) (by kernel_rfl) (by kernel_rfl) (by kernel_rfl) (fun _ _ _ h => h) (Or.inl ⟨by rfl, ?_⟩) (by assumption) ?_
  rotate_left
  · intro w hSw
    try dsimp only at hSw
    go_simp
    try with_reducible rfl
  simp only [Act.put, List.setIfInBounds_toArray, List.set_cons_zero, List.set_cons_succ]
  refine wpAnyH_take (i := 4) (v := ?_) (at_list rfl) (by kernel_rfl) (by kernel_rfl) (by kernel_rfl) (fun _ _ _ h => h) (Or.inl ⟨by rfl, ?_⟩) (by assumption) ?_
  rotate_left
  · intro w hSw
    try dsimp only at hSw
    go_simp
    try with_reducible rfl
  simp only [Act.put, List.setIfInBounds_toArray, List.set_cons_zero, List.set_cons_succ]
  refine wpAnyH_take (i := 5) (v := ?_) (at_list rfl) (by kernel_rfl) (by kernel_rfl) (by kernel_rfl) (fun _ _ _ h => h) (Or.inl ⟨by rfl, ?_⟩) (by assumption) ?_
  rotate_left
  · intro w hSw
    try dsimp only at hSw
    go_simp
    try with_reducible rfl
  simp only [Act.put, List.setIfInBounds_toArray, List.set_cons_zero, List.set_cons_succ]
  refine wpAnyH_take (i := 6) (v := ?_) (at_list rfl) (by kernel_rfl) (by kernel_rfl) (by kernel_rfl) (fun _ _ _ h => h) (Or.inl ⟨by rfl, ?_⟩) (by assumption) ?_
  rotate_left
  · intro w hSw
    try dsimp only at hSw
    go_simp
    try with_reducible rfl
  simp only [Act.put, List.setIfInBounds_toArray, List.set_cons_zero, List.set_cons_succ]
  refine wpAnyH_take (i := 7) (v := ?_) (at_list rfl) (by kernel_rfl) (by kernel_rfl) (by kernel_rfl) (fun _ _ _ h => h) (Or.inl ⟨by rfl, ?_⟩) (by assumption) ?_
  rotate_left
  · intro w hSw
    try dsimp only at hSw
    go_simp
    try with_reducible rfl
  simp only [Act.put, List.setIfInBounds_toArray, List.set_cons_zero, List.set_cons_succ]
  refine wpAnyH_take (i := 8) (v := ?_) (at_list rfl) (by kernel_rfl) (by kernel_rfl) (by kernel_rfl) (fun _ _ _ h => h) (Or.inl ⟨by rfl, ?_⟩) (by assumption) ?_
  rotate_left
  · intro w hSw
    try dsimp only at hSw
    go_simp
    try with_reducible rfl
  simp only [Act.put, List.setIfInBounds_toArray, List.set_cons_zero, List.set_cons_succ]
  refine wpAnyH_take (i := 9) (v := ?_) (at_list rfl) (by kernel_rfl) (by kernel_rfl) (by kernel_rfl) (fun _ _ _ h => h) (Or.inl ⟨by rfl, ?_⟩) (by assumption) ?_
  rotate_left
  · intro w hSw
    try dsimp only at hSw
    go_simp
    try with_reducible rfl
  simp only [Act.put, List.setIfInBounds_toArray, List.set_cons_zero, List.set_cons_succ]
  refine wpAnyH_take (i := 10) (v := ?_) (at_list rfl) (by kernel_rfl) (by kernel_rfl) (by kernel_rfl) (fun _ _ _ h => h) (Or.inl ⟨by rfl, ?_⟩) (by assumption) ?_
  rotate_left
  · intro w hSw
    try dsimp only at hSw
    go_simp
    try with_reducible rfl
  simp only [Act.put, List.setIfInBounds_toArray, List.set_cons_zero, List.set_cons_succ]
  refine wpAnyH_ready (rs := [0]) (by kernel_rfl) (by simp) ?_
  refine AllReadyH.cons (at_list rfl) (fun KK hKK => ?_) AllReadyH.nil
  go_simp
  refine hKK.out _ _ ?_ (fun hHeld2 => ?_)
  · try dsimp only
    (first | exact ⟨t0, q1⟩ | exact ⟨z0, z5⟩ | go_keep)
  clear hKK KK hHeld
  rename _ => hHeld
  try simp only [Act.put, List.setIfInBounds_toArray, List.set_cons_zero, List.set_cons_succ]
  refine wpAnyH_ready (rs := [2]) (by kernel_rfl) (by simp) ?_
  refine AllReadyH.cons (at_list rfl) (fun KK hKK => ?_) AllReadyH.nil
  refine step_append_sl _ (by rfl) (.tmp 54) (.tmp 55) 22 (by rfl) 5 i5 (.int .u8 0) 1 Try.underlying22 h50 h51 h52 h53 rfl (some ⟨w2.heap.size, 0, none⟩) 0 0 [] (by rfl) (sl_emptyQ (by repeat (first | exact qblk_new' _ _ (by first | rfl | simp) | refine qblk_drewN ?_ | refine qblk_drew ?_ | refine blk_alloc ?_ _))) none 0 0 (bytes ((y.2.2.bytes.drop 0).take m)) (by rfl) (by rw [bytes_len, HK.out]) (HSR.out _ (by repeat (first | exact Only.refl _ _ | exact Q2.out | refine Only.drewN ?_ _ | refine Only.drew ?_ | refine Only.alloc ?_ _))) (fun _ => rfl) (bytes_one _) (by unfold maxLen; omega) (by omega) ?_
  intro A8 c8 w8 hs8 ho8 hr8
  rw [Nat.zero_add, List.nil_append] at hs8
  try simp only [Nat.zero_add]
  have hq8 : Quiet w w8 := (fresh_rows (w0 := w) (by repeat (first | exact Only.refl _ _ | exact Q2.out | refine Only.drewN ?_ _ | refine Only.drew ?_ | refine Only.alloc ?_ _)) Q2.out.size ho8).1
  have HS8 := Lib.hid hs8
  have Q8 := Lib.hid hq8
  obtain ⟨⟨z0, z1, z2, z3⟩, ⟨z4, z5, z6, z7, z8⟩, zf⟩ := HC.out w8 hq8
  clear hs8 ho8 hr8 hq8 zf
  refine hKK.out _ _ ?_ (fun hHeld2 => ?_)
  · try dsimp only
    (first | exact ⟨t0, q1⟩ | exact ⟨z0, z5⟩ | go_keep)
  clear hKK KK hHeld
  rename _ => hHeld
  try simp only [Act.put, List.setIfInBounds_toArray, List.set_cons_zero, List.set_cons_succ]
  refine wpAnyH_take (i := 11) (v := ?_) (at_list rfl) (by kernel_rfl) (by kernel_rfl) (by kernel_rfl) (fun _ _ _ h => h) (Or.inl ⟨by rfl, ?_⟩) (by assumption) ?_
  rotate_left
  · intro w hSw
    try dsimp only at hSw
    go_simp
    try with_reducible rfl
  simp only [Act.put, List.setIfInBounds_toArray, List.set_cons_zero, List.set_cons_succ]
  refine wpAnyH_take (i := 12) (v := ?_) (at_list rfl) (by kernel_rfl) (by kernel_rfl) (by kernel_rfl) (fun _ _ _ h => h) (Or.inl ⟨by rfl, ?_⟩) (by assumption) ?_
  rotate_left
  · intro w hSw
    try dsimp only at hSw
    go_simp
    try with_reducible rfl
  simp only [Act.put, List.setIfInBounds_toArray, List.set_cons_zero, List.set_cons_succ]
  refine wpAnyH_take (i := 13) (v := ?_) (at_list rfl) (by kernel_rfl) (by kernel_rfl) (by kernel_rfl) (fun _ _ _ h => h) (Or.inl ⟨by rfl, ?_⟩) (by assumption) ?_
  rotate_left
  · intro w hSw
    try dsimp only at hSw
    go_simp
    try with_reducible rfl
  simp only [Act.put, List.setIfInBounds_toArray, List.set_cons_zero, List.set_cons_succ]
  refine wpAnyH_done (by kernel_rfl) ?_ _
  refine NoPanic.normal ?_
  go_wp2_with fail
  go_ret3
  exact ⟨A8, c8, by first | (rw [HK.out]; done) | (rw [HK.out]; rfl), by rw [HK.out]; exact HS8.out, Q8.out⟩
set_option maxRecDepth 8000 in
set_option maxHeartbeats 8000000 in
theorem qread_full (h : QAt w M d) (id : Int) (a m : Nat) {i : Nat} {y : QF} (hf : findJ id d.js = some i) (hy : M.ys[i]? = some y) (ha : a ≤ y.2.2.bytes.length) (hA0 : y.1.A ≠ none) (hc0 : y.1.c = a) :
    Calls Try.prog 21 #[.pointer (some ⟨M.p, 0, none⟩), .int .i64 id, .int .i64 (a : Int), .int .i64 (m : Int)] w fun x w' => ∃ A' c', x = .returned (.tuple #[.slice A' ((y.2.2.bytes.drop a).take m).length c', .int .i64 (y.2.2.state : Nat), .int .i64 0]) ∧ Sl w' 5 A' ((y.2.2.bytes.drop a).take m).length c' (bytes ((y.2.2.bytes.drop a).take m)) ∧ Quiet w w' := by
  have CF := Lib.hid (qfind h id)
  rw [hf] at CF
  simp only [fpos] at CF
  obtain ⟨g, cap, hv, hc1, hc2, hpg, hfc⟩ := h.facts hy
  have hgp : g ≠ M.p := fun e => hpg e.symm
  have hi := (List.getElem?_eq_some_iff.1 hy).1
  have hsm := h.small
  have hsb := h.sb y (List.mem_of_getElem? hy)
  have hsl := h.sl y (List.mem_of_getElem? hy)
  have hycap := hsl.capLe
  have hyle := hsl.le
  have HC := Lib.hid hfc
  have H := Lib.hid h
  have HY := Lib.hid hy
  have HV := Lib.hid hv
  have HSL := Lib.hid hsl
  unfold maxLen at hc2 hycap
  obtain ⟨n, hn⟩ : ∃ n, n = M.ys.length := ⟨_, rfl⟩
  rw [← hn] at HC hi hsm hc1
  have HN := Lib.hid hn
  obtain ⟨nb, hnb⟩ : ∃ n, n = y.2.2.bytes.length := ⟨_, rfl⟩
  rw [← hnb] at HC HSL hsb hyle
  have HNB := Lib.hid hnb
  rw [← hnb] at ha
  obtain ⟨cc, hcc⟩ : ∃ n, n = y.1.c := ⟨_, rfl⟩
  rw [← hcc] at HC hycap hyle HSL
  have hst : ((y.2.2.bytes.drop a).take m).length = min m (nb - a) := by rw [List.length_take, List.length_drop, ← hnb]
  obtain ⟨i5, h50, h51, h52, h53⟩ := info_parts Try.row5q
  rw [← hcc] at hc0
  have hc0 := hc0.symm
  subst hc0
  have hnba : a = nb := by omega
  subst hnba
  have HK := Lib.hid (show ((y.2.2.bytes.drop a).take m).length = 0 by rw [hst]; omega)
  obtain ⟨gx, ox, hA⟩ : ∃ gx ox, y.1.A = some ⟨gx, ox, none⟩ := by
    rcases HSL.out.2 with ⟨h1, h2, h3⟩ | ⟨g', off, cu, h1, _⟩
    · exact (hA0 h1).elim
    · exact ⟨_, _, h1⟩
  have hcut := HSL.out.cut (m := a) ha
  have HSR := Lib.hid (fun (V : World) (hV : Quiet w V) => show Src V (some ⟨gx, ox, none⟩) (bytes ((y.2.2.bytes.drop a).take m)) from by
    have hc2 := (hcut.only hV (fun _ _ x => x)).take (m := 0) (by omega)
    rw [if_pos rfl, hA] at hc2
    rw [bytes_drop, bytes_take, show (y.2.2.bytes.drop a).take 0 = (y.2.2.bytes.drop a).take m by rw [show (y.2.2.bytes.drop a) = [] by rw [List.drop_eq_nil_of_le (by rw [← HNB.out]; omega)]]; simp] at hc2
    exact hc2.src)
  have HNILL := Lib.hid (show ((some ⟨gx, ox, none⟩) : Option Addr) = none → 0 = 0 from nofun)
  rw [hA] at HC
  clear hst hA hcut hA0
  obtain ⟨st, hstt⟩ : ∃ n, n = y.2.2.state := ⟨_, rfl⟩
  rw [← hstt] at HC ⊢
  clear hstt hcc
  clear hf h hfc hv hn hy hsl hnb
  have i0 : (0 : Int) ≤ (i : Int) := by omega
  have i1 : (i : Int) < (n : Int) := by omega
  have d0 : decide ((i : Int) < 0) = false := by simp
  have a0 : (0 : Int) ≤ (a : Int) := by omega
  have m0 : (0 : Int) ≤ (m : Int) := by omega
  have d1 : decide ((a : Int) < 0) = false := by simp
  have d2 : decide ((m : Int) < 0) = false := by simp
  go_enter Try.func21, Try.ntmps21
  go_wp2_with (go_at_call 30; refine CF.out.mono ?_; rintro x w2 ⟨rfl, hq⟩; have Q2 := Lib.hid hq; obtain ⟨⟨t0, t1, t2, t3⟩, ⟨q0, q1, q2, q3, q4⟩, qf⟩ := HC.out w2 hq; clear hq qf)
  refine wp_region_noPanic ?_
  refine wp_region_held_drew (S := (fun w' => w'.cell? ⟨M.p, 0, none⟩ = some (.slice (some ⟨g, 0, none⟩) n cap) ∧ w'.cell? ⟨g, i * 5 + 1, none⟩ = some (.int .i64 (st : Nat)))) (by kernel_rfl) ?_ (fun hHeld => ?_)
  · try dsimp only
    (first | exact ⟨t0, q1⟩ | exact ⟨z0, z5⟩ | go_keep)
  refine wpAnyH_take (i := 1) (v := ?_) (at_list rfl) (by kernel_rfl) (by kernel_rfl) (by kernel_rfl) (fun _ _ _ h => h) (Or.inl ⟨by rfl, ?_⟩) (by assumption) ?_
  rotate_left
  · intro w hSw
    try dsimp only at hSw
    go_simp
    try with_reducible rfl
  simp only [Act.put, List.setIfInBounds_toArray, List.set_cons_zero, List.set_cons_succ]
  refine wpAnyH_take (i := 3) (v := ?_) (at_list rfl) (by kernel_rfl) (by kernel_rfl) (by kernel_rfl) (fun _ _ _ h => h) (Or.inl ⟨by rfl, ?_⟩) (by assumption) ?_
  rotate_left
  · intro w hSw
    try dsimp only at hSw
    go_simp
    try with_reducible rfl
  simp only [Act.put, List.setIfInBounds_toArray, List.set_cons_zero, List.set_cons_succ]
  refine wpAnyH_take (i := 4) (v := ?_) (at_list rfl) (by kernel_rfl) (by kernel_rfl) (by kernel_rfl) (fun _ _ _ h => h) (Or.inl ⟨by rfl, ?_⟩) (by assumption) ?_
  rotate_left
  · intro w hSw
    try dsimp only at hSw
    go_simp
    try with_reducible rfl
  simp only [Act.put, List.setIfInBounds_toArray, List.set_cons_zero, List.set_cons_succ]
  refine wpAnyH_take (i := 5) (v := ?_) (at_list rfl) (by kernel_rfl) (by kernel_rfl) (by kernel_rfl) (fun _ _ _ h => h) (Or.inl ⟨by rfl, ?_⟩) (by assumption) ?_
  rotate_left
  · intro w hSw
    try dsimp only at hSw
    go_simp
    try with_reducible rfl
  simp only [Act.put, List.setIfInBounds_toArray, List.set_cons_zero, List.set_cons_succ]
  refine wpAnyH_take (i := 6) (v := ?_) (at_list rfl) (by kernel_rfl) (by kernel_rfl) (by kernel_rfl) (fun _ _ _ h => h) (Or.inl ⟨by rfl, ?_⟩) (by assumption) ?_
  rotate_left
  · intro w hSw
    try dsimp only at hSw
    go_simp
    try with_reducible rfl
  simp only [Act.put, List.setIfInBounds_toArray, List.set_cons_zero, List.set_cons_succ]
  refine wpAnyH_take (i := 7) (v := ?_) (at_list rfl) (by kernel_rfl) (by kernel_rfl) (by kernel_rfl) (fun _ _ _ h => h) (Or.inl ⟨by rfl, ?_⟩) (by assumption) ?_
  rotate_left
  · intro w hSw
    try dsimp only at hSw
    go_simp
    try with_reducible rfl
  simp only [Act.put, List.setIfInBounds_toArray, List.set_cons_zero, List.set_cons_succ]
  refine wpAnyH_take (i := 8) (v := ?_) (at_list rfl) (by kernel_rfl) (by kernel_rfl) (by kernel_rfl) (fun _ _ _ h => h) (Or.inl ⟨by rfl, ?_⟩) (by assumption) ?_
  rotate_left
  · intro w hSw
    try dsimp only at hSw
    go_simp
    try with_reducible rfl
  simp only [Act.put, List.setIfInBounds_toArray, List.set_cons_zero, List.set_cons_succ]
  refine wpAnyH_take (i := 9) (v := ?_) (at_list rfl) (by kernel_rfl) (by kernel_rfl) (by kernel_rfl) (fun _ _ _ h => h) (Or.inl ⟨by rfl, ?_⟩) (by assumption) ?_
  rotate_left
  · intro w hSw
    try dsimp only at hSw
    go_simp
    try with_reducible rfl
  simp only [Act.put, List.setIfInBounds_toArray, List.set_cons_zero, List.set_cons_succ]
  refine wpAnyH_take (i := 10) (v := ?_) (at_list rfl) (by kernel_rfl) (by kernel_rfl) (by kernel_rfl) (fun _ _ _ h => h) (Or.inl ⟨by rfl, ?_⟩) (by assumption) ?_
  rotate_left
  · intro w hSw
    try dsimp only at hSw
    go_simp
    try with_reducible rfl
  simp only [Act.put, List.setIfInBounds_toArray, List.set_cons_zero, List.set_cons_succ]
  refine wpAnyH_ready (rs := [0]) (by kernel_rfl) (by simp) ?_
  refine AllReadyH.cons (at_list rfl) (fun KK hKK => ?_) AllReadyH.nil
  go_simp
  refine hKK.out _ _ ?_ (fun hHeld2 => ?_)
  · try dsimp only
    (first | exact ⟨t0, q1⟩ | exact ⟨z0, z5⟩ | go_keep)
  clear hKK KK hHeld
  rename _ => hHeld
  try simp only [Act.put, List.setIfInBounds_toArray, List.set_cons_zero, List.set_cons_succ]
  refine wpAnyH_ready (rs := [2]) (by kernel_rfl) (by simp) ?_
  refine AllReadyH.cons (at_list rfl) (fun KK hKK => ?_) AllReadyH.nil
  refine step_append_sl _ (by rfl) (.tmp 54) (.tmp 55) 22 (by rfl) 5 i5 (.int .u8 0) 1 Try.underlying22 h50 h51 h52 h53 rfl (some ⟨w2.heap.size, 0, none⟩) 0 0 [] (by rfl) (sl_emptyQ (by repeat (first | exact qblk_new' _ _ (by first | rfl | simp) | refine qblk_drewN ?_ | refine qblk_drew ?_ | refine blk_alloc ?_ _))) (some ⟨gx, ox, none⟩) 0 0 (bytes ((y.2.2.bytes.drop a).take m)) (by rfl) (by rw [bytes_len, HK.out]) (HSR.out _ (by repeat (first | exact Only.refl _ _ | exact Q2.out | refine Only.drewN ?_ _ | refine Only.drew ?_ | refine Only.alloc ?_ _))) (fun _ => rfl) (bytes_one _) (by unfold maxLen; omega) (by omega) ?_
  intro A8 c8 w8 hs8 ho8 hr8
  rw [Nat.zero_add, List.nil_append] at hs8
  try simp only [Nat.zero_add]
  have hq8 : Quiet w w8 := (fresh_rows (w0 := w) (by repeat (first | exact Only.refl _ _ | exact Q2.out | refine Only.drewN ?_ _ | refine Only.drew ?_ | refine Only.alloc ?_ _)) Q2.out.size ho8).1
  have HS8 := Lib.hid hs8
  have Q8 := Lib.hid hq8
  obtain ⟨⟨z0, z1, z2, z3⟩, ⟨z4, z5, z6, z7, z8⟩, zf⟩ := HC.out w8 hq8
  clear hs8 ho8 hr8 hq8 zf
  refine hKK.out _ _ ?_ (fun hHeld2 => ?_)
  · try dsimp only
    (first | exact ⟨t0, q1⟩ | exact ⟨z0, z5⟩ | go_keep)
  clear hKK KK hHeld
  rename _ => hHeld
  try simp only [Act.put, List.setIfInBounds_toArray, List.set_cons_zero, List.set_cons_succ]
  refine wpAnyH_take (i := 11) (v := ?_) (at_list rfl) (by kernel_rfl) (by kernel_rfl) (by kernel_rfl) (fun _ _ _ h => h) (Or.inl ⟨by rfl, ?_⟩) (by assumption) ?_
  rotate_left
  · intro w hSw
    try dsimp only at hSw
    go_simp
    try with_reducible rfl
  simp only [Act.put, List.setIfInBounds_toArray, List.set_cons_zero, List.set_cons_succ]
  refine wpAnyH_take (i := 12) (v := ?_) (at_list rfl) (by kernel_rfl) (by kernel_rfl) (by kernel_rfl) (fun _ _ _ h => h) (Or.inl ⟨by rfl, ?_⟩) (by assumption) ?_
  rotate_left
  · intro w hSw
    try dsimp only at hSw
    go_simp
    try with_reducible rfl
  simp only [Act.put, List.setIfInBounds_toArray, List.set_cons_zero, List.set_cons_succ]
  refine wpAnyH_take (i := 13) (v := ?_) (at_list rfl) (by kernel_rfl) (by kernel_rfl) (by kernel_rfl) (fun _ _ _ h => h) (Or.inl ⟨by rfl, ?_⟩) (by assumption) ?_
  rotate_left
  · intro w hSw
    try dsimp only at hSw
    go_simp
    try with_reducible rfl
  simp only [Act.put, List.setIfInBounds_toArray, List.set_cons_zero, List.set_cons_succ]
  refine wpAnyH_done (by kernel_rfl) ?_ _
  refine NoPanic.normal ?_
  go_wp2_with fail
  go_ret3
  exact ⟨A8, c8, by first | (rw [HK.out]; done) | (rw [HK.out]; rfl), by rw [HK.out]; exact HS8.out, Q8.out⟩
set_option maxRecDepth 8000 in
set_option maxHeartbeats 8000000 in
theorem qread_all (h : QAt w M d) (id : Int) (a m : Nat) {i : Nat} {y : QF} (hf : findJ id d.js = some i) (hy : M.ys[i]? = some y) (ha : a ≤ y.2.2.bytes.length) (hA0 : y.1.A ≠ none) (hc0 : y.1.c ≠ a) (hm : y.2.2.bytes.length - a ≤ m) :
    Calls Try.prog 21 #[.pointer (some ⟨M.p, 0, none⟩), .int .i64 id, .int .i64 (a : Int), .int .i64 (m : Int)] w fun x w' => ∃ A' c', x = .returned (.tuple #[.slice A' ((y.2.2.bytes.drop a).take m).length c', .int .i64 (y.2.2.state : Nat), .int .i64 0]) ∧ Sl w' 5 A' ((y.2.2.bytes.drop a).take m).length c' (bytes ((y.2.2.bytes.drop a).take m)) ∧ Quiet w w' := by
  have CF := Lib.hid (qfind h id)
  rw [hf] at CF
  simp only [fpos] at CF
  obtain ⟨g, cap, hv, hc1, hc2, hpg, hfc⟩ := h.facts hy
  have hgp : g ≠ M.p := fun e => hpg e.symm
  have hi := (List.getElem?_eq_some_iff.1 hy).1
  have hsm := h.small
  have hsb := h.sb y (List.mem_of_getElem? hy)
  have hsl := h.sl y (List.mem_of_getElem? hy)
  have hycap := hsl.capLe
  have hyle := hsl.le
  have HC := Lib.hid hfc
  have H := Lib.hid h
  have HY := Lib.hid hy
  have HV := Lib.hid hv
  have HSL := Lib.hid hsl
  unfold maxLen at hc2 hycap
  obtain ⟨n, hn⟩ : ∃ n, n = M.ys.length := ⟨_, rfl⟩
  rw [← hn] at HC hi hsm hc1
  have HN := Lib.hid hn
  obtain ⟨nb, hnb⟩ : ∃ n, n = y.2.2.bytes.length := ⟨_, rfl⟩
  rw [← hnb] at HC HSL hsb hyle
  have HNB := Lib.hid hnb
  rw [← hnb] at ha
  obtain ⟨cc, hcc⟩ : ∃ n, n = y.1.c := ⟨_, rfl⟩
  rw [← hcc] at HC hycap hyle HSL
  have hst : ((y.2.2.bytes.drop a).take m).length = min m (nb - a) := by rw [List.length_take, List.length_drop, ← hnb]
  obtain ⟨i5, h50, h51, h52, h53⟩ := info_parts Try.row5q
  rw [← hcc] at hc0
  rw [← hnb] at hm
  have HK := Lib.hid (show ((y.2.2.bytes.drop a).take m).length = (nb - a) by rw [hst]; omega)
  obtain ⟨gx, ox, hA⟩ : ∃ gx ox, y.1.A = some ⟨gx, ox, none⟩ := by
    rcases HSL.out.2 with ⟨h1, h2, h3⟩ | ⟨g', off, cu, h1, _⟩
    · exact (hA0 h1).elim
    · exact ⟨_, _, h1⟩
  have hcut := HSL.out.cut (m := a) ha
  have HSR := Lib.hid (fun (V : World) (hV : Quiet w V) => show Src V (some ⟨gx, ox + a, none⟩) (bytes ((y.2.2.bytes.drop a).take m)) from by
    have hc2 := (hcut.only hV (fun _ _ x => x)).take (m := (nb - a)) (by omega)
    rw [if_neg hc0, hA, Option.map_some, Addr.add_lit] at hc2
    rw [bytes_drop, bytes_take, show (y.2.2.bytes.drop a).take (nb - a) = (y.2.2.bytes.drop a).take m by rw [List.take_of_length_le (by rw [List.length_drop, ← HNB.out]; omega), List.take_of_length_le (by rw [List.length_drop, ← HNB.out]; omega)]] at hc2
    exact hc2.src)
  have HNILL := Lib.hid (show ((some ⟨gx, ox + a, none⟩) : Option Addr) = none → (nb - a) = 0 from nofun)
  rw [hA] at HC
  have d3 : decide ((nb : Int) < (a : Int)) = false := by simp; omega
  have d4 : decide ((m : Int) < ((nb - a : Nat) : Int)) = false := by simp; omega
  have a1 : (a : Int) ≤ (nb : Int) := by omega
  clear hst hA hcut hA0
  obtain ⟨st, hstt⟩ : ∃ n, n = y.2.2.state := ⟨_, rfl⟩
  rw [← hstt] at HC ⊢
  clear hstt hcc
  clear hf h hfc hv hn hy hsl hnb
  have i0 : (0 : Int) ≤ (i : Int) := by omega
  have i1 : (i : Int) < (n : Int) := by omega
  have d0 : decide ((i : Int) < 0) = false := by simp
  have a0 : (0 : Int) ≤ (a : Int) := by omega
  have m0 : (0 : Int) ≤ (m : Int) := by omega
  have d1 : decide ((a : Int) < 0) = false := by simp
  have d2 : decide ((m : Int) < 0) = false := by simp
  go_enter Try.func21, Try.ntmps21
  go_wp2_with (go_at_call 30; refine CF.out.mono ?_; rintro x w2 ⟨rfl, hq⟩; have Q2 := Lib.hid hq; obtain ⟨⟨t0, t1, t2, t3⟩, ⟨q0, q1, q2, q3, q4⟩, qf⟩ := HC.out w2 hq; clear hq qf)
  refine wp_region_noPanic ?_
  refine wp_region_held_drew (S := (fun w' => w'.cell? ⟨M.p, 0, none⟩ = some (.slice (some ⟨g, 0, none⟩) n cap) ∧ w'.cell? ⟨g, i * 5 + 1, none⟩ = some (.int .i64 (st : Nat)))) (by kernel_rfl) ?_ (fun hHeld => ?_)
  · try dsimp only
    (first | exact ⟨t0, q1⟩ | exact ⟨z0, z5⟩ | go_keep)
  refine wpAnyH_take (i := 1) (v := ?_) (at_list rfl) (by kernel_rfl) (by kernel_rfl) (by kernel_rfl) (fun _ _ _ h => h) (Or.inl ⟨by rfl, ?_⟩) (by assumption) ?_
  rotate_left
  · intro w hSw
    try dsimp only at hSw
    go_simp
    try with_reducible rfl
  simp only [Act.put, List.setIfInBounds_toArray, List.set_cons_zero, List.set_cons_succ]
  refine wpAnyH_take (i := 3) (v := ?_) (at_list rfl) (by kernel_rfl) (by kernel_rfl) (by kernel_rfl) (fun _ _ _ h => h) (Or.inl ⟨by rfl, ?_⟩) (by assumption) ?_
  rotate_left
  · intro w hSw
    try dsimp only at hSw
    go_simp
    try with_reducible rfl
  simp only [Act.put, List.setIfInBounds_toArray, List.set_cons_zero, List.set_cons_succ]
  refine wpAnyH_take (i := 4) (v := ?_) (at_list rfl) (by kernel_rfl) (by kernel_rfl) (by kernel_rfl) (fun _ _ _ h => h) (Or.inl ⟨by rfl, ?_⟩) (by assumption) ?_
  rotate_left
  · intro w hSw
    try dsimp only at hSw
    go_simp
    try with_reducible rfl
  simp only [Act.put, List.setIfInBounds_toArray, List.set_cons_zero, List.set_cons_succ]
  refine wpAnyH_take (i := 5) (v := ?_) (at_list rfl) (by kernel_rfl) (by kernel_rfl) (by kernel_rfl) (fun _ _ _ h => h) (Or.inl ⟨by rfl, ?_⟩) (by assumption) ?_
  rotate_left
  · intro w hSw
    try dsimp only at hSw
    go_simp
    try with_reducible rfl
  simp only [Act.put, List.setIfInBounds_toArray, List.set_cons_zero, List.set_cons_succ]
  refine wpAnyH_take (i := 6) (v := ?_) (at_list rfl) (by kernel_rfl) (by kernel_rfl) (by kernel_rfl) (fun _ _ _ h => h) (Or.inl ⟨by rfl, ?_⟩) (by assumption) ?_
  rotate_left
  · intro w hSw
    try dsimp only at hSw
    go_simp
    try with_reducible rfl
  simp only [Act.put, List.setIfInBounds_toArray, List.set_cons_zero, List.set_cons_succ]
  refine wpAnyH_take (i := 7) (v := ?_) (at_list rfl) (by kernel_rfl) (by kernel_rfl) (by kernel_rfl) (fun _ _ _ h => h) (Or.inl ⟨by rfl, ?_⟩) (by assumption) ?_
  rotate_left
  · intro w hSw
    try dsimp only at hSw
    go_simp
    try with_reducible rfl
  simp only [Act.put, List.setIfInBounds_toArray, List.set_cons_zero, List.set_cons_succ]
  refine wpAnyH_take (i := 8) (v := ?_) (at_list rfl) (by kernel_rfl) (by kernel_rfl) (by kernel_rfl) (fun _ _ _ h => h) (Or.inl ⟨by rfl, ?_⟩) (by assumption) ?_
  rotate_left
  · intro w hSw
    try dsimp only at hSw
    go_simp
    try with_reducible rfl
  simp only [Act.put, List.setIfInBounds_toArray, List.set_cons_zero, List.set_cons_succ]
  refine wpAnyH_take (i := 9) (v := ?_) (at_list rfl) (by kernel_rfl) (by kernel_rfl) (by kernel_rfl) (fun _ _ _ h => h) (Or.inl ⟨by rfl, ?_⟩) (by assumption) ?_
  rotate_left
  · intro w hSw
    try dsimp only at hSw
    go_simp
    try with_reducible rfl
  simp only [Act.put, List.setIfInBounds_toArray, List.set_cons_zero, List.set_cons_succ]
  refine wpAnyH_take (i := 10) (v := ?_) (at_list rfl) (by kernel_rfl) (by kernel_rfl) (by kernel_rfl) (fun _ _ _ h => h) (Or.inl ⟨by rfl, ?_⟩) (by assumption) ?_
  rotate_left
  · intro w hSw
    try dsimp only at hSw
    go_simp
    try with_reducible rfl
  simp only [Act.put, List.setIfInBounds_toArray, List.set_cons_zero, List.set_cons_succ]
  refine wpAnyH_ready (rs := [0]) (by kernel_rfl) (by simp) ?_
  refine AllReadyH.cons (at_list rfl) (fun KK hKK => ?_) AllReadyH.nil
  go_simp
  refine hKK.out _ _ ?_ (fun hHeld2 => ?_)
  · try dsimp only
    (first | exact ⟨t0, q1⟩ | exact ⟨z0, z5⟩ | go_keep)
  clear hKK KK hHeld
  rename _ => hHeld
  try simp only [Act.put, List.setIfInBounds_toArray, List.set_cons_zero, List.set_cons_succ]
  refine wpAnyH_ready (rs := [2]) (by kernel_rfl) (by simp) ?_
  refine AllReadyH.cons (at_list rfl) (fun KK hKK => ?_) AllReadyH.nil
  refine step_append_sl _ (by rfl) (.tmp 54) (.tmp 55) 22 (by rfl) 5 i5 (.int .u8 0) 1 Try.underlying22 h50 h51 h52 h53 rfl (some ⟨w2.heap.size, 0, none⟩) 0 0 [] (by rfl) (sl_emptyQ (by repeat (first | exact qblk_new' _ _ (by first | rfl | simp) | refine qblk_drewN ?_ | refine qblk_drew ?_ | refine blk_alloc ?_ _))) (some ⟨gx, ox + a, none⟩) (nb - a) (cc - a) (bytes ((y.2.2.bytes.drop a).take m)) (by rfl) (by rw [bytes_len, HK.out]) (HSR.out _ (by repeat (first | exact Only.refl _ _ | exact Q2.out | refine Only.drewN ?_ _ | refine Only.drew ?_ | refine Only.alloc ?_ _))) HNILL.out (bytes_one _) (by unfold maxLen; omega) (by omega) ?_
  intro A8 c8 w8 hs8 ho8 hr8
  rw [Nat.zero_add, List.nil_append] at hs8
  try simp only [Nat.zero_add]
  have hq8 : Quiet w w8 := (fresh_rows (w0 := w) (by repeat (first | exact Only.refl _ _ | exact Q2.out | refine Only.drewN ?_ _ | refine Only.drew ?_ | refine Only.alloc ?_ _)) Q2.out.size ho8).1
  have HS8 := Lib.hid hs8
  have Q8 := Lib.hid hq8
  obtain ⟨⟨z0, z1, z2, z3⟩, ⟨z4, z5, z6, z7, z8⟩, zf⟩ := HC.out w8 hq8
  clear hs8 ho8 hr8 hq8 zf
  refine hKK.out _ _ ?_ (fun hHeld2 => ?_)
  · try dsimp only
    (first | exact ⟨t0, q1⟩ | exact ⟨z0, z5⟩ | go_keep)
  clear hKK KK hHeld
  rename _ => hHeld
  try simp only [Act.put, List.setIfInBounds_toArray, List.set_cons_zero, List.set_cons_succ]
  refine wpAnyH_take (i := 11) (v := ?_) (at_list rfl) (by kernel_rfl) (by kernel_rfl) (by kernel_rfl) (fun _ _ _ h => h) (Or.inl ⟨by rfl, ?_⟩) (by assumption) ?_
  rotate_left
  · intro w hSw
    try dsimp only at hSw
    go_simp
    try with_reducible rfl
  simp only [Act.put, List.setIfInBounds_toArray, List.set_cons_zero, List.set_cons_succ]
  refine wpAnyH_take (i := 12) (v := ?_) (at_list rfl) (by kernel_rfl) (by kernel_rfl) (by kernel_rfl) (fun _ _ _ h => h) (Or.inl ⟨by rfl, ?_⟩) (by assumption) ?_
  rotate_left
  · intro w hSw
    try dsimp only at hSw
    go_simp
    try with_reducible rfl
  simp only [Act.put, List.setIfInBounds_toArray, List.set_cons_zero, List.set_cons_succ]
  refine wpAnyH_take (i := 13) (v := ?_) (at_list rfl) (by kernel_rfl) (by kernel_rfl) (by kernel_rfl) (fun _ _ _ h => h) (Or.inl ⟨by rfl, ?_⟩) (by assumption) ?_
  rotate_left
  · intro w hSw
    try dsimp only at hSw
    go_simp
    try with_reducible rfl
  simp only [Act.put, List.setIfInBounds_toArray, List.set_cons_zero, List.set_cons_succ]
  refine wpAnyH_done (by kernel_rfl) ?_ _
  refine NoPanic.normal ?_
  go_wp2_with fail
  go_ret3
  exact ⟨A8, c8, by first | (rw [HK.out]; done) | (rw [HK.out]; rfl), by rw [HK.out]; exact HS8.out, Q8.out⟩
set_option maxRecDepth 8000 in
set_option maxHeartbeats 8000000 in
theorem qread_cut (h : QAt w M d) (id : Int) (a m : Nat) {i : Nat} {y : QF} (hf : findJ id d.js = some i) (hy : M.ys[i]? = some y) (ha : a ≤ y.2.2.bytes.length) (hA0 : y.1.A ≠ none) (hc0 : y.1.c ≠ a) (hm : m < y.2.2.bytes.length - a) :
    Calls Try.prog 21 #[.pointer (some ⟨M.p, 0, none⟩), .int .i64 id, .int .i64 (a : Int), .int .i64 (m : Int)] w fun x w' => ∃ A' c', x = .returned (.tuple #[.slice A' ((y.2.2.bytes.drop a).take m).length c', .int .i64 (y.2.2.state : Nat), .int .i64 0]) ∧ Sl w' 5 A' ((y.2.2.bytes.drop a).take m).length c' (bytes ((y.2.2.bytes.drop a).take m)) ∧ Quiet w w' := by
  have CF := Lib.hid (qfind h id)
  rw [hf] at CF
  simp only [fpos] at CF
  obtain ⟨g, cap, hv, hc1, hc2, hpg, hfc⟩ := h.facts hy
  have hgp : g ≠ M.p := fun e => hpg e.symm
  have hi := (List.getElem?_eq_some_iff.1 hy).1
  have hsm := h.small
  have hsb := h.sb y (List.mem_of_getElem? hy)
  have hsl := h.sl y (List.mem_of_getElem? hy)
  have hycap := hsl.capLe
  have hyle := hsl.le
  have HC := Lib.hid hfc
  have H := Lib.hid h
  have HY := Lib.hid hy
  have HV := Lib.hid hv
  have HSL := Lib.hid hsl
  unfold maxLen at hc2 hycap
  obtain ⟨n, hn⟩ : ∃ n, n = M.ys.length := ⟨_, rfl⟩
  rw [← hn] at HC hi hsm hc1
  have HN := Lib.hid hn
  obtain ⟨nb, hnb⟩ : ∃ n, n = y.2.2.bytes.length := ⟨_, rfl⟩
  rw [← hnb] at HC HSL hsb hyle
  have HNB := Lib.hid hnb
  rw [← hnb] at ha
  obtain ⟨cc, hcc⟩ : ∃ n, n = y.1.c := ⟨_, rfl⟩
  rw [← hcc] at HC hycap hyle HSL
  have hst : ((y.2.2.bytes.drop a).take m).length = min m (nb - a) := by rw [List.length_take, List.length_drop, ← hnb]
  obtain ⟨i5, h50, h51, h52, h53⟩ := info_parts Try.row5q
  rw [← hcc] at hc0
  rw [← hnb] at hm
  have HK := Lib.hid (show ((y.2.2.bytes.drop a).take m).length = m by rw [hst]; omega)
  obtain ⟨gx, ox, hA⟩ : ∃ gx ox, y.1.A = some ⟨gx, ox, none⟩ := by
    rcases HSL.out.2 with ⟨h1, h2, h3⟩ | ⟨g', off, cu, h1, _⟩
    · exact (hA0 h1).elim
    · exact ⟨_, _, h1⟩
  have hcut := HSL.out.cut (m := a) ha
  have HSR := Lib.hid (fun (V : World) (hV : Quiet w V) => show Src V (some ⟨gx, ox + a, none⟩) (bytes ((y.2.2.bytes.drop a).take m)) from by
    have hc2 := (hcut.only hV (fun _ _ x => x)).take (m := m) (by omega)
    rw [if_neg hc0, hA, Option.map_some, Addr.add_lit] at hc2
    rw [bytes_drop, bytes_take, show (y.2.2.bytes.drop a).take m = (y.2.2.bytes.drop a).take m by rfl] at hc2
    exact hc2.src)
  have HNILL := Lib.hid (show ((some ⟨gx, ox + a, none⟩) : Option Addr) = none → m = 0 from nofun)
  rw [hA] at HC
  have d3 : decide ((nb : Int) < (a : Int)) = false := by simp; omega
  have d4 : decide ((m : Int) < ((nb - a : Nat) : Int)) = true := by simp; omega
  have a1 : (a : Int) ≤ (nb : Int) := by omega
  have a2 : (m : Int) ≤ ((cc - a : Nat) : Int) := by omega
  clear hst hA hcut hA0
  obtain ⟨st, hstt⟩ : ∃ n, n = y.2.2.state := ⟨_, rfl⟩
  rw [← hstt] at HC ⊢
  clear hstt hcc
  clear hf h hfc hv hn hy hsl hnb
  have i0 : (0 : Int) ≤ (i : Int) := by omega
  have i1 : (i : Int) < (n : Int) := by omega
  have d0 : decide ((i : Int) < 0) = false := by simp
  have a0 : (0 : Int) ≤ (a : Int) := by omega
  have m0 : (0 : Int) ≤ (m : Int) := by omega
  have d1 : decide ((a : Int) < 0) = false := by simp
  have d2 : decide ((m : Int) < 0) = false := by simp
  go_enter Try.func21, Try.ntmps21
  go_wp2_with (go_at_call 30; refine CF.out.mono ?_; rintro x w2 ⟨rfl, hq⟩; have Q2 := Lib.hid hq; obtain ⟨⟨t0, t1, t2, t3⟩, ⟨q0, q1, q2, q3, q4⟩, qf⟩ := HC.out w2 hq; clear hq qf)
  refine wp_region_noPanic ?_
  refine wp_region_held_drew (S := (fun w' => w'.cell? ⟨M.p, 0, none⟩ = some (.slice (some ⟨g, 0, none⟩) n cap) ∧ w'.cell? ⟨g, i * 5 + 1, none⟩ = some (.int .i64 (st : Nat)))) (by kernel_rfl) ?_ (fun hHeld => ?_)
  · try dsimp only
    (first | exact ⟨t0, q1⟩ | exact ⟨z0, z5⟩ | go_keep)
  refine wpAnyH_take (i := 1) (v := ?_) (at_list rfl) (by kernel_rfl) (by kernel_rfl) (by kernel_rfl) (fun _ _ _ h => h) (Or.inl ⟨by rfl, ?_⟩) (by assumption) ?_
  rotate_left
  · intro w hSw
    try dsimp only at hSw
    go_simp
    try with_reducible rfl
  simp only [Act.put, List.setIfInBounds_toArray, List.set_cons_zero, List.set_cons_succ]
  refine wpAnyH_take (i := 3) (v := ?_) (at_list rfl) (by kernel_rfl) (by kernel_rfl) (by kernel_rfl) (fun _ _ _ h => h) (Or.inl ⟨by rfl, ?_⟩) (by assumption) ?_
  rotate_left
  · intro w hSw
    try dsimp only at hSw
    go_simp
    try with_reducible rfl
  simp only [Act.put, List.setIfInBounds_toArray, List.set_cons_zero, List.set_cons_succ]
  refine wpAnyH_take (i := 4) (v := ?_) (at_list rfl) (by kernel_rfl) (by kernel_rfl) (by kernel_rfl) (fun _ _ _ h => h) (Or.inl ⟨by rfl, ?_⟩) (by assumption) ?_
  rotate_left
  · intro w hSw
    try dsimp only at hSw
    go_simp
    try with_reducible rfl
  simp only [Act.put, List.setIfInBounds_toArray, List.set_cons_zero, List.set_cons_succ]
  refine wpAnyH_take (i := 5) (v := ?_) (at_list rfl) (by kernel_rfl) (by kernel_rfl) (by kernel_rfl) (fun _ _ _ h => h) (Or.inl ⟨by rfl, ?_⟩) (by assumption) ?_
  rotate_left
  · intro w hSw
    try dsimp only at hSw
    go_simp
    try with_reducible rfl
  simp only [Act.put, List.setIfInBounds_toArray, List.set_cons_zero, List.set_cons_succ]
  refine wpAnyH_take (i := 6) (v := ?_) (at_list rfl) (by kernel_rfl) (by kernel_rfl) (by kernel_rfl) (fun _ _ _ h => h) (Or.inl ⟨by rfl, ?_⟩) (by assumption) ?_
  rotate_left
  · intro w hSw
    try dsimp only at hSw
    go_simp
    try with_reducible rfl
  simp only [Act.put, List.setIfInBounds_toArray, List.set_cons_zero, List.set_cons_succ]
  refine wpAnyH_take (i := 7) (v := ?_) (at_list rfl) (by kernel_rfl) (by kernel_rfl) (by kernel_rfl) (fun _ _ _ h => h) (Or.inl ⟨by rfl, ?_⟩) (by assumption) ?_
  rotate_left
  · intro w hSw
    try dsimp only at hSw
    go_simp
    try with_reducible rfl
  simp only [Act.put, List.setIfInBounds_toArray, List.set_cons_zero, List.set_cons_succ]
  refine wpAnyH_take (i := 8) (v := ?_) (at_list rfl) (by kernel_rfl) (by kernel_rfl) (by kernel_rfl) (fun _ _ _ h => h) (Or.inl ⟨by rfl, ?_⟩) (by assumption) ?_
  rotate_left
  · intro w hSw
    try dsimp only at hSw
    go_simp
    try with_reducible rfl
  simp only [Act.put, List.setIfInBounds_toArray, List.set_cons_zero, List.set_cons_succ]
  refine wpAnyH_take (i := 9) (v := ?_) (at_list rfl) (by kernel_rfl) (by kernel_rfl) (by kernel_rfl) (fun _ _ _ h => h) (Or.inl ⟨by rfl, ?_⟩) (by assumption) ?_
  rotate_left
  · intro w hSw
    try dsimp only at hSw
    go_simp
    try with_reducible rfl
  simp only [Act.put, List.setIfInBounds_toArray, List.set_cons_zero, List.set_cons_succ]
  refine wpAnyH_take (i := 10) (v := ?_) (at_list rfl) (by kernel_rfl) (by kernel_rfl) (by kernel_rfl) (fun _ _ _ h => h) (Or.inl ⟨by rfl, ?_⟩) (by assumption) ?_
  rotate_left
  · intro w hSw
    try dsimp only at hSw
    go_simp
    try with_reducible rfl
  simp only [Act.put, List.setIfInBounds_toArray, List.set_cons_zero, List.set_cons_succ]
  refine wpAnyH_ready (rs := [0]) (by kernel_rfl) (by simp) ?_
  refine AllReadyH.cons (at_list rfl) (fun KK hKK => ?_) AllReadyH.nil
  go_simp
  refine hKK.out _ _ ?_ (fun hHeld2 => ?_)
  · try dsimp only
    (first | exact ⟨t0, q1⟩ | exact ⟨z0, z5⟩ | go_keep)
  clear hKK KK hHeld
  rename _ => hHeld
  try simp only [Act.put, List.setIfInBounds_toArray, List.set_cons_zero, List.set_cons_succ]
  refine wpAnyH_ready (rs := [2]) (by kernel_rfl) (by simp) ?_
  refine AllReadyH.cons (at_list rfl) (fun KK hKK => ?_) AllReadyH.nil
  refine step_append_sl _ (by rfl) (.tmp 54) (.tmp 55) 22 (by rfl) 5 i5 (.int .u8 0) 1 Try.underlying22 h50 h51 h52 h53 rfl (some ⟨w2.heap.size, 0, none⟩) 0 0 [] (by rfl) (sl_emptyQ (by repeat (first | exact qblk_new' _ _ (by first | rfl | simp) | refine qblk_drewN ?_ | refine qblk_drew ?_ | refine blk_alloc ?_ _))) (some ⟨gx, ox + a, none⟩) m (cc - a) (bytes ((y.2.2.bytes.drop a).take m)) (by rfl) (by rw [bytes_len, HK.out]) (HSR.out _ (by repeat (first | exact Only.refl _ _ | exact Q2.out | refine Only.drewN ?_ _ | refine Only.drew ?_ | refine Only.alloc ?_ _))) HNILL.out (bytes_one _) (by unfold maxLen; omega) (by omega) ?_
  intro A8 c8 w8 hs8 ho8 hr8
  rw [Nat.zero_add, List.nil_append] at hs8
  try simp only [Nat.zero_add]
  have hq8 : Quiet w w8 := (fresh_rows (w0 := w) (by repeat (first | exact Only.refl _ _ | exact Q2.out | refine Only.drewN ?_ _ | refine Only.drew ?_ | refine Only.alloc ?_ _)) Q2.out.size ho8).1
  have HS8 := Lib.hid hs8
  have Q8 := Lib.hid hq8
  obtain ⟨⟨z0, z1, z2, z3⟩, ⟨z4, z5, z6, z7, z8⟩, zf⟩ := HC.out w8 hq8
  clear hs8 ho8 hr8 hq8 zf
  refine hKK.out _ _ ?_ (fun hHeld2 => ?_)
  · try dsimp only
    (first | exact ⟨t0, q1⟩ | exact ⟨z0, z5⟩ | go_keep)
  clear hKK KK hHeld
  rename _ => hHeld
  try simp only [Act.put, List.setIfInBounds_toArray, List.set_cons_zero, List.set_cons_succ]
  refine wpAnyH_take (i := 11) (v := ?_) (at_list rfl) (by kernel_rfl) (by kernel_rfl) (by kernel_rfl) (fun _ _ _ h => h) (Or.inl ⟨by rfl, ?_⟩) (by assumption) ?_
  rotate_left
  · intro w hSw
    try dsimp only at hSw
    go_simp
    try with_reducible rfl
  simp only [Act.put, List.setIfInBounds_toArray, List.set_cons_zero, List.set_cons_succ]
  refine wpAnyH_take (i := 12) (v := ?_) (at_list rfl) (by kernel_rfl) (by kernel_rfl) (by kernel_rfl) (fun _ _ _ h => h) (Or.inl ⟨by rfl, ?_⟩) (by assumption) ?_
  rotate_left
  · intro w hSw
    try dsimp only at hSw
    go_simp
    try with_reducible rfl
  simp only [Act.put, List.setIfInBounds_toArray, List.set_cons_zero, List.set_cons_succ]
  refine wpAnyH_take (i := 13) (v := ?_) (at_list rfl) (by kernel_rfl) (by kernel_rfl) (by kernel_rfl) (fun _ _ _ h => h) (Or.inl ⟨by rfl, ?_⟩) (by assumption) ?_
  rotate_left
  · intro w hSw
    try dsimp only at hSw
    go_simp
    try with_reducible rfl
  simp only [Act.put, List.setIfInBounds_toArray, List.set_cons_zero, List.set_cons_succ]
  refine wpAnyH_done (by kernel_rfl) ?_ _
  refine NoPanic.normal ?_
  go_wp2_with fail
  go_ret3
  exact ⟨A8, c8, by first | (rw [HK.out]; done) | (rw [HK.out]; rfl), by rw [HK.out]; exact HS8.out, Q8.out⟩
theorem qread (h : QAt w M d) (id at_ n0 : Int) : Calls Try.prog 21 #[.pointer (some ⟨M.p, 0, none⟩), .int .i64 id, .int .i64 at_, .int .i64 n0] w fun x w' => ∃ A' c', x = .returned (.tuple #[.slice A' (readF d id at_ n0).1.length c', .int .i64 (readF d id at_ n0).2.1, .int .i64 (readF d id at_ n0).2.2]) ∧ Sl w' 5 A' (readF d id at_ n0).1.length c' (bytes (readF d id at_ n0).1) ∧ Quiet w w' := by
  have hbad : ∀ {x : Ending} {w' : World} {s c : Int}, x = .returned (.tuple #[.slice none 0 0, .int .i64 s, .int .i64 c]) ∧ Quiet w w' → ∃ A' c', x = .returned (.tuple #[.slice A' ([] : List UInt8).length c', .int .i64 s, .int .i64 c]) ∧ Sl w' 5 A' ([] : List UInt8).length c' (bytes []) ∧ Quiet w w' :=
    fun ⟨h1, h2⟩ => ⟨none, 0, h1, Sl.nil _ _, h2⟩
  unfold readF
  cases hf : findJ id d.js with
  | none => exact (qread_no h id at_ n0 hf).mono fun x w' hx => hbad hx
  | some i =>
    obtain ⟨e, he, _⟩ := findJ_some hf
    obtain ⟨y, hy, rfl⟩ := h.there he
    simp only [he]
    by_cases hc : at_ < 0 ∨ n0 < 0 ∨ (y.2.2.bytes.length : Int) < at_
    · rw [if_pos hc]
      by_cases h1 : at_ < 0
      · exact (qread_neg h id at_ n0 hf hy h1).mono fun x w' hx => hbad hx
      · by_cases h2 : n0 < 0
        · exact (qread_negn h id at_ n0 hf hy h1 h2).mono fun x w' hx => hbad hx
        · exact (qread_far h id at_ n0 hf hy h1 h2 (by omega)).mono fun x w' hx => hbad hx
    · rw [if_neg hc]
      obtain ⟨a, rfl⟩ : ∃ a : Nat, at_ = (a : Int) := ⟨at_.toNat, by omega⟩
      obtain ⟨m, rfl⟩ : ∃ m : Nat, n0 = (m : Int) := ⟨n0.toNat, by omega⟩
      simp only [Int.toNat_natCast]
      have ha : a ≤ y.2.2.bytes.length := by omega
      by_cases hA : y.1.A = none
      · exact qread_none h id a m hf hy ha hA
      · by_cases hcc : y.1.c = a
        · exact qread_full h id a m hf hy ha hA hcc
        · by_cases hm : m < y.2.2.bytes.length - a
          · exact qread_cut h id a m hf hy ha hA hcc hm
          · exact qread_all h id a m hf hy ha hA hcc (by omega)
end
end Go.Proofs.Ytffockkdiimneaa
