/-
  The reference's Append. No conditions.
-/
import Derived.Test.YtffockkdiimneaaQEnd
import Derived.Deep.RegionHeld3
namespace Go.Proofs.Ytffockkdiimneaa
open Go.RowKit
set_option linter.unusedVariables false
set_option linter.unusedSimpArgs false

theorem Try.row5q : (Try.prog.info? 5).map (fun i => (i.zero, i.size, i.bytes)) = some (some (.int .u8 0), 1, 1) := by kernel_rfl
theorem Only.ofq {F : Nat → Prop} {a b c : World} (h : Quiet a b) (k : Only F b c) : Only F a c := (h.mono (fun _ _ x => x.elim)).trans k
section
variable {w : World} {M : QMem} {d : Desk}
set_option maxRecDepth 8000 in
set_option maxHeartbeats 8000000 in
theorem qappend_no (h : QAt w M d) (id : Int) (B : Option Addr) (m c : Nat) (hf : findJ id d.js = none) :
    Calls Try.prog 18 #[.pointer (some ⟨M.p, 0, none⟩), .int .i64 id, .slice B m c] w fun x w' => x = .returned (.int .i64 12) ∧ Quiet w w' := by
  have CF := Lib.hid (qfind h id)
  rw [hf] at CF
  simp only [fpos] at CF
  clear hf h
  go_enter Try.func18, Try.ntmps18
  go_wp2_with (go_at_call 30; refine CF.out.mono ?_; rintro x w2 ⟨rfl, hq⟩; have Q2 := Lib.hid hq; clear hq)
  go_ret
  exact ⟨rfl, Q2.out⟩
set_option maxRecDepth 8000 in
set_option maxHeartbeats 8000000 in
theorem qappend_shut (h : QAt w M d) (id : Int) (B : Option Addr) (m c : Nat) {i : Nat} {y : QF} (hf : findJ id d.js = some i) (hy : M.ys[i]? = some y) (hs : y.2.2.state ≠ 0) :
    Calls Try.prog 18 #[.pointer (some ⟨M.p, 0, none⟩), .int .i64 id, .slice B m c] w fun x w' => x = .returned (.int .i64 16) ∧ Quiet w w' := by
  have CF := Lib.hid (qfind h id)
  rw [hf] at CF
  simp only [fpos] at CF
  obtain ⟨g, cap, hv, hc1, hc2, hpg, hfc⟩ := h.facts hy
  have hgp : g ≠ M.p := fun e => hpg e.symm
  have hi := (List.getElem?_eq_some_iff.1 hy).1
  have hsm := h.small
  have hsb := h.sb y (List.mem_of_getElem? hy)
  have hsl := h.sl y (List.mem_of_getElem? hy)
  have hycap := hsl.capLe
  have hyle := hsl.le
  have HC := Lib.hid hfc
  have H := Lib.hid h
  have HY := Lib.hid hy
  have HV := Lib.hid hv
  have HSL := Lib.hid hsl
  unfold maxLen at hc2 hycap
  obtain ⟨n, hn⟩ : ∃ n, n = M.ys.length := ⟨_, rfl⟩
  rw [← hn] at HC hi hsm hc1
  have HN := Lib.hid hn
  obtain ⟨nb, hnb⟩ : ∃ n, n = y.2.2.bytes.length := ⟨_, rfl⟩
  rw [← hnb] at HC HSL hsb hyle
  have HNB := Lib.hid hnb
  have d1 : ((y.2.2.state : Int) != 0) = true := by simp; omega
  clear hs
  clear hf h hfc hv hn hy hsl hnb
  have i0 : (0 : Int) ≤ (i : Int) := by omega
  have i1 : (i : Int) < (n : Int) := by omega
  have d0 : decide ((i : Int) < 0) = false := by simp
  go_enter Try.func18, Try.ntmps18
  go_wp2_with (go_at_call 30; refine CF.out.mono ?_; rintro x w2 ⟨rfl, hq⟩; have Q2 := Lib.hid hq; obtain ⟨⟨t0, t1, t2, t3⟩, ⟨q0, q1, q2, q3, q4⟩, qf⟩ := HC.out w2 hq; have qf4 := qf (i * 5 + 4); clear hq qf)
  go_ret
  exact ⟨rfl, Q2.out⟩
set_option maxRecDepth 8000 in
set_option maxHeartbeats 8000000 in
theorem qappend_big (h : QAt w M d) (id : Int) (B : Option Addr) (m c : Nat) {i : Nat} {y : QF} (hf : findJ id d.js = some i) (hy : M.ys[i]? = some y) (hs : y.2.2.state = 0) (hb : 1048576 - (y.2.2.bytes.length : Int) < (m : Int)) :
    Calls Try.prog 18 #[.pointer (some ⟨M.p, 0, none⟩), .int .i64 id, .slice B m c] w fun x w' => x = .returned (.int .i64 3) ∧ Quiet w w' := by
  have CF := Lib.hid (qfind h id)
  rw [hf] at CF
  simp only [fpos] at CF
  obtain ⟨g, cap, hv, hc1, hc2, hpg, hfc⟩ := h.facts hy
  have hgp : g ≠ M.p := fun e => hpg e.symm
  have hi := (List.getElem?_eq_some_iff.1 hy).1
  have hsm := h.small
  have hsb := h.sb y (List.mem_of_getElem? hy)
  have hsl := h.sl y (List.mem_of_getElem? hy)
  have hycap := hsl.capLe
  have hyle := hsl.le
  have HC := Lib.hid hfc
  have H := Lib.hid h
  have HY := Lib.hid hy
  have HV := Lib.hid hv
  have HSL := Lib.hid hsl
  unfold maxLen at hc2 hycap
  obtain ⟨n, hn⟩ : ∃ n, n = M.ys.length := ⟨_, rfl⟩
  rw [← hn] at HC hi hsm hc1
  have HN := Lib.hid hn
  obtain ⟨nb, hnb⟩ : ∃ n, n = y.2.2.bytes.length := ⟨_, rfl⟩
  rw [← hnb] at HC HSL hsb hyle
  have HNB := Lib.hid hnb
  rw [hs] at HC
  rw [← hnb] at hb
  have d1 : decide (1048576 - (nb : Int) < (m : Int)) = true := by simpa using hb
  clear hs hb
  clear hf h hfc hv hn hy hsl hnb
  have i0 : (0 : Int) ≤ (i : Int) := by omega
  have i1 : (i : Int) < (n : Int) := by omega
  have d0 : decide ((i : Int) < 0) = false := by simp
  go_enter Try.func18, Try.ntmps18
  go_wp2_with (go_at_call 30; refine CF.out.mono ?_; rintro x w2 ⟨rfl, hq⟩; have Q2 := Lib.hid hq; obtain ⟨⟨t0, t1, t2, t3⟩, ⟨q0, q1, q2, q3, q4⟩, qf⟩ := HC.out w2 hq; have qf4 := qf (i * 5 + 4); clear hq qf)
  go_ret
  exact ⟨rfl, Q2.out⟩
set_option maxRecDepth 8000 in
set_option maxHeartbeats 8000000 in
theorem qappend_ok (h : QAt w M d) (id : Int) (B : Option Addr) (m c : Nat) {i : Nat} {y : QF} {l : List UInt8} (hf : findJ id d.js = some i) (hy : M.ys[i]? = some y) (hs : y.2.2.state = 0) (hb : (m : Int) ≤ 1048576 - (y.2.2.bytes.length : Int)) (hm : l.length = m) (hsrc : ∀ W, Quiet w W → Src W B (bytes l)) (hnil : B = none → m = 0) :
    Calls Try.prog 18 #[.pointer (some ⟨M.p, 0, none⟩), .int .i64 id, .slice B m c] w fun x w' => x = .returned (.int .i64 0) ∧ QPost M w { d with js := upd d.js i fun j => { j with bytes := j.bytes ++ l } } w' := by
  have CF := Lib.hid (qfind h id)
  rw [hf] at CF
  simp only [fpos] at CF
  obtain ⟨g, cap, hv, hc1, hc2, hpg, hfc⟩ := h.facts hy
  have hgp : g ≠ M.p := fun e => hpg e.symm
  have hi := (List.getElem?_eq_some_iff.1 hy).1
  have hsm := h.small
  have hsb := h.sb y (List.mem_of_getElem? hy)
  have hsl := h.sl y (List.mem_of_getElem? hy)
  have hycap := hsl.capLe
  have hyle := hsl.le
  have HC := Lib.hid hfc
  have H := Lib.hid h
  have HY := Lib.hid hy
  have HV := Lib.hid hv
  have HSL := Lib.hid hsl
  unfold maxLen at hc2 hycap
  obtain ⟨n, hn⟩ : ∃ n, n = M.ys.length := ⟨_, rfl⟩
  rw [← hn] at HC hi hsm hc1
  have HN := Lib.hid hn
  obtain ⟨nb, hnb⟩ : ∃ n, n = y.2.2.bytes.length := ⟨_, rfl⟩
  rw [← hnb] at HC HSL hsb hyle
  have HNB := Lib.hid hnb
  rw [hs] at HC
  rw [← hnb] at hb
  have d1 : decide (1048576 - (nb : Int) < (m : Int)) = false := by simp; omega
  have HSRC := Lib.hid hsrc
  have HNIL := Lib.hid hnil
  have HM := Lib.hid hm
  obtain ⟨i5, h50, h51, h52, h53⟩ := info_parts Try.row5q
  have hnrg : ¬ RowOf y.1.A g := fun k => by obtain ⟨cu2, hc2⟩ := hsl.type k; obtain ⟨cu, hcu⟩ := row_ownQ h.own (k := g) (by rw [hv]; rfl); exact blk_ne hc2 hcu (by decide) rfl
  have hnrp : ¬ RowOf y.1.A M.p := fun k => by obtain ⟨cu2, hc2⟩ := hsl.type k; exact blk_ne hc2 h.blk (by decide) rfl
  have HFS := Lib.hid (fun (V : World) (hV : Only (fun k => RowOf y.1.A k ∨ k = g) w V) => show V.cell? ⟨M.p, 0, none⟩ = some (.slice (some ⟨g, 0, none⟩) n cap) from (hV.cell (p := ⟨M.p, 0, none⟩) h.head.2.2 (by rintro (e | e); exact hnrp e; exact hpg e)).trans (HC.out w (Only.refl _ _)).1.1)
  have HD := Lib.hid (fun (V : World) (hV : Only (RowOf y.1.A) w V) => show V.cell? ⟨g, i * 5 + 4, none⟩ = some (.slice y.1.A nb y.1.c) ∧ V.frozen? ⟨g, i * 5 + 4, none⟩ = false ∧ M.p < V.heap.size ∧ g < V.heap.size from by
    obtain ⟨⟨_, _, u2, u3⟩, ⟨_, _, _, _, u4⟩, uf⟩ := HC.out w (Only.refl _ _)
    exact ⟨(hV.cell (p := ⟨g, i * 5 + 4, none⟩) u3 hnrg).trans u4, (hV.frozen (p := ⟨g, i * 5 + 4, none⟩) u3 hnrg).trans (uf _), Nat.lt_of_lt_of_le u2 hV.size, Nat.lt_of_lt_of_le u3 hV.size⟩)
  clear hs hsrc hnil hm hnrg hnrp
  clear hf h hfc hv hn hy hsl hnb
  have i0 : (0 : Int) ≤ (i : Int) := by omega
  have i1 : (i : Int) < (n : Int) := by omega
  have d0 : decide ((i : Int) < 0) = false := by simp
  go_enter Try.func18, Try.ntmps18
  go_wp2_with (go_at_call 30; refine CF.out.mono ?_; rintro x w2 ⟨rfl, hq⟩; have Q2 := Lib.hid hq; obtain ⟨⟨t0, t1, t2, t3⟩, ⟨q0, q1, q2, q3, q4⟩, qf⟩ := HC.out w2 hq; have qf4 := qf (i * 5 + 4); clear hq qf)
  have QS2 := Lib.hid (show Only (fun k => RowOf y.1.A k ∨ k = g) w w2 from Only.mono Q2.out (fun _ _ x => x.elim))
  refine wp_region_noPanic ?_
  refine wp_region_held_drew (S := (fun w' => w'.cell? ⟨M.p, 0, none⟩ = some (.slice (some ⟨g, 0, none⟩) n cap))) (by kernel_rfl) ?_ (fun hHeld => ?_)
  · try dsimp only
    exact HFS.out _ (by repeat (first | exact Only.refl _ _ | exact QS2.out | exact QS8.out | refine Only.drewN ?_ _ | refine Only.drew ?_ | refine Only.alloc ?_ _ | refine Only.setCell (S := (fun k => RowOf y.1.A k ∨ k = g)) ?_ (fun _ => .inr rfl) _))
  refine wpAnyH_take (i := 0) (v := ?_) (at_list rfl) (by kernel_rfl) (by kernel_rfl) (by kernel_rfl) (fun _ _ _ h => h) (Or.inl ⟨by rfl, ?_⟩) (by assumption) ?_
  rotate_left
  · intro w hSw
    try dsimp only at hSw
    go_simp
    try with_reducible rfl
  simp only [Act.put, List.setIfInBounds_toArray, List.set_cons_zero, List.set_cons_succ]
  refine wpAnyH_take (i := 1) (v := ?_) (at_list rfl) (by kernel_rfl) (by kernel_rfl) (by kernel_rfl) (fun _ _ _ h => h) (Or.inl ⟨by rfl, ?_⟩) (by assumption) ?_
  rotate_left
  · intro w hSw
    try dsimp only at hSw
    go_simp
    try with_reducible rfl
  simp only [Act.put, List.setIfInBounds_toArray, List.set_cons_zero, List.set_cons_succ]
  refine wpAnyH_take (i := 2) (v := ?_) (at_list rfl) (by kernel_rfl) (by kernel_rfl) (by kernel_rfl) (fun _ _ _ h => h) (Or.inl ⟨by rfl, ?_⟩) (by assumption) ?_
  rotate_left
  · intro w hSw
    try dsimp only at hSw
    go_simp
    try with_reducible rfl
  simp only [Act.put, List.setIfInBounds_toArray, List.set_cons_zero, List.set_cons_succ]
  refine wpAnyH_take (i := 3) (v := ?_) (at_list rfl) (by kernel_rfl) (by kernel_rfl) (by kernel_rfl) (fun _ _ _ h => h) (Or.inl ⟨by rfl, ?_⟩) (by assumption) ?_
  rotate_left
  · intro w hSw
    try dsimp only at hSw
    go_simp
    try with_reducible rfl
  simp only [Act.put, List.setIfInBounds_toArray, List.set_cons_zero, List.set_cons_succ]
  refine wpAnyH_take (i := 4) (v := ?_) (at_list rfl) (by kernel_rfl) (by kernel_rfl) (by kernel_rfl) (fun _ _ _ h => h) (Or.inl ⟨by rfl, ?_⟩) (by assumption) ?_
  rotate_left
  · intro w hSw
    try dsimp only at hSw
    go_simp
    try with_reducible rfl
  simp only [Act.put, List.setIfInBounds_toArray, List.set_cons_zero, List.set_cons_succ]
  refine wpAnyH_take (i := 5) (v := ?_) (at_list rfl) (by kernel_rfl) (by kernel_rfl) (by kernel_rfl) (fun _ _ _ h => h) (Or.inl ⟨by rfl, ?_⟩) (by assumption) ?_
  rotate_left
  · intro w hSw
    try dsimp only at hSw
    go_simp
    try with_reducible rfl
  simp only [Act.put, List.setIfInBounds_toArray, List.set_cons_zero, List.set_cons_succ]
  refine wpAnyH_take (i := 6) (v := ?_) (at_list rfl) (by kernel_rfl) (by kernel_rfl) (by kernel_rfl) (fun _ _ _ h => h) (Or.inl ⟨by rfl, ?_⟩) (by assumption) ?_
  rotate_left
  · intro w hSw
    try dsimp only at hSw
    go_simp
    try with_reducible rfl
  simp only [Act.put, List.setIfInBounds_toArray, List.set_cons_zero, List.set_cons_succ]
  refine wpAnyH_take (i := 7) (v := ?_) (at_list rfl) (by kernel_rfl) (by kernel_rfl) (by kernel_rfl) (fun _ _ _ h => h) (Or.inl ⟨by rfl, ?_⟩) (by assumption) ?_
  rotate_left
  · intro w hSw
    try dsimp only at hSw
    go_simp
    try with_reducible rfl
  simp only [Act.put, List.setIfInBounds_toArray, List.set_cons_zero, List.set_cons_succ]
  refine wpAnyH_take (i := 8) (v := ?_) (at_list rfl) (by kernel_rfl) (by kernel_rfl) (by kernel_rfl) (fun _ _ _ h => h) (Or.inl ⟨by rfl, ?_⟩) (by assumption) ?_
  rotate_left
  · intro w hSw
    try dsimp only at hSw
    go_simp
    try with_reducible rfl
  simp only [Act.put, List.setIfInBounds_toArray, List.set_cons_zero, List.set_cons_succ]
  refine wpAnyH_take (i := 9) (v := ?_) (at_list rfl) (by kernel_rfl) (by kernel_rfl) (by kernel_rfl) (fun _ _ _ h => h) (Or.inl ⟨by rfl, ?_⟩) (by assumption) ?_
  rotate_left
  · intro w hSw
    try dsimp only at hSw
    go_simp
    try with_reducible rfl
  simp only [Act.put, List.setIfInBounds_toArray, List.set_cons_zero, List.set_cons_succ]
  refine wpAnyH_take (i := 10) (v := ?_) (at_list rfl) (by kernel_rfl) (by kernel_rfl) (by kernel_rfl) (fun _ _ _ h => h) (Or.inl ⟨by rfl, ?_⟩) (by assumption) ?_
  rotate_left
  · intro w hSw
    try dsimp only at hSw
    go_simp
    try with_reducible rfl
  simp only [Act.put, List.setIfInBounds_toArray, List.set_cons_zero, List.set_cons_succ]
  refine wpAnyH_take (i := 11) (v := ?_) (at_list rfl) (by kernel_rfl) (by kernel_rfl) (by kernel_rfl) (fun _ _ _ h => h) (Or.inl ⟨by rfl, ?_⟩) (by assumption) ?_
  rotate_left
  · intro w hSw
    try dsimp only at hSw
    go_simp
    try with_reducible rfl
  simp only [Act.put, List.setIfInBounds_toArray, List.set_cons_zero, List.set_cons_succ]
  refine wpAnyH_take (i := 13) (v := ?_) (at_list rfl) (by kernel_rfl) (by kernel_rfl) (by kernel_rfl) (fun _ _ _ h => h) (Or.inl ⟨by rfl, ?_⟩) (by assumption) ?_
  rotate_left
  · intro w hSw
    try dsimp only at hSw
    go_simp
    try with_reducible rfl
  simp only [Act.put, List.setIfInBounds_toArray, List.set_cons_zero, List.set_cons_succ]
  refine wpAnyH_ready (rs := [12]) (by kernel_rfl) (by simp) ?_
  refine AllReadyH.cons (at_list rfl) (fun KK hKK => ?_) AllReadyH.nil
  go_simp
  refine hKK.out _ _ ?_ (fun hHeld2 => ?_)
  · try dsimp only
    exact HFS.out _ (by repeat (first | exact Only.refl _ _ | exact QS2.out | exact QS8.out | refine Only.drewN ?_ _ | refine Only.drew ?_ | refine Only.alloc ?_ _ | refine Only.setCell (S := (fun k => RowOf y.1.A k ∨ k = g)) ?_ (fun _ => .inr rfl) _))
  clear hKK KK hHeld
  rename _ => hHeld
  try simp only [Act.put, List.setIfInBounds_toArray, List.set_cons_zero, List.set_cons_succ]
  refine wpAnyH_ready (rs := [14]) (by kernel_rfl) (by simp) ?_
  refine AllReadyH.cons (at_list rfl) (fun KK hKK => ?_) AllReadyH.nil
  refine step_append_sl _ (by rfl) (.tmp 47) (.tmp 48) 22 (by rfl) 5 i5 (.int .u8 0) 1 Try.underlying22 h50 h51 h52 h53 rfl y.1.A nb y.1.c (bytes y.2.2.bytes) (by rfl) (HSL.out.only (F := fun _ => False) (by repeat (first | exact Only.refl _ _ | exact Q2.out | refine Only.drewN ?_ _ | refine Only.drew ?_ | refine Only.alloc ?_ _)) (fun _ _ x => x)) B m c (bytes l) (by rfl) (by rw [bytes_len, HM.out]) (HSRC.out _ (by repeat (first | exact Only.refl _ _ | exact Q2.out | refine Only.drewN ?_ _ | refine Only.drew ?_ | refine Only.alloc ?_ _))) HNIL.out (bytes_one l) (by unfold maxLen; omega) (by omega) ?_
  intro A8 c8 w8 hs8 ho8 hr8
  have hput := (H.out.quiet (by repeat (first | exact Only.refl _ _ | exact Q2.out | refine Only.drewN ?_ _ | refine Only.drew ?_ | refine Only.alloc ?_ _))).put HY.out (HV.out) ho8 (⟨A8, c8⟩, (y.2.1, { y.2.2 with bytes := y.2.2.bytes ++ l })) 4 (.slice A8 (nb + m) c8) (by decide) (by simp [qcells, HNB.out, HM.out]) (by simpa [bytes, HNB.out, HM.out] using hs8) hr8 (by have := HNB.out; have := HM.out; simp; omega)
  have HP := Lib.hid (show QPost M w { d with js := upd d.js i fun j => { j with bytes := j.bytes ++ l } } (w8.setCell ⟨g, i * 5 + 4, none⟩ (.slice A8 (nb + m) c8)) from ⟨_, by rw [upd_set (H.out.job HY.out)]; exact hput.1, QStep.after (by repeat (first | exact Only.refl _ _ | exact Q2.out | refine Only.drewN ?_ _ | refine Only.drew ?_ | refine Only.alloc ?_ _)) hput.2⟩)
  have QS8 := Lib.hid (show Only (fun k => RowOf y.1.A k ∨ k = g) w w8 from Only.ofq (by repeat (first | exact Only.refl _ _ | exact Q2.out | refine Only.drewN ?_ _ | refine Only.drew ?_ | refine Only.alloc ?_ _)) (Only.mono ho8 (fun _ _ x => .inl x)))
  obtain ⟨z4, z5, z6, z7⟩ := HD.out w8 (Only.ofq (by repeat (first | exact Only.refl _ _ | exact Q2.out | refine Only.drewN ?_ _ | refine Only.drew ?_ | refine Only.alloc ?_ _)) ho8)
  clear hs8 ho8 hr8 hput
  refine hKK.out _ _ ?_ (fun hHeld2 => ?_)
  · try dsimp only
    exact HFS.out _ (by repeat (first | exact Only.refl _ _ | exact QS2.out | exact QS8.out | refine Only.drewN ?_ _ | refine Only.drew ?_ | refine Only.alloc ?_ _ | refine Only.setCell (S := (fun k => RowOf y.1.A k ∨ k = g)) ?_ (fun _ => .inr rfl) _))
  clear hKK KK hHeld
  rename _ => hHeld
  try simp only [Act.put, List.setIfInBounds_toArray, List.set_cons_zero, List.set_cons_succ]
  refine wpAnyH_take (i := 15) (v := ?_) (at_list rfl) (by kernel_rfl) (by kernel_rfl) (by kernel_rfl) (fun _ _ _ h => h) (Or.inl ⟨by rfl, ?_⟩) (by assumption) ?_
  rotate_left
  · intro w hSw
    try dsimp only at hSw
    go_simp
    try with_reducible rfl
  simp only [Act.put, List.setIfInBounds_toArray, List.set_cons_zero, List.set_cons_succ]
  refine wpAnyH_take (i := 16) (v := ?_) (at_list rfl) (by kernel_rfl) (by kernel_rfl) (by kernel_rfl) (fun _ _ _ h => h) (Or.inl ⟨by rfl, ?_⟩) (by assumption) ?_
  rotate_left
  · intro w hSw
    try dsimp only at hSw
    go_simp
    try with_reducible rfl
  simp only [Act.put, List.setIfInBounds_toArray, List.set_cons_zero, List.set_cons_succ]
  refine wpAnyH_ready (rs := [17]) (by kernel_rfl) (by simp) ?_
  refine AllReadyH.cons (at_list rfl) (fun KK hKK => ?_) AllReadyH.nil
  go_simp
  refine hKK.out _ _ ?_ (fun hHeld2 => ?_)
  · try dsimp only
    exact HFS.out _ (by repeat (first | exact Only.refl _ _ | exact QS2.out | exact QS8.out | refine Only.drewN ?_ _ | refine Only.drew ?_ | refine Only.alloc ?_ _ | refine Only.setCell (S := (fun k => RowOf y.1.A k ∨ k = g)) ?_ (fun _ => .inr rfl) _))
  clear hKK KK hHeld
  rename _ => hHeld
  try simp only [Act.put, List.setIfInBounds_toArray, List.set_cons_zero, List.set_cons_succ]
  refine wpAnyH_done (by kernel_rfl) ?_ _
  refine NoPanic.normal ?_
  go_wp2_with fail
  go_ret
  exact ⟨rfl, HP.out⟩
theorem qappend (h : QAt w M d) (id : Int) (B : Option Addr) (c : Nat) (l : List UInt8) (hll : l.length ≤ maxLen) (hsrc : ∀ W, Quiet w W → Src W B (bytes l)) (hnil : B = none → l.length = 0) :
    Calls Try.prog 18 #[.pointer (some ⟨M.p, 0, none⟩), .int .i64 id, .slice B l.length c] w fun x w' => x = .returned (.int .i64 (appendF d id l).1) ∧ QPost M w (appendF d id l).2 w' := by
  unfold appendF
  cases hf : findJ id d.js with
  | none => exact (qappend_no h id B _ c hf).mono fun x w' ⟨e, hq⟩ => ⟨e, QPost.same h hq⟩
  | some i =>
    obtain ⟨e, he, _⟩ := findJ_some hf
    obtain ⟨y, hy, rfl⟩ := h.there he
    simp only [he]
    by_cases hs : y.2.2.state = 0
    · rw [if_neg (by omega)]
      by_cases hr : 1048576 - (y.2.2.bytes.length : Int) < l.length
      · rw [if_pos hr]
        exact (qappend_big h id B _ c hf hy hs hr).mono fun x w' ⟨e, hq⟩ => ⟨e, QPost.same h hq⟩
      · rw [if_neg hr]
        exact qappend_ok h id B _ c hf hy hs (by omega) rfl hsrc hnil
    · rw [if_pos hs]
      exact (qappend_shut h id B _ c hf hy hs).mono fun x w' ⟨e, hq⟩ => ⟨e, QPost.same h hq⟩
end
end Go.Proofs.Ytffockkdiimneaa
