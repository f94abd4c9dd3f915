/-
  The reference's End and Leave. No conditions.
-/
import Derived.Test.YtffockkdiimneaaQTidy
namespace Go.Proofs.Ytffockkdiimneaa
open Go.RowKit
set_option linter.unusedVariables false
set_option linter.unusedSimpArgs false

section
variable {w : World} {M : QMem} {d : Desk}
/-- What a call leaves. -/
def QPost (M : QMem) (w : World) (d' : Desk) (w' : World) : Prop := ∃ M', QAt w' M' d' ∧ QStep w w' M M'
theorem QPost.same (h : QAt w M d) {w' : World} (hq : Quiet w w') : QPost M w d w' := ⟨M, h.quiet hq, QStep.refl M hq⟩
/-- What stands at a fill, in each world that is quiet. -/
theorem QAt.facts (h : QAt w M d) {i : Nat} {y : QF} (hy : M.ys[i]? = some y) : ∃ g cap, M.v = .slice (some ⟨g, 0, none⟩) M.ys.length cap ∧ M.ys.length ≤ cap ∧ cap ≤ maxLen ∧ M.p ≠ g ∧ ∀ V, Quiet w V → (V.cell? ⟨M.p, 0, none⟩ = some (.slice (some ⟨g, 0, none⟩) M.ys.length cap) ∧ V.cell? ⟨M.p, 1, none⟩ = some (.int .i64 (d.last : Nat)) ∧ M.p < V.heap.size ∧ g < V.heap.size) ∧
    (V.cell? ⟨g, i * 5, none⟩ = some (.int .i64 (y.2.1 : Nat)) ∧ V.cell? ⟨g, i * 5 + 1, none⟩ = some (.int .i64 (y.2.2.state : Nat)) ∧ V.cell? ⟨g, i * 5 + 2, none⟩ = some (.int .i64 (y.2.2.part : Nat)) ∧ V.cell? ⟨g, i * 5 + 3, none⟩ = some (.string y.2.2.name) ∧ V.cell? ⟨g, i * 5 + 4, none⟩ = some (.slice y.1.A y.2.2.bytes.length y.1.c)) ∧
      ∀ j, V.frozen? ⟨g, j, none⟩ = false := by
  obtain ⟨p0, p1, ps⟩ := h.head
  obtain ⟨g, cap, hv, hc1, hc2, gs, ⟨cur, hcur⟩, hc⟩ := h.cells hy
  rw [hv] at p0
  refine ⟨g, cap, hv, hc1, hc2, blk_ne h.blk hcur (by decide), fun V hV => ⟨⟨(hV.cell (p := ⟨M.p, 0, none⟩) ps (fun x => x)).trans p0, (hV.cell (p := ⟨M.p, 1, none⟩) ps (fun x => x)).trans p1, Nat.lt_of_lt_of_le ps hV.size, Nat.lt_of_lt_of_le gs hV.size⟩, ⟨?_, ?_, ?_, ?_, ?_⟩, fun j => blk_frozen (hV.keep hcur (fun x => x)) j⟩⟩
  · exact (hV.cell (p := ⟨g, i * 5, none⟩) gs (fun x => x)).trans (hc 0 (by omega))
  · exact (hV.cell (p := ⟨g, i * 5 + 1, none⟩) gs (fun x => x)).trans (hc 1 (by omega))
  · exact (hV.cell (p := ⟨g, i * 5 + 2, none⟩) gs (fun x => x)).trans (hc 2 (by omega))
  · exact (hV.cell (p := ⟨g, i * 5 + 3, none⟩) gs (fun x => x)).trans (hc 3 (by omega))
  · exact (hV.cell (p := ⟨g, i * 5 + 4, none⟩) gs (fun x => x)).trans (hc 4 (by omega))
/-- 'State' written, and tidied. -/
theorem qset_tidy (h : QAt w M d) {i : Nat} {y : QF} (hy : M.ys[i]? = some y) {w1 w2 : World} (hq : Quiet w w1) {M2 : QMem} {d2 : Desk} (h2 : QAt w2 M2 d2) (hs : QStep w1 w2 M M2) {y2 : QF} (hy2 : M2.ys[i]? = some y2) {f : Job → Job} (hd : d2 = { d with js := d.js.set i (y.2.1, f y.2.2) }) :
    Calls Try.prog 31 #[.pointer (some ⟨M.p, 0, none⟩), .int .i64 (i : Int)] w2 fun x w' => x = .returned (.tuple #[]) ∧ QPost M w { d with js := tidy (upd d.js i f) i } w' := by
  rw [← hs.same]
  refine (qtidy h2 hy2).mono ?_
  rintro x w' ⟨rfl, M', h3, h4⟩
  refine ⟨rfl, M', ?_, (QStep.after hq hs).trans h4⟩
  rw [upd_set (h.job hy)]
  rw [hd] at h3
  exact h3
set_option maxRecDepth 8000 in
set_option maxHeartbeats 4000000 in
theorem qend_no (h : QAt w M d) (id : Int) (whole : Bool) (hf : findJ id d.js = none) :
    Calls Try.prog 19 #[.pointer (some ⟨M.p, 0, none⟩), .int .i64 id, .bool whole] w fun x w' => x = .returned (.int .i64 12) ∧ Quiet w w' := by
  have CF := Lib.hid (qfind h id)
  rw [hf] at CF
  simp only [fpos] at CF
  clear hf h
  go_enter Try.func19, Try.ntmps19
  go_wp2_with (go_at_call 30; refine CF.out.mono ?_; rintro x w2 ⟨rfl, hq⟩; have Q2 := Lib.hid hq; clear hq)
  go_ret
  exact ⟨rfl, Q2.out⟩
set_option maxRecDepth 8000 in
set_option maxHeartbeats 4000000 in
theorem qend_shut (h : QAt w M d) (id : Int) (whole : Bool) {i : Nat} {y : QF} (hf : findJ id d.js = some i) (hy : M.ys[i]? = some y) (hs : y.2.2.state ≠ 0) :
    Calls Try.prog 19 #[.pointer (some ⟨M.p, 0, none⟩), .int .i64 id, .bool whole] w fun x w' => x = .returned (.int .i64 16) ∧ Quiet w w' := by
  have CF := Lib.hid (qfind h id)
  rw [hf] at CF
  simp only [fpos] at CF
  obtain ⟨g, cap, hv, hc1, hc2, hpg, hfc⟩ := h.facts hy
  have hi := (List.getElem?_eq_some_iff.1 hy).1
  have hsm := h.small
  have HC := Lib.hid hfc
  unfold maxLen at hc2
  obtain ⟨n, hn⟩ : ∃ n, n = M.ys.length := ⟨_, rfl⟩
  rw [← hn] at HC hi hsm hc1
  have d1 : ((y.2.2.state : Int) != 0) = true := by simp; omega
  clear hf h hfc hv hn hs hy
  have i0 : (0 : Int) ≤ (i : Int) := by omega
  have i1 : (i : Int) < (n : Int) := by omega
  have d0 : decide ((i : Int) < 0) = false := by simp
  go_enter Try.func19, Try.ntmps19
  go_wp2_with (go_at_call 30; refine CF.out.mono ?_; rintro x w2 ⟨rfl, hq⟩; have Q2 := Lib.hid hq; obtain ⟨⟨t0, t1, t2, t3⟩, ⟨q0, q1, q2, q3, q4⟩, qf⟩ := HC.out w2 hq; clear hq)
  go_ret
  exact ⟨rfl, Q2.out⟩
set_option maxRecDepth 8000 in
set_option maxHeartbeats 4000000 in
theorem qend_ok (h : QAt w M d) (id : Int) (whole : Bool) {i : Nat} {y : QF} (hf : findJ id d.js = some i) (hy : M.ys[i]? = some y) (hs : y.2.2.state = 0) :
    Calls Try.prog 19 #[.pointer (some ⟨M.p, 0, none⟩), .int .i64 id, .bool whole] w fun x w' => x = .returned (.int .i64 0) ∧ QPost M w { d with js := tidy (upd d.js i fun j => { j with state := if whole then 1 else 2 }) i } w' := by
  have CF := Lib.hid (qfind h id)
  rw [hf] at CF
  simp only [fpos] at CF
  obtain ⟨g, cap, hv, hc1, hc2, hpg, hfc⟩ := h.facts hy
  have hgp : g ≠ M.p := fun e => hpg e.symm
  have hi := (List.getElem?_eq_some_iff.1 hy).1
  have hsm := h.small
  have HC := Lib.hid hfc
  have H := Lib.hid h
  have HY := Lib.hid hy
  have HV := Lib.hid hv
  unfold maxLen at hc2
  have H3 := Lib.hid (fun (V : World) (hV : Quiet w V) => (h.quiet hV).put0 hy hv { y.2.2 with state := 2 } 1 (.int .i64 2) (by decide) rfl (by simp [qcells]))
  have H4 := Lib.hid (fun (V : World) (hV : Quiet w V) => (H3.out V hV).1.put0 (i := i) (y := (y.1, (y.2.1, { y.2.2 with state := 2 }))) (List.getElem?_set_self hi) (by simp; exact hv) { y.2.2 with state := 1 } 1 (.int .i64 1) (by decide) rfl (by simp [qcells]))
  obtain ⟨n, hn⟩ : ∃ n, n = M.ys.length := ⟨_, rfl⟩
  have HL := Lib.hid (show i < M.ys.length from hi)
  rw [← hn] at HC hi hsm hc1
  rw [hs] at HC
  clear hf h hfc hv hn hs hy
  have i0 : (0 : Int) ≤ (i : Int) := by omega
  have i1 : (i : Int) < (n : Int) := by omega
  have d0 : decide ((i : Int) < 0) = false := by simp
  cases whole with
  | false =>
    go_enter Try.func19, Try.ntmps19
    go_wp2_with (first
      | (go_at_call 30; refine CF.out.mono ?_; rintro x w2 ⟨rfl, hq⟩; have Q2 := Lib.hid hq; obtain ⟨⟨t0, t1, t2, t3⟩, ⟨q0, q1, q2, q3, q4⟩, qf⟩ := HC.out w2 hq; have qf1 := qf (i * 5 + 1); clear hq qf)
      | (go_at_call 31; refine (qset_tidy H.out HY.out Q2.out (H3.out w2 Q2.out).1 (H3.out w2 Q2.out).2 (List.getElem?_set_self HL.out) (f := fun j => { j with state := 2 }) rfl).mono ?_; rintro x w4 ⟨rfl, h4⟩; have HP := Lib.hid h4; clear h4))
    go_ret
    exact ⟨rfl, HP.out⟩
  | true =>
    go_enter Try.func19, Try.ntmps19
    go_wp2_with (first
      | (go_at_call 30; refine CF.out.mono ?_; rintro x w2 ⟨rfl, hq⟩; have Q2 := Lib.hid hq; obtain ⟨⟨t0, t1, t2, t3⟩, ⟨q0, q1, q2, q3, q4⟩, qf⟩ := HC.out w2 hq; have qf1 := qf (i * 5 + 1); clear hq qf)
      | (go_at_call 31; refine (qset_tidy H.out HY.out Q2.out (H4.out w2 Q2.out).1 ((H3.out w2 Q2.out).2.trans (H4.out w2 Q2.out).2) (List.getElem?_set_self (by simp; exact HL.out)) (f := fun j => { j with state := 1 }) (by simp [List.set_set])).mono ?_; rintro x w4 ⟨rfl, h4⟩; have HP := Lib.hid h4; clear h4))
    go_ret
    exact ⟨rfl, HP.out⟩
theorem qend (h : QAt w M d) (id : Int) (whole : Bool) : Calls Try.prog 19 #[.pointer (some ⟨M.p, 0, none⟩), .int .i64 id, .bool whole] w fun x w' => x = .returned (.int .i64 (endF d id whole).1) ∧ QPost M w (endF d id whole).2 w' := by
  unfold endF
  cases hf : findJ id d.js with
  | none => exact (qend_no h id whole hf).mono fun x w' ⟨e, hq⟩ => ⟨e, QPost.same h hq⟩
  | some i =>
    obtain ⟨e, he, _⟩ := findJ_some hf
    obtain ⟨y, hy, rfl⟩ := h.there he
    simp only [he]
    by_cases hs : y.2.2.state = 0
    · rw [if_neg (by omega)]
      exact qend_ok h id whole hf hy hs
    · rw [if_pos hs]
      exact (qend_shut h id whole hf hy hs).mono fun x w' ⟨e, hq⟩ => ⟨e, QPost.same h hq⟩
set_option maxRecDepth 8000 in
set_option maxHeartbeats 4000000 in
theorem qleave_no (h : QAt w M d) (id : Int) (hf : findJ id d.js = none) :
    Calls Try.prog 20 #[.pointer (some ⟨M.p, 0, none⟩), .int .i64 id] w fun x w' => x = .returned (.int .i64 12) ∧ Quiet w w' := by
  have CF := Lib.hid (qfind h id)
  rw [hf] at CF
  simp only [fpos] at CF
  clear hf h
  go_enter Try.func20, Try.ntmps20
  go_wp2_with (go_at_call 30; refine CF.out.mono ?_; rintro x w2 ⟨rfl, hq⟩; have Q2 := Lib.hid hq; clear hq)
  go_ret
  exact ⟨rfl, Q2.out⟩
set_option maxRecDepth 8000 in
set_option maxHeartbeats 4000000 in
theorem qleave_free (h : QAt w M d) (id : Int) {i : Nat} {y : QF} (hf : findJ id d.js = some i) (hy : M.ys[i]? = some y) (hs : y.2.2.part = 0) :
    Calls Try.prog 20 #[.pointer (some ⟨M.p, 0, none⟩), .int .i64 id] w fun x w' => x = .returned (.int .i64 17) ∧ Quiet w w' := by
  have CF := Lib.hid (qfind h id)
  rw [hf] at CF
  simp only [fpos] at CF
  obtain ⟨g, cap, hv, hc1, hc2, hpg, hfc⟩ := h.facts hy
  have hi := (List.getElem?_eq_some_iff.1 hy).1
  have hsm := h.small
  have HC := Lib.hid hfc
  unfold maxLen at hc2
  obtain ⟨n, hn⟩ : ∃ n, n = M.ys.length := ⟨_, rfl⟩
  rw [← hn] at HC hi hsm hc1
  rw [hs] at HC
  clear hf h hfc hv hn hs hy
  have i0 : (0 : Int) ≤ (i : Int) := by omega
  have i1 : (i : Int) < (n : Int) := by omega
  have d0 : decide ((i : Int) < 0) = false := by simp
  go_enter Try.func20, Try.ntmps20
  go_wp2_with (go_at_call 30; refine CF.out.mono ?_; rintro x w2 ⟨rfl, hq⟩; have Q2 := Lib.hid hq; obtain ⟨⟨t0, t1, t2, t3⟩, ⟨q0, q1, q2, q3, q4⟩, qf⟩ := HC.out w2 hq; clear hq)
  go_ret
  exact ⟨rfl, Q2.out⟩
set_option maxRecDepth 8000 in
set_option maxHeartbeats 4000000 in
theorem qleave_ok (h : QAt w M d) (id : Int) {i : Nat} {y : QF} (hf : findJ id d.js = some i) (hy : M.ys[i]? = some y) {m : Nat} (hs : y.2.2.part = m + 1) (hm : m < 4611686018427387904) :
    Calls Try.prog 20 #[.pointer (some ⟨M.p, 0, none⟩), .int .i64 id] w fun x w' => x = .returned (.int .i64 0) ∧ QPost M w { d with js := tidy (upd d.js i fun j => { j with part := j.part - 1 }) i } w' := by
  have CF := Lib.hid (qfind h id)
  rw [hf] at CF
  simp only [fpos] at CF
  obtain ⟨g, cap, hv, hc1, hc2, hpg, hfc⟩ := h.facts hy
  have hgp : g ≠ M.p := fun e => hpg e.symm
  have hi := (List.getElem?_eq_some_iff.1 hy).1
  have hsm := h.small
  have HC := Lib.hid hfc
  have H := Lib.hid h
  have HY := Lib.hid hy
  unfold maxLen at hc2
  have H3 := Lib.hid (fun (V : World) (hV : Quiet w V) => (h.quiet hV).put0 hy hv { y.2.2 with part := m } 2 (.int .i64 (m : Nat)) (by decide) rfl (by simp [qcells]))
  have HS := Lib.hid hs
  obtain ⟨n, hn⟩ : ∃ n, n = M.ys.length := ⟨_, rfl⟩
  have HL := Lib.hid (show i < M.ys.length from hi)
  rw [← hn] at HC hi hsm hc1
  rw [hs] at HC
  clear hf h hfc hv hn hs hy
  have i0 : (0 : Int) ≤ (i : Int) := by omega
  have i1 : (i : Int) < (n : Int) := by omega
  have d0 : decide ((i : Int) < 0) = false := by simp
  have d1 : (((m + 1 : Nat) : Int) == 0) = false := by simp; omega
  have e1 : ((m + 1 : Nat) : Int) - 1 = (m : Int) := by omega
  have HF := Lib.hid (show (y.2.1, { y.2.2 with part := m }) = (y.2.1, (fun (j : Job) => { j with part := j.part - 1 }) y.2.2) by simp [HS.out])
  go_enter Try.func20, Try.ntmps20
  go_wp2_with (first
    | (go_at_call 30; refine CF.out.mono ?_; rintro x w2 ⟨rfl, hq⟩; have Q2 := Lib.hid hq; obtain ⟨⟨t0, t1, t2, t3⟩, ⟨q0, q1, q2, q3, q4⟩, qf⟩ := HC.out w2 hq; have qf1 := qf (i * 5 + 2); clear hq qf)
    | (go_at_call 31; refine (qset_tidy H.out HY.out Q2.out (H3.out w2 Q2.out).1 (H3.out w2 Q2.out).2 (List.getElem?_set_self HL.out) (f := fun j => { j with part := j.part - 1 }) (by rw [HF.out])).mono ?_; rintro x w4 ⟨rfl, h4⟩; have HP := Lib.hid h4; clear h4))
  go_ret
  exact ⟨rfl, HP.out⟩
theorem qleave (h : QAt w M d) (id : Int) (hpart : ∀ e ∈ d.js, e.2.part < 4611686018427387904) : Calls Try.prog 20 #[.pointer (some ⟨M.p, 0, none⟩), .int .i64 id] w fun x w' => x = .returned (.int .i64 (leaveF d id).1) ∧ QPost M w (leaveF d id).2 w' := by
  unfold leaveF
  cases hf : findJ id d.js with
  | none => exact (qleave_no h id hf).mono fun x w' ⟨e, hq⟩ => ⟨e, QPost.same h hq⟩
  | some i =>
    obtain ⟨e, he, _⟩ := findJ_some hf
    obtain ⟨y, hy, rfl⟩ := h.there he
    simp only [he]
    by_cases hs : y.2.2.part = 0
    · rw [if_pos hs]
      exact (qleave_free h id hf hy hs).mono fun x w' ⟨e, hq⟩ => ⟨e, QPost.same h hq⟩
    · rw [if_neg hs]
      have := hpart _ (List.mem_of_getElem? he)
      exact qleave_ok h id hf hy (m := y.2.2.part - 1) (by omega) (by omega)
end
end Go.Proofs.Ytffockkdiimneaa
