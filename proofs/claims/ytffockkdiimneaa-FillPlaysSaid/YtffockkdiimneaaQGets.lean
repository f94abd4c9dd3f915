/-
  The reference's find, Part and Running. No conditions.
-/
import Derived.Test.YtffockkdiimneaaQMem
namespace Go.Proofs.Ytffockkdiimneaa
open Go.RowKit
set_option linter.unusedVariables false
set_option linter.unusedSimpArgs false

theorem findJ_first {id : Int} : ∀ {js : List (Nat × Job)} {k : Nat} {e : Nat × Job}, js[k]? = some e → (e.1 : Int) = id → (∀ (j : Nat) (x : Nat × Job), j < k → js[j]? = some x → (x.1 : Int) ≠ id) → findJ id js = some k
  | [], k, e, h, _, _ => by simp at h
  | x :: r, 0, e, h, he, _ => by
    simp at h; subst h
    simp [findJ, he]
  | x :: r, k + 1, e, h, he, hn => by
    have h1 : (x.1 : Int) ≠ id := hn 0 x (by omega) rfl
    have := findJ_first (js := r) (k := k) (by simpa using h) he (fun j y hj hy => hn (j + 1) y (by omega) (by simpa using hy))
    simp [findJ, h1, this]
theorem findJ_nowhere {id : Int} : ∀ {js : List (Nat × Job)}, (∀ (j : Nat) (x : Nat × Job), js[j]? = some x → (x.1 : Int) ≠ id) → findJ id js = none
  | [], _ => rfl
  | x :: r, hn => by
    have h1 : (x.1 : Int) ≠ id := hn 0 x rfl
    have := findJ_nowhere (js := r) (fun j y hy => hn (j + 1) y (by simpa using hy))
    simp [findJ, h1, this]
def fpos : Option Nat → Int
  | none => -1
  | some i => i
def FRel (w : World) (js : List (Nat × Job)) (id : Int) (n : Nat) (vi : Value) (wr : World) : Prop := ∃ k, k ≤ n ∧ vi = .int .i64 (k : Nat) ∧ (∀ (j : Nat) (x : Nat × Job), j < k → js[j]? = some x → (x.1 : Int) ≠ id) ∧ Quiet w wr
set_option maxRecDepth 8000 in
set_option maxHeartbeats 4000000 in
theorem qfind {w : World} {M : QMem} {d : Desk} (h : QAt w M d) (id : Int) :
    Calls Try.prog 30 #[.pointer (some ⟨M.p, 0, none⟩), .int .i64 id] w fun x w' => x = .returned (.int .i64 (fpos (findJ id d.js))) ∧ Quiet w w' := by
  obtain ⟨p0, _, ps⟩ := h.head
  obtain ⟨A, cap, hv, hc1, hc2⟩ := h.shape
  have hl := h.len
  have hsm := h.small
  rw [hv] at p0
  unfold maxLen at hc2
  have HC := Lib.hid (fun (V : World) (hV : Quiet w V) => show V.cell? ⟨M.p, 0, none⟩ = some (.slice A M.ys.length cap) ∧ M.p < V.heap.size from ⟨(hV.cell (p := ⟨M.p, 0, none⟩) ps (fun x => x)).trans p0, Nat.lt_of_lt_of_le ps hV.size⟩)
  have HE := Lib.hid (fun (i : Nat) (y : QF) (hy : M.ys[i]? = some y) => h.cells hy)
  have HJ := Lib.hid (fun (i : Nat) (y : QF) (hy : M.ys[i]? = some y) => h.job hy)
  have HL := Lib.hid hl
  have HV := Lib.hid hv
  obtain ⟨n, hn⟩ : ∃ n, n = M.ys.length := ⟨_, rfl⟩
  rw [← hn] at HC HL HV hsm hc1 HE
  have HN := Lib.hid hn
  clear h hv hl hn p0 ps
  go_enter Try.func30, Try.ntmps30
  go_wp2_with fail
  go_loopw [5] (fun vi wr => FRel w d.js id n vi wr) (fun i _ => n - (intOf i).toNat)
  case atStart => exact ⟨0, by omega, rfl, fun j x hj => by omega, Only.refl _ _⟩
  case round =>
    obtain ⟨k, hk, rfl, hno, hq⟩ := hrel
    have HNO := Lib.hid hno; clear hno
    have HQ := Lib.hid hq; clear hq
    obtain ⟨t0, t1⟩ := HC.out wr HQ.out
    by_cases hlt : k < n
    · have hd : decide ((k : Int) < (n : Int)) = true := by simpa using hlt
      obtain ⟨y, hy⟩ : ∃ y, M.ys[k]? = some y := ⟨_, List.getElem?_eq_getElem (by have := HN.out; omega)⟩
      obtain ⟨g, cap', hv', _, _, gs, _, hc⟩ := HE.out k y hy
      rw [HV.out, Value.slice.injEq] at hv'
      obtain ⟨rfl, _, _⟩ := hv'
      have q0 : wr.cell? ⟨g, k * 5, none⟩ = some (.int .i64 (y.2.1 : Nat)) := (HQ.out.cell (p := ⟨g, k * 5, none⟩) gs (fun x => x)).trans (hc 0 (by omega))
      have q1 : g < wr.heap.size := Nat.lt_of_lt_of_le gs HQ.out.size
      have HY := Lib.hid (HJ.out k y hy)
      obtain ⟨e, he⟩ : ∃ e : Nat, e = y.2.1 := ⟨_, rfl⟩
      rw [← he] at q0
      have HEE := Lib.hid he
      clear hy hc gs he
      have k0 : (0 : Int) ≤ (k : Int) := by omega
      have k1 : (k : Int) < (n : Int) := by omega
      by_cases hid : (e : Int) = id
      · have d2 : ((e : Int) == id) = true := by simpa using hid
        have HF := Lib.hid (findJ_first HY.out (by rw [← HEE.out]; exact hid) HNO.out)
        clear hid
        go_wp2_with fail
        go_ret
        exact ⟨by rw [HF.out]; rfl, HQ.out⟩
      · have d2 : ((e : Int) == id) = false := by simpa using hid
        have HID := Lib.hid hid; clear hid
        go_wp2_with fail
        go_roundw
        case rel =>
          refine ⟨k + 1, by omega, by go_num, fun j x hj hx => ?_, HQ.out⟩
          by_cases hjk : j = k
          · subst hjk
            rw [HY.out] at hx
            obtain rfl := Option.some.inj hx
            rw [← HEE.out]; exact HID.out
          · exact HNO.out j x (by omega) hx
        case measure => simp [intOf]; omega
    · have hkn : k = n := by omega
      subst hkn
      have hd : decide ((k : Int) < (k : Int)) = false := by simp
      have HF := Lib.hid (findJ_nowhere (id := id) (js := d.js) (fun j x hx => HNO.out j x (by have := (List.getElem?_eq_some_iff.1 hx).1; have := HL.out; omega) hx))
      go_wp2_with fail
      go_ret
      exact ⟨by rw [HF.out]; rfl, HQ.out⟩
set_option maxRecDepth 8000 in
set_option maxHeartbeats 4000000 in
theorem qpart {w : World} {M : QMem} {d : Desk} (h : QAt w M d) (id : Int) :
    Calls Try.prog 22 #[.pointer (some ⟨M.p, 0, none⟩), .int .i64 id] w fun x w' => x = .returned (.int .i64 (partF d id)) ∧ Quiet w w' := by
  have CF := Lib.hid (qfind h id)
  unfold partF
  cases hf : findJ id d.js with
  | none =>
    rw [hf] at CF
    simp only [fpos] at CF
    clear hf h
    go_enter Try.func22, Try.ntmps22
    go_wp2_with (go_at_call 30; refine CF.out.mono ?_; rintro x w2 ⟨rfl, hq⟩; have Q2 := Lib.hid hq; clear hq)
    go_ret
    exact ⟨rfl, Q2.out⟩
  | some i =>
    rw [hf] at CF
    simp only [fpos] at CF
    obtain ⟨e, he, _⟩ := findJ_some hf
    obtain ⟨y, hy, rfl⟩ := h.there he
    simp only [he, Option.map_some, Option.getD_some]
    obtain ⟨p0, _, ps⟩ := h.head
    obtain ⟨g, cap, hv, hc1, hc2, gs, _, hc⟩ := h.cells hy
    have hi := (List.getElem?_eq_some_iff.1 hy).1
    have hsm := h.small
    rw [hv] at p0
    unfold maxLen at hc2
    have g2 : w.cell? ⟨g, i * 5 + 2, none⟩ = some (.int .i64 (y.2.2.part : Nat)) := hc 2 (by omega)
    have HC := Lib.hid (fun (V : World) (hV : Quiet w V) => show V.cell? ⟨M.p, 0, none⟩ = some (.slice (some ⟨g, 0, none⟩) M.ys.length cap) ∧ V.cell? ⟨g, i * 5 + 2, none⟩ = some (.int .i64 (y.2.2.part : Nat)) from
      ⟨(hV.cell (p := ⟨M.p, 0, none⟩) ps (fun x => x)).trans p0, (hV.cell (p := ⟨g, i * 5 + 2, none⟩) gs (fun x => x)).trans g2⟩)
    obtain ⟨n, hn⟩ : ∃ n, n = M.ys.length := ⟨_, rfl⟩
    rw [← hn] at HC hi hsm hc1
    clear hf h he hy hv hc p0 g2 hn
    have i0 : (0 : Int) ≤ (i : Int) := by omega
    have i1 : (i : Int) < (n : Int) := by omega
    have d1 : decide ((i : Int) < 0) = false := by simp
    go_enter Try.func22, Try.ntmps22
    go_wp2_with (go_at_call 30; refine CF.out.mono ?_; rintro x w2 ⟨rfl, hq⟩; have Q2 := Lib.hid hq; obtain ⟨t0, t1⟩ := HC.out w2 hq; clear hq)
    go_ret
    exact ⟨rfl, Q2.out⟩
def runsTo (js : List (Nat × Job)) (k : Nat) : Nat := (runs (js.take k)).length
theorem runsTo_next {js : List (Nat × Job)} {k : Nat} {e : Nat × Job} (h : js[k]? = some e) : runsTo js (k + 1) = runsTo js k + if e.2.state = 0 then 1 else 0 := by
  unfold runsTo runs
  rw [List.take_add_one, h]
  simp only [Option.toList_some, List.filter_append, List.length_append]
  by_cases hs : e.2.state = 0
  · simp [hs]
  · simp [hs]
theorem runsTo_le (js : List (Nat × Job)) (k : Nat) : runsTo js k ≤ k := by
  unfold runsTo runs
  exact Nat.le_trans (List.length_filter_le _ _) (by rw [List.length_take]; omega)
set_option maxRecDepth 8000 in
set_option maxHeartbeats 4000000 in
theorem qrunning {w : World} {M : QMem} {d : Desk} (h : QAt w M d) :
    Calls Try.prog 23 #[.pointer (some ⟨M.p, 0, none⟩)] w fun x w' => x = .returned (.int .i64 (runningF d)) ∧ Quiet w w' := by
  obtain ⟨p0, _, ps⟩ := h.head
  obtain ⟨A, cap, hv, hc1, hc2⟩ := h.shape
  have hl := h.len
  have hsm := h.small
  rw [hv] at p0
  unfold maxLen at hc2
  have HC := Lib.hid (fun (V : World) (hV : Quiet w V) => show V.cell? ⟨M.p, 0, none⟩ = some (.slice A M.ys.length cap) ∧ M.p < V.heap.size from ⟨(hV.cell (p := ⟨M.p, 0, none⟩) ps (fun x => x)).trans p0, Nat.lt_of_lt_of_le ps hV.size⟩)
  have HE := Lib.hid (fun (i : Nat) (y : QF) (hy : M.ys[i]? = some y) => h.cells hy)
  have HJ := Lib.hid (fun (i : Nat) (y : QF) (hy : M.ys[i]? = some y) => h.job hy)
  have HL := Lib.hid hl
  have HV := Lib.hid hv
  obtain ⟨n, hn⟩ : ∃ n, n = M.ys.length := ⟨_, rfl⟩
  rw [← hn] at HC HL HV hsm hc1 HE
  have HN := Lib.hid hn
  clear h hv hl hn p0 ps
  go_enter Try.func23, Try.ntmps23
  go_wp2_with fail
  go_loopw [3, 4] (fun vn vi wr => ∃ k, k ≤ n ∧ vi = .int .i64 (k : Nat) ∧ vn = .int .i64 (runsTo d.js k : Nat) ∧ Quiet w wr) (fun _ i _ => n - (intOf i).toNat)
  case atStart => exact ⟨0, by omega, rfl, rfl, Only.refl _ _⟩
  case round =>
    obtain ⟨k, hk, rfl, rfl, hq⟩ := hrel
    have HQ := Lib.hid hq; clear hq
    obtain ⟨t0, t1⟩ := HC.out wr HQ.out
    by_cases hlt : k < n
    · have hd : decide ((k : Int) < (n : Int)) = true := by simpa using hlt
      obtain ⟨y, hy⟩ : ∃ y, M.ys[k]? = some y := ⟨_, List.getElem?_eq_getElem (by have := HN.out; omega)⟩
      obtain ⟨g, cap', hv', _, _, gs, _, hc⟩ := HE.out k y hy
      rw [HV.out, Value.slice.injEq] at hv'
      obtain ⟨rfl, _, _⟩ := hv'
      have q0 : wr.cell? ⟨g, k * 5 + 1, none⟩ = some (.int .i64 (y.2.2.state : Nat)) := (HQ.out.cell (p := ⟨g, k * 5 + 1, none⟩) gs (fun x => x)).trans (hc 1 (by omega))
      have q1 : g < wr.heap.size := Nat.lt_of_lt_of_le gs HQ.out.size
      have HR := Lib.hid (runsTo_next (HJ.out k y hy))
      have hrl := runsTo_le d.js k
      obtain ⟨s, hs⟩ : ∃ s : Nat, s = y.2.2.state := ⟨_, rfl⟩
      rw [← hs] at q0 HR
      clear hy hc gs hs
      obtain ⟨r, hr⟩ : ∃ r, r = runsTo d.js k := ⟨_, rfl⟩
      rw [← hr] at hrl HR ⊢
      have HRR := Lib.hid hr; clear hr
      have k0 : (0 : Int) ≤ (k : Int) := by omega
      have k1 : (k : Int) < (n : Int) := by omega
      by_cases hs0 : s = 0
      · have d2 : ((s : Int) == 0) = true := by simp; omega
        have HS := Lib.hid hs0; clear hs0
        go_wp2_with fail
        go_roundw
        case rel => exact ⟨k + 1, by omega, by go_num, by rw [HR.out, if_pos HS.out]; go_num, HQ.out⟩
        case measure => simp [intOf]; omega
      · have d2 : ((s : Int) == 0) = false := by simp; omega
        have HS := Lib.hid hs0; clear hs0
        go_wp2_with fail
        go_roundw
        case rel => exact ⟨k + 1, by omega, by go_num, by rw [HR.out, if_neg HS.out]; rfl, HQ.out⟩
        case measure => simp [intOf]; omega
    · have hkn : k = n := by omega
      subst hkn
      have hd : decide ((k : Int) < (k : Int)) = false := by simp
      have HF := Lib.hid (show runsTo d.js k = (runs d.js).length by unfold runsTo; rw [List.take_of_length_le (by have := HL.out; omega)])
      go_wp2_with fail
      go_ret
      exact ⟨by unfold runningF; rw [← HF.out]; rfl, HQ.out⟩
end Go.Proofs.Ytffockkdiimneaa
