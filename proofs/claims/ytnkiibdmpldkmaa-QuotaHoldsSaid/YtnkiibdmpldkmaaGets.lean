/-
  What the program's Reached, Pinned, Limit and Fits tell of a book in memory, of a nil one and of an empty one. No conditions.
-/
import Derived.Test.YtnkiibdmpldkmaaWords
import Derived.Deep.QuietTactic
import Derived.BigQuiet
import Derived.Lib.Hide
namespace Go.Proofs.Ytnkiibdmpldkmaa
open Go.RowKit

abbrev Quiet (w w' : World) : Prop := Only (fun _ => False) w w'
theorem field51_0 (x y z : Int) (w : World) : (Instr.field 51 (.agg #[.int .i64 x, .int .i64 y, .int .i64 z]) 0).run Try.prog w = .ok (.int .i64 x) w := by kernel_rfl
theorem field51_1 (x y z : Int) (w : World) : (Instr.field 51 (.agg #[.int .i64 x, .int .i64 y, .int .i64 z]) 1).run Try.prog w = .ok (.int .i64 y) w := by kernel_rfl
theorem field51_2 (x y z : Int) (w : World) : (Instr.field 51 (.agg #[.int .i64 x, .int .i64 y, .int .i64 z]) 2).run Try.prog w = .ok (.int .i64 z) w := by kernel_rfl
attribute [go_sem] field51_0 field51_1 field51_2
theorem lookNil (w : World) (t : Int) : (Instr.lookup 23 (.map none) (.int .i64 t) false).run Try.prog w = .ok (.pointer none) w := by
  simp [Instr.lookup, run_underlying Try.underlying23, MapKept.run_checkKey (P := Try.prog) (d := .int .i64) (k := .int .i64 t) Try.underlying3 rfl, MapKept.run_findKey (P := Try.prog) (kt := 3) (d := .int .i64) (k := .int .i64 t) (l := []) (a := none) Try.underlying3 rfl, zero49, Result.andThen]
attribute [go_sem] lookNil

set_option maxHeartbeats 400000 in
theorem of_nil (t : Int) (w : World) : Calls Try.prog 24 #[.pointer none, .int .i64 t] w fun e w' => e = .returned (.agg #[.int .i64 0, .int .i64 0, .int .i64 0]) ∧ Quiet w w' := by
  go_enter Try.func24, Try.ntmps24
  go_wp2
  exact bodyPost_ret (v := .agg #[.int .i64 0, .int .i64 0, .int .i64 0]) (by simp [results, Try.results24, go_sem]) rfl ⟨rfl, (Only.refl _ _).alloc _⟩
set_option maxHeartbeats 400000 in
theorem of_empty (p : Nat) (t : Int) (w : World) (hp : w.cell? ⟨p, 0, none⟩ = some (.map none)) (hps : p < w.heap.size) :
    Calls Try.prog 24 #[.pointer (some ⟨p, 0, none⟩), .int .i64 t] w fun e w' => e = .returned (.agg #[.int .i64 0, .int .i64 0, .int .i64 0]) ∧ Quiet w w' := by
  go_enter Try.func24, Try.ntmps24
  go_wp2
  exact bodyPost_ret (v := .agg #[.int .i64 0, .int .i64 0, .int .i64 0]) (by simp [results, Try.results24, go_sem]) rfl ⟨rfl, (Only.refl _ _).alloc _⟩
set_option maxHeartbeats 400000 in
theorem of_none (p m : Nat) (t : Int) (w : World) (hp : w.cell? ⟨p, 0, none⟩ = some (.map (some m))) (hps : p < w.heap.size)
    (hl : ∀ o, (Instr.lookup 23 (.map (some m)) (.int .i64 t) false).run Try.prog (w.alloc o) = .ok (.pointer none) (w.alloc o)) :
    Calls Try.prog 24 #[.pointer (some ⟨p, 0, none⟩), .int .i64 t] w fun e w' => e = .returned (.agg #[.int .i64 0, .int .i64 0, .int .i64 0]) ∧ Quiet w w' := by
  go_enter Try.func24, Try.ntmps24
  go_wp2
  exact bodyPost_ret (v := .agg #[.int .i64 0, .int .i64 0, .int .i64 0]) (by simp [results, Try.results24, go_sem]) rfl ⟨rfl, (Only.refl _ _).alloc _⟩
set_option maxHeartbeats 400000 in
theorem of_in (p m a : Nat) (t : Int) (s : Acct) (w : World) (hp : w.cell? ⟨p, 0, none⟩ = some (.map (some m))) (hps : p < w.heap.size) (has : a < w.heap.size)
    (hl : ∀ o, (Instr.lookup 23 (.map (some m)) (.int .i64 t) false).run Try.prog (w.alloc o) = .ok (.pointer (some ⟨a, 0, none⟩)) (w.alloc o))
    (hb : w.heap[a]? = some (.cells (cellsOf s) 51 (0, 0))) :
    Calls Try.prog 24 #[.pointer (some ⟨p, 0, none⟩), .int .i64 t] w fun e w' => e = .returned (.agg #[.int .i64 s.lim, .int .i64 s.inn, .int .i64 s.pin]) ∧ Quiet w w' := by
  obtain ⟨lim, inn, pin⟩ := s
  have h0 : w.cell? ⟨a, 0, none⟩ = some (.int .i64 lim) := blk_cell hb 0
  have h1 : w.cell? ⟨a, 1, none⟩ = some (.int .i64 inn) := blk_cell hb 1
  have h2 : w.cell? ⟨a, 2, none⟩ = some (.int .i64 pin) := blk_cell hb 2
  clear hb
  go_enter Try.func24, Try.ntmps24
  go_wp2
  exact bodyPost_ret (v := .agg #[.int .i64 lim, .int .i64 inn, .int .i64 pin]) (by simp [results, Try.results24, go_sem]) rfl ⟨rfl, (Only.refl _ _).alloc _⟩

/-- A tenant's account; a zero one, where there is none. -/
def look (S : List Acct) (t : Int) : Acct := if t < 0 then ⟨0, 0, 0⟩ else (S[t.toNat]?).getD ⟨0, 0, 0⟩
/-- The three getters, over whatever 'of' tells. -/
theorem reached_of {b : Value} {t : Int} {w : World} {s : Acct} (h : Calls Try.prog 24 #[b, .int .i64 t] w fun e w' => e = .returned (.agg #[.int .i64 s.lim, .int .i64 s.inn, .int .i64 s.pin]) ∧ Quiet w w') :
    Calls Try.prog 12 #[b, .int .i64 t] w fun e w' => e = .returned (.int .i64 s.inn) ∧ Quiet w w' := by
  have H := Lib.hid h; clear h
  go_enter Try.func12, Try.ntmps12
  go_wp2_with (go_at_call 24; refine H.out.mono ?_; rintro e w' ⟨rfl, ho⟩)
  go_ret
  exact ⟨rfl, ho⟩
theorem pinned_of {b : Value} {t : Int} {w : World} {s : Acct} (h : Calls Try.prog 24 #[b, .int .i64 t] w fun e w' => e = .returned (.agg #[.int .i64 s.lim, .int .i64 s.inn, .int .i64 s.pin]) ∧ Quiet w w') :
    Calls Try.prog 13 #[b, .int .i64 t] w fun e w' => e = .returned (.int .i64 s.pin) ∧ Quiet w w' := by
  have H := Lib.hid h; clear h
  go_enter Try.func13, Try.ntmps13
  go_wp2_with (go_at_call 24; refine H.out.mono ?_; rintro e w' ⟨rfl, ho⟩)
  go_ret
  exact ⟨rfl, ho⟩
theorem limit_of {b : Value} {t : Int} {w : World} {s : Acct} (h : Calls Try.prog 24 #[b, .int .i64 t] w fun e w' => e = .returned (.agg #[.int .i64 s.lim, .int .i64 s.inn, .int .i64 s.pin]) ∧ Quiet w w') :
    Calls Try.prog 14 #[b, .int .i64 t] w fun e w' => e = .returned (.int .i64 s.lim) ∧ Quiet w w' := by
  have H := Lib.hid h; clear h
  go_enter Try.func14, Try.ntmps14
  go_wp2_with (go_at_call 24; refine H.out.mono ?_; rintro e w' ⟨rfl, ho⟩)
  go_ret
  exact ⟨rfl, ho⟩
theorem of_any {p m : Nat} {bs : List Nat} {S : List Acct} (t : Int) {w : World} (h : BookAt w p m bs S) :
    Calls Try.prog 24 #[.pointer (some ⟨p, 0, none⟩), .int .i64 t] w fun e w' => e = .returned (.agg #[.int .i64 (look S t).lim, .int .i64 (look S t).inn, .int .i64 (look S t).pin]) ∧ Quiet w w' := by
  have hp : w.cell? ⟨p, 0, none⟩ = some (.map (some m)) := blk_cell h.ptr 0
  have hps := lt_of_heap h.ptr
  have hlk := fun o => (h.alloc o).look t
  by_cases ht : (0 : Int) ≤ t
  · rw [if_pos ht] at hlk
    have e0 : look S t = (S[t.toNat]?).getD ⟨0, 0, 0⟩ := by unfold look; rw [if_neg (by omega)]
    cases hb : bs[t.toNat]? with
    | none =>
      rw [hb] at hlk
      have hS : S[t.toNat]? = none := by rw [List.getElem?_eq_none_iff] at hb ⊢; rw [← h.len]; exact hb
      rw [e0, hS]
      exact of_none p m t w hp hps hlk
    | some a =>
      rw [hb] at hlk
      have hl : t.toNat < S.length := by rw [← h.len]; exact (List.getElem?_eq_some_iff.1 hb).1
      have hS : S[t.toNat]? = some S[t.toNat] := List.getElem?_eq_getElem hl
      rw [e0, hS]
      exact of_in p m a t _ w hp hps (lt_of_heap (h.accs _ a _ hb hS)) hlk (h.accs _ a _ hb hS)
  · rw [if_neg ht] at hlk
    have e0 : look S t = ⟨0, 0, 0⟩ := by unfold look; rw [if_pos (by omega)]
    rw [e0]
    exact of_none p m t w hp hps hlk
theorem BookAt.quiet {w w' : World} {p m : Nat} {bs : List Nat} {S : List Acct} (h : BookAt w p m bs S) (ho : Quiet w w') : BookAt w' p m bs S := h.only ho (fun x => x) (fun x => x) (fun _ _ x => x)

theorem BookAt.look_none {w : World} {p m : Nat} {bs : List Nat} {S : List Acct} (h : BookAt w p m bs S) {t : Int} (ht : t < 0 ∨ S[t.toNat]? = none) :
    (Instr.lookup 23 (.map (some m)) (.int .i64 t) false).run Try.prog w = .ok (.pointer none) w := by
  rw [h.look t]
  by_cases h0 : (0 : Int) ≤ t
  · have hS : S[t.toNat]? = none := by rcases ht with h1 | h1; omega; exact h1
    have hb : bs[t.toNat]? = none := by rw [List.getElem?_eq_none_iff] at hS ⊢; rw [h.len]; exact hS
    simp [hb]
  · simp [h0]
theorem BookAt.look_some {w : World} {p m : Nat} {bs : List Nat} {S : List Acct} (h : BookAt w p m bs S) {t : Int} {s : Acct} (h0 : 0 ≤ t) (ht : S[t.toNat]? = some s) :
    ∃ a, bs[t.toNat]? = some a ∧ w.heap[a]? = some (.cells (cellsOf s) 51 (0, 0)) ∧ (Instr.lookup 23 (.map (some m)) (.int .i64 t) false).run Try.prog w = .ok (.pointer (some ⟨a, 0, none⟩)) w := by
  have hl : t.toNat < bs.length := by rw [h.len]; exact (List.getElem?_eq_some_iff.1 ht).1
  have hb : bs[t.toNat]? = some bs[t.toNat] := List.getElem?_eq_getElem hl
  refine ⟨_, hb, h.accs _ _ _ hb ht, ?_⟩
  rw [h.look t, if_pos h0, hb]
  rfl
set_option maxHeartbeats 400000 in
theorem fits_none {p m : Nat} {bs : List Nat} {S : List Acct} (t n : Int) {w : World} (h : BookAt w p m bs S) (ht : t < 0 ∨ S[t.toNat]? = none) :
    Calls Try.prog 11 #[.pointer (some ⟨p, 0, none⟩), .int .i64 t, .int .i64 n] w fun e w' => e = .returned (.bool false) ∧ Quiet w w' := by
  have e0 : look S t = ⟨0, 0, 0⟩ := by
    unfold look
    rcases ht with h1 | h1
    · rw [if_pos h1]
    · rw [h1]; split <;> rfl
  have H := of_any t h
  rw [e0] at H
  replace H := Lib.hid H
  have HT := Lib.hid ht; clear ht e0
  go_enter Try.func11, Try.ntmps11
  go_wp2_with (go_at_call 24; refine H.out.mono ?_; rintro e w' ⟨rfl, ho⟩; have h' := h.quiet ho; have hp' : w'.cell? ⟨p, 0, none⟩ = some (.map (some m)) := blk_cell h'.ptr 0; have hps' := lt_of_heap h'.ptr; have hlk := fun o => (h'.alloc o).look_none HT.out)
  go_ret
  exact ⟨rfl, ho.alloc _⟩
theorem BookAt.look_all {w : World} {p m : Nat} {bs : List Nat} {S : List Acct} (h : BookAt w p m bs S) {t : Int} {s : Acct} (h0 : 0 ≤ t) (ht : S[t.toNat]? = some s) :
    ∃ a, ∀ o, (Instr.lookup 23 (.map (some m)) (.int .i64 t) false).run Try.prog (w.alloc o) = .ok (.pointer (some ⟨a, 0, none⟩)) (w.alloc o) := by
  obtain ⟨a, ha, _, _⟩ := h.look_some h0 ht
  refine ⟨a, fun o => ?_⟩
  obtain ⟨a', ha', _, hr⟩ := (h.alloc o).look_some h0 ht
  rw [ha] at ha'
  rw [hr, Option.some.inj ha']
def fitsB (s : Acct) (n : Int) : Bool := decide (0 ≤ n ∧ n ≤ s.lim - s.inn)
theorem ret_bool {a b : Bool} (h : a = b) : Ending.returned (.bool a) = .returned (.bool b) := by rw [h]
set_option maxHeartbeats 1000000 in
theorem fits_in {p m : Nat} {bs : List Nat} {S : List Acct} (t n : Int) {w : World} (h : BookAt w p m bs S) {s : Acct} (ht0 : 0 ≤ t) (ht : S[t.toNat]? = some s) :
    Calls Try.prog 11 #[.pointer (some ⟨p, 0, none⟩), .int .i64 t, .int .i64 n] w fun e w' => e = .returned (.bool (fitsB s n)) ∧ Quiet w w' := by
  have e0 : look S t = s := by unfold look; rw [if_neg (by omega), ht]; rfl
  obtain ⟨f1, f2, f3, f4, f5⟩ := h.fine _ (List.mem_of_getElem? ht)
  have H := of_any t h
  rw [e0] at H
  have HT := Lib.hid ht; clear ht e0
  obtain ⟨lim, inn, pin⟩ := s
  simp only [] at f1 f2 f3 f4 f5 H
  replace H := Lib.hid H
  have hz : (lim = 0 ∧ inn = 0 ∧ pin = 0) ∨ (0 < lim) ∨ (lim = 0 ∧ inn = 0 ∧ 0 < pin) := by omega
  rcases hz with ⟨rfl, rfl, rfl⟩ | hz | ⟨rfl, rfl, hz⟩
  all_goals
    by_cases hn : 0 ≤ n
    · first | (by_cases hn2 : n ≤ lim - inn) | (by_cases hn2 : n ≤ 0)
      · go_enter Try.func11, Try.ntmps11
        go_wp2_with (go_at_call 24; refine H.out.mono ?_; rintro e w' ⟨rfl, ho⟩; have h' := h.quiet ho; have hp' : w'.cell? ⟨p, 0, none⟩ = some (.map (some m)) := blk_cell h'.ptr 0; have hps' := lt_of_heap h'.ptr; obtain ⟨a, hlk2⟩ := h'.look_all ht0 HT.out)
        go_ret
        exact ⟨ret_bool (by simp [fitsB]; omega), ho.alloc _⟩
      · go_enter Try.func11, Try.ntmps11
        go_wp2_with (go_at_call 24; refine H.out.mono ?_; rintro e w' ⟨rfl, ho⟩; have h' := h.quiet ho; have hp' : w'.cell? ⟨p, 0, none⟩ = some (.map (some m)) := blk_cell h'.ptr 0; have hps' := lt_of_heap h'.ptr; obtain ⟨a, hlk2⟩ := h'.look_all ht0 HT.out)
        go_ret
        exact ⟨ret_bool (by simp [fitsB]; omega), ho.alloc _⟩
    · go_enter Try.func11, Try.ntmps11
      go_wp2_with (go_at_call 24; refine H.out.mono ?_; rintro e w' ⟨rfl, ho⟩; have h' := h.quiet ho; have hp' : w'.cell? ⟨p, 0, none⟩ = some (.map (some m)) := blk_cell h'.ptr 0; have hps' := lt_of_heap h'.ptr; obtain ⟨a, hlk2⟩ := h'.look_all ht0 HT.out)
      go_ret
      exact ⟨ret_bool (by simp [fitsB]; omega), ho.alloc _⟩
end Go.Proofs.Ytnkiibdmpldkmaa
