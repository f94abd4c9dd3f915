/-
  What the program's Charge, Part, Refund and Unpin do to a book that lies in memory: for every tenant and every number of bytes. No conditions.
-/
import Derived.Test.YtnkiibdmpldkmaaWords
import Derived.Deep.QuietTactic
import Derived.BigQuiet
import Derived.Lib.Hide
namespace Go.Proofs.Ytnkiibdmpldkmaa
open Go.RowKit

set_option maxHeartbeats 400000 in
theorem charge_in (p m a : Nat) (t n : Int) (s : Acct) (w : World)
    (hp : w.cell? ⟨p, 0, none⟩ = some (.map (some m))) (hps : p < w.heap.size) (has : a < w.heap.size)
    (hl : ∀ o, (Instr.lookup 23 (.map (some m)) (.int .i64 t) false).run Try.prog (w.alloc o) = .ok (.pointer (some ⟨a, 0, none⟩)) (w.alloc o))
    (hb : w.heap[a]? = some (.cells (cellsOf s) 51 (0, 0))) (hn : 0 ≤ n) (hf : Fine s) :
    Calls Try.prog 7 #[.pointer (some ⟨p, 0, none⟩), .int .i64 t, .int .i64 n] w fun e w' => e = .returned (.int .i64 (one 0 s n).1) ∧ w'.heap[a]? = some (.cells (cellsOf (one 0 s n).2) 51 (0, 0)) ∧ Only (· = a) w w' := by
  obtain ⟨lim, inn, pin⟩ := s
  obtain ⟨f1, f2, f3, f4, f5⟩ := hf
  simp only [] at f1 f2 f3 f4 f5
  have h0 : w.cell? ⟨a, 0, none⟩ = some (.int .i64 lim) := blk_cell hb 0
  have h1 : w.cell? ⟨a, 1, none⟩ = some (.int .i64 inn) := blk_cell hb 1
  have h2 : w.cell? ⟨a, 2, none⟩ = some (.int .i64 pin) := blk_cell hb 2
  have g1 : w.frozen? ⟨a, 1, none⟩ = false := blk_frozen hb 1
  have g2 : w.frozen? ⟨a, 2, none⟩ = false := blk_frozen hb 2
  have HB := Lib.hid hb; clear hb
  by_cases hc0 : lim - inn < n
  · have E : Hid (one 0 ⟨lim, inn, pin⟩ n = (18, ⟨lim, inn, pin⟩)) := by simp [Hid, one, hc0]
    go_enter Try.func7, Try.ntmps7
    go_wp2
    go_quiet (fail)
    go_wp2
    go_ret
    rw [E.out]
    exact ⟨rfl, (blk_alloc HB.out _), (by repeat (first | exact Only.refl _ _ | refine Only.drewN ?_ _ | refine Only.drew ?_ | refine Only.alloc ?_ _ | refine Only.setCell ?_ (fun _ => by first | rfl | simp) _))⟩
  · have E : Hid (one 0 ⟨lim, inn, pin⟩ n = (0, ⟨lim, inn + n, pin⟩)) := by simp [Hid, one, hc0]
    go_enter Try.func7, Try.ntmps7
    go_wp2
    go_quiet (fail)
    go_wp2
    go_region
    go_wp2
    go_ret
    rw [E.out]
    exact ⟨rfl, (blk_set (blk_alloc HB.out _) 1 _), (by repeat (first | exact Only.refl _ _ | refine Only.drewN ?_ _ | refine Only.drew ?_ | refine Only.alloc ?_ _ | refine Only.setCell ?_ (fun _ => by first | rfl | simp) _))⟩

set_option maxHeartbeats 400000 in
theorem charge_none (p m : Nat) (t n : Int) (w : World)
    (hp : w.cell? ⟨p, 0, none⟩ = some (.map (some m))) (hps : p < w.heap.size)
    (hl : ∀ o, (Instr.lookup 23 (.map (some m)) (.int .i64 t) false).run Try.prog (w.alloc o) = .ok (.pointer none) (w.alloc o)) :
    Calls Try.prog 7 #[.pointer (some ⟨p, 0, none⟩), .int .i64 t, .int .i64 n] w fun e w' => e = .returned (.int .i64 2) ∧ Only (fun _ => False) w w' := by
  go_enter Try.func7, Try.ntmps7
  go_wp2
  go_ret
  exact ⟨rfl, (Only.refl _ _).alloc _⟩
set_option maxHeartbeats 400000 in
theorem charge_neg (p m a : Nat) (t n : Int) (w : World)
    (hp : w.cell? ⟨p, 0, none⟩ = some (.map (some m))) (hps : p < w.heap.size)
    (hl : ∀ o, (Instr.lookup 23 (.map (some m)) (.int .i64 t) false).run Try.prog (w.alloc o) = .ok (.pointer (some ⟨a, 0, none⟩)) (w.alloc o)) (hn : n < 0) :
    Calls Try.prog 7 #[.pointer (some ⟨p, 0, none⟩), .int .i64 t, .int .i64 n] w fun e w' => e = .returned (.int .i64 2) ∧ Only (fun _ => False) w w' := by
  go_enter Try.func7, Try.ntmps7
  go_wp2
  go_ret
  exact ⟨rfl, (Only.refl _ _).alloc _⟩
/-- The call, on a book in memory. -/
theorem charge_any {p m : Nat} {bs : List Nat} {S : List Acct} (t n : Int) {w : World} (h : BookAt w p m bs S) :
    Calls Try.prog 7 #[.pointer (some ⟨p, 0, none⟩), .int .i64 t, .int .i64 n] w fun e w' => e = .returned (.int .i64 (act 0 S t n).1) ∧ BookAt w' p m bs (act 0 S t n).2 ∧ Only (· ∈ bs) w w' := by
  have hp : w.cell? ⟨p, 0, none⟩ = some (.map (some m)) := blk_cell h.ptr 0
  have hps := lt_of_heap h.ptr
  have hlk := fun o => (h.alloc o).look t
  by_cases ht : (0 : Int) ≤ t
  · rw [if_pos ht] at hlk
    cases hb : bs[t.toNat]? with
    | none =>
      rw [hb] at hlk
      have hS : S[t.toNat]? = none := by rw [List.getElem?_eq_none_iff] at hb ⊢; rw [← h.len]; exact hb
      have E : act 0 S t n = (2, S) := by unfold act; split; rfl; rw [hS]
      refine (charge_none p m t n w hp hps hlk).mono fun e w' ⟨he, ho⟩ => ?_
      rw [E]
      exact ⟨he, h.only ho (fun x => x) (fun x => x) (fun _ _ x => x), ho.mono (fun _ _ x => x.elim)⟩
    | some a =>
      rw [hb] at hlk
      have hl : t.toNat < S.length := by rw [← h.len]; exact (List.getElem?_eq_some_iff.1 hb).1
      have hS : S[t.toNat]? = some S[t.toNat] := List.getElem?_eq_getElem hl
      have hacc := h.accs _ a _ hb hS
      by_cases hn : n < 0
      · have E : act 0 S t n = (2, S) := by unfold act; rw [if_pos (Or.inr hn)]
        refine (charge_neg p m a t n w hp hps hlk hn).mono fun e w' ⟨he, ho⟩ => ?_
        rw [E]
        exact ⟨he, h.only ho (fun x => x) (fun x => x) (fun _ _ x => x), ho.mono (fun _ _ x => x.elim)⟩
      · have hfi := h.fine _ (List.getElem_mem hl)
        have E : act 0 S t n = ((one 0 S[t.toNat] n).1, S.set t.toNat (one 0 S[t.toNat] n).2) := by unfold act; rw [if_neg (by omega), hS]
        refine (charge_in p m a t n S[t.toNat] w hp hps (lt_of_heap hacc) hlk hacc (by omega) hfi).mono fun e w' ⟨he, ha, ho⟩ => ?_
        rw [E]
        exact ⟨he, h.turn hb ho ha (one_fine hfi (by omega)), ho.mono (fun k _ x => by rw [x]; exact List.mem_of_getElem? hb)⟩
  · rw [if_neg ht] at hlk
    have E : act 0 S t n = (2, S) := by unfold act; rw [if_pos (Or.inl (by omega))]
    refine (charge_none p m t n w hp hps hlk).mono fun e w' ⟨he, ho⟩ => ?_
    rw [E]
    exact ⟨he, h.only ho (fun x => x) (fun x => x) (fun _ _ x => x), ho.mono (fun _ _ x => x.elim)⟩

set_option maxHeartbeats 400000 in
theorem part_in (p m a : Nat) (t n : Int) (s : Acct) (w : World)
    (hp : w.cell? ⟨p, 0, none⟩ = some (.map (some m))) (hps : p < w.heap.size) (has : a < w.heap.size)
    (hl : ∀ o, (Instr.lookup 23 (.map (some m)) (.int .i64 t) false).run Try.prog (w.alloc o) = .ok (.pointer (some ⟨a, 0, none⟩)) (w.alloc o))
    (hb : w.heap[a]? = some (.cells (cellsOf s) 51 (0, 0))) (hn : 0 ≤ n) (hf : Fine s) :
    Calls Try.prog 8 #[.pointer (some ⟨p, 0, none⟩), .int .i64 t, .int .i64 n] w fun e w' => e = .returned (.int .i64 (one 1 s n).1) ∧ w'.heap[a]? = some (.cells (cellsOf (one 1 s n).2) 51 (0, 0)) ∧ Only (· = a) w w' := by
  obtain ⟨lim, inn, pin⟩ := s
  obtain ⟨f1, f2, f3, f4, f5⟩ := hf
  simp only [] at f1 f2 f3 f4 f5
  have h0 : w.cell? ⟨a, 0, none⟩ = some (.int .i64 lim) := blk_cell hb 0
  have h1 : w.cell? ⟨a, 1, none⟩ = some (.int .i64 inn) := blk_cell hb 1
  have h2 : w.cell? ⟨a, 2, none⟩ = some (.int .i64 pin) := blk_cell hb 2
  have g1 : w.frozen? ⟨a, 1, none⟩ = false := blk_frozen hb 1
  have g2 : w.frozen? ⟨a, 2, none⟩ = false := blk_frozen hb 2
  have HB := Lib.hid hb; clear hb
  by_cases hc0 : inn < n
  · have E : Hid (one 1 ⟨lim, inn, pin⟩ n = (12, ⟨lim, inn, pin⟩)) := by simp [Hid, one, hc0]
    go_enter Try.func8, Try.ntmps8
    go_wp2
    go_quiet (fail)
    go_wp2
    go_ret
    rw [E.out]
    exact ⟨rfl, (blk_alloc HB.out _), (by repeat (first | exact Only.refl _ _ | refine Only.drewN ?_ _ | refine Only.drew ?_ | refine Only.alloc ?_ _ | refine Only.setCell ?_ (fun _ => by first | rfl | simp) _))⟩
  · by_cases hc1 : 1125899906842624 - pin < n
    · have E : Hid (one 1 ⟨lim, inn, pin⟩ n = (3, ⟨lim, inn, pin⟩)) := by simp [Hid, one, hc0, hc1]
      go_enter Try.func8, Try.ntmps8
      go_wp2
      go_quiet (fail)
      go_wp2
      go_quiet (fail)
      go_wp2
      go_ret
      rw [E.out]
      exact ⟨rfl, (blk_alloc HB.out _), (by repeat (first | exact Only.refl _ _ | refine Only.drewN ?_ _ | refine Only.drew ?_ | refine Only.alloc ?_ _ | refine Only.setCell ?_ (fun _ => by first | rfl | simp) _))⟩
    · have E : Hid (one 1 ⟨lim, inn, pin⟩ n = (0, ⟨lim, inn - n, pin + n⟩)) := by simp [Hid, one, hc0, hc1]
      go_enter Try.func8, Try.ntmps8
      go_wp2
      go_quiet (fail)
      go_wp2
      go_quiet (fail)
      go_wp2
      go_region
      go_wp2
      go_region
      go_wp2
      go_ret
      rw [E.out]
      exact ⟨rfl, (blk_set (blk_set (blk_alloc HB.out _) 1 _) 2 _), (by repeat (first | exact Only.refl _ _ | refine Only.drewN ?_ _ | refine Only.drew ?_ | refine Only.alloc ?_ _ | refine Only.setCell ?_ (fun _ => by first | rfl | simp) _))⟩

set_option maxHeartbeats 400000 in
theorem part_none (p m : Nat) (t n : Int) (w : World)
    (hp : w.cell? ⟨p, 0, none⟩ = some (.map (some m))) (hps : p < w.heap.size)
    (hl : ∀ o, (Instr.lookup 23 (.map (some m)) (.int .i64 t) false).run Try.prog (w.alloc o) = .ok (.pointer none) (w.alloc o)) :
    Calls Try.prog 8 #[.pointer (some ⟨p, 0, none⟩), .int .i64 t, .int .i64 n] w fun e w' => e = .returned (.int .i64 2) ∧ Only (fun _ => False) w w' := by
  go_enter Try.func8, Try.ntmps8
  go_wp2
  go_ret
  exact ⟨rfl, (Only.refl _ _).alloc _⟩
set_option maxHeartbeats 400000 in
theorem part_neg (p m a : Nat) (t n : Int) (w : World)
    (hp : w.cell? ⟨p, 0, none⟩ = some (.map (some m))) (hps : p < w.heap.size)
    (hl : ∀ o, (Instr.lookup 23 (.map (some m)) (.int .i64 t) false).run Try.prog (w.alloc o) = .ok (.pointer (some ⟨a, 0, none⟩)) (w.alloc o)) (hn : n < 0) :
    Calls Try.prog 8 #[.pointer (some ⟨p, 0, none⟩), .int .i64 t, .int .i64 n] w fun e w' => e = .returned (.int .i64 2) ∧ Only (fun _ => False) w w' := by
  go_enter Try.func8, Try.ntmps8
  go_wp2
  go_ret
  exact ⟨rfl, (Only.refl _ _).alloc _⟩
/-- The call, on a book in memory. -/
theorem part_any {p m : Nat} {bs : List Nat} {S : List Acct} (t n : Int) {w : World} (h : BookAt w p m bs S) :
    Calls Try.prog 8 #[.pointer (some ⟨p, 0, none⟩), .int .i64 t, .int .i64 n] w fun e w' => e = .returned (.int .i64 (act 1 S t n).1) ∧ BookAt w' p m bs (act 1 S t n).2 ∧ Only (· ∈ bs) w w' := by
  have hp : w.cell? ⟨p, 0, none⟩ = some (.map (some m)) := blk_cell h.ptr 0
  have hps := lt_of_heap h.ptr
  have hlk := fun o => (h.alloc o).look t
  by_cases ht : (0 : Int) ≤ t
  · rw [if_pos ht] at hlk
    cases hb : bs[t.toNat]? with
    | none =>
      rw [hb] at hlk
      have hS : S[t.toNat]? = none := by rw [List.getElem?_eq_none_iff] at hb ⊢; rw [← h.len]; exact hb
      have E : act 1 S t n = (2, S) := by unfold act; split; rfl; rw [hS]
      refine (part_none p m t n w hp hps hlk).mono fun e w' ⟨he, ho⟩ => ?_
      rw [E]
      exact ⟨he, h.only ho (fun x => x) (fun x => x) (fun _ _ x => x), ho.mono (fun _ _ x => x.elim)⟩
    | some a =>
      rw [hb] at hlk
      have hl : t.toNat < S.length := by rw [← h.len]; exact (List.getElem?_eq_some_iff.1 hb).1
      have hS : S[t.toNat]? = some S[t.toNat] := List.getElem?_eq_getElem hl
      have hacc := h.accs _ a _ hb hS
      by_cases hn : n < 0
      · have E : act 1 S t n = (2, S) := by unfold act; rw [if_pos (Or.inr hn)]
        refine (part_neg p m a t n w hp hps hlk hn).mono fun e w' ⟨he, ho⟩ => ?_
        rw [E]
        exact ⟨he, h.only ho (fun x => x) (fun x => x) (fun _ _ x => x), ho.mono (fun _ _ x => x.elim)⟩
      · have hfi := h.fine _ (List.getElem_mem hl)
        have E : act 1 S t n = ((one 1 S[t.toNat] n).1, S.set t.toNat (one 1 S[t.toNat] n).2) := by unfold act; rw [if_neg (by omega), hS]
        refine (part_in p m a t n S[t.toNat] w hp hps (lt_of_heap hacc) hlk hacc (by omega) hfi).mono fun e w' ⟨he, ha, ho⟩ => ?_
        rw [E]
        exact ⟨he, h.turn hb ho ha (one_fine hfi (by omega)), ho.mono (fun k _ x => by rw [x]; exact List.mem_of_getElem? hb)⟩
  · rw [if_neg ht] at hlk
    have E : act 1 S t n = (2, S) := by unfold act; rw [if_pos (Or.inl (by omega))]
    refine (part_none p m t n w hp hps hlk).mono fun e w' ⟨he, ho⟩ => ?_
    rw [E]
    exact ⟨he, h.only ho (fun x => x) (fun x => x) (fun _ _ x => x), ho.mono (fun _ _ x => x.elim)⟩

set_option maxHeartbeats 400000 in
theorem refund_in (p m a : Nat) (t n : Int) (s : Acct) (w : World)
    (hp : w.cell? ⟨p, 0, none⟩ = some (.map (some m))) (hps : p < w.heap.size) (has : a < w.heap.size)
    (hl : ∀ o, (Instr.lookup 23 (.map (some m)) (.int .i64 t) false).run Try.prog (w.alloc o) = .ok (.pointer (some ⟨a, 0, none⟩)) (w.alloc o))
    (hb : w.heap[a]? = some (.cells (cellsOf s) 51 (0, 0))) (hn : 0 ≤ n) (hf : Fine s) :
    Calls Try.prog 9 #[.pointer (some ⟨p, 0, none⟩), .int .i64 t, .int .i64 n] w fun e w' => e = .returned (.int .i64 (one 2 s n).1) ∧ w'.heap[a]? = some (.cells (cellsOf (one 2 s n).2) 51 (0, 0)) ∧ Only (· = a) w w' := by
  obtain ⟨lim, inn, pin⟩ := s
  obtain ⟨f1, f2, f3, f4, f5⟩ := hf
  simp only [] at f1 f2 f3 f4 f5
  have h0 : w.cell? ⟨a, 0, none⟩ = some (.int .i64 lim) := blk_cell hb 0
  have h1 : w.cell? ⟨a, 1, none⟩ = some (.int .i64 inn) := blk_cell hb 1
  have h2 : w.cell? ⟨a, 2, none⟩ = some (.int .i64 pin) := blk_cell hb 2
  have g1 : w.frozen? ⟨a, 1, none⟩ = false := blk_frozen hb 1
  have g2 : w.frozen? ⟨a, 2, none⟩ = false := blk_frozen hb 2
  have HB := Lib.hid hb; clear hb
  by_cases hc0 : inn < n
  · have E : Hid (one 2 ⟨lim, inn, pin⟩ n = (12, ⟨lim, inn, pin⟩)) := by simp [Hid, one, hc0]
    go_enter Try.func9, Try.ntmps9
    go_wp2
    go_quiet (fail)
    go_wp2
    go_ret
    rw [E.out]
    exact ⟨rfl, (blk_alloc HB.out _), (by repeat (first | exact Only.refl _ _ | refine Only.drewN ?_ _ | refine Only.drew ?_ | refine Only.alloc ?_ _ | refine Only.setCell ?_ (fun _ => by first | rfl | simp) _))⟩
  · have E : Hid (one 2 ⟨lim, inn, pin⟩ n = (0, ⟨lim, inn - n, pin⟩)) := by simp [Hid, one, hc0]
    go_enter Try.func9, Try.ntmps9
    go_wp2
    go_quiet (fail)
    go_wp2
    go_region
    go_wp2
    go_ret
    rw [E.out]
    exact ⟨rfl, (blk_set (blk_alloc HB.out _) 1 _), (by repeat (first | exact Only.refl _ _ | refine Only.drewN ?_ _ | refine Only.drew ?_ | refine Only.alloc ?_ _ | refine Only.setCell ?_ (fun _ => by first | rfl | simp) _))⟩

set_option maxHeartbeats 400000 in
theorem refund_none (p m : Nat) (t n : Int) (w : World)
    (hp : w.cell? ⟨p, 0, none⟩ = some (.map (some m))) (hps : p < w.heap.size)
    (hl : ∀ o, (Instr.lookup 23 (.map (some m)) (.int .i64 t) false).run Try.prog (w.alloc o) = .ok (.pointer none) (w.alloc o)) :
    Calls Try.prog 9 #[.pointer (some ⟨p, 0, none⟩), .int .i64 t, .int .i64 n] w fun e w' => e = .returned (.int .i64 2) ∧ Only (fun _ => False) w w' := by
  go_enter Try.func9, Try.ntmps9
  go_wp2
  go_ret
  exact ⟨rfl, (Only.refl _ _).alloc _⟩
set_option maxHeartbeats 400000 in
theorem refund_neg (p m a : Nat) (t n : Int) (w : World)
    (hp : w.cell? ⟨p, 0, none⟩ = some (.map (some m))) (hps : p < w.heap.size)
    (hl : ∀ o, (Instr.lookup 23 (.map (some m)) (.int .i64 t) false).run Try.prog (w.alloc o) = .ok (.pointer (some ⟨a, 0, none⟩)) (w.alloc o)) (hn : n < 0) :
    Calls Try.prog 9 #[.pointer (some ⟨p, 0, none⟩), .int .i64 t, .int .i64 n] w fun e w' => e = .returned (.int .i64 2) ∧ Only (fun _ => False) w w' := by
  go_enter Try.func9, Try.ntmps9
  go_wp2
  go_ret
  exact ⟨rfl, (Only.refl _ _).alloc _⟩
/-- The call, on a book in memory. -/
theorem refund_any {p m : Nat} {bs : List Nat} {S : List Acct} (t n : Int) {w : World} (h : BookAt w p m bs S) :
    Calls Try.prog 9 #[.pointer (some ⟨p, 0, none⟩), .int .i64 t, .int .i64 n] w fun e w' => e = .returned (.int .i64 (act 2 S t n).1) ∧ BookAt w' p m bs (act 2 S t n).2 ∧ Only (· ∈ bs) w w' := by
  have hp : w.cell? ⟨p, 0, none⟩ = some (.map (some m)) := blk_cell h.ptr 0
  have hps := lt_of_heap h.ptr
  have hlk := fun o => (h.alloc o).look t
  by_cases ht : (0 : Int) ≤ t
  · rw [if_pos ht] at hlk
    cases hb : bs[t.toNat]? with
    | none =>
      rw [hb] at hlk
      have hS : S[t.toNat]? = none := by rw [List.getElem?_eq_none_iff] at hb ⊢; rw [← h.len]; exact hb
      have E : act 2 S t n = (2, S) := by unfold act; split; rfl; rw [hS]
      refine (refund_none p m t n w hp hps hlk).mono fun e w' ⟨he, ho⟩ => ?_
      rw [E]
      exact ⟨he, h.only ho (fun x => x) (fun x => x) (fun _ _ x => x), ho.mono (fun _ _ x => x.elim)⟩
    | some a =>
      rw [hb] at hlk
      have hl : t.toNat < S.length := by rw [← h.len]; exact (List.getElem?_eq_some_iff.1 hb).1
      have hS : S[t.toNat]? = some S[t.toNat] := List.getElem?_eq_getElem hl
      have hacc := h.accs _ a _ hb hS
      by_cases hn : n < 0
      · have E : act 2 S t n = (2, S) := by unfold act; rw [if_pos (Or.inr hn)]
        refine (refund_neg p m a t n w hp hps hlk hn).mono fun e w' ⟨he, ho⟩ => ?_
        rw [E]
        exact ⟨he, h.only ho (fun x => x) (fun x => x) (fun _ _ x => x), ho.mono (fun _ _ x => x.elim)⟩
      · have hfi := h.fine _ (List.getElem_mem hl)
        have E : act 2 S t n = ((one 2 S[t.toNat] n).1, S.set t.toNat (one 2 S[t.toNat] n).2) := by unfold act; rw [if_neg (by omega), hS]
        refine (refund_in p m a t n S[t.toNat] w hp hps (lt_of_heap hacc) hlk hacc (by omega) hfi).mono fun e w' ⟨he, ha, ho⟩ => ?_
        rw [E]
        exact ⟨he, h.turn hb ho ha (one_fine hfi (by omega)), ho.mono (fun k _ x => by rw [x]; exact List.mem_of_getElem? hb)⟩
  · rw [if_neg ht] at hlk
    have E : act 2 S t n = (2, S) := by unfold act; rw [if_pos (Or.inl (by omega))]
    refine (refund_none p m t n w hp hps hlk).mono fun e w' ⟨he, ho⟩ => ?_
    rw [E]
    exact ⟨he, h.only ho (fun x => x) (fun x => x) (fun _ _ x => x), ho.mono (fun _ _ x => x.elim)⟩

set_option maxHeartbeats 400000 in
theorem unpin_in (p m a : Nat) (t n : Int) (s : Acct) (w : World)
    (hp : w.cell? ⟨p, 0, none⟩ = some (.map (some m))) (hps : p < w.heap.size) (has : a < w.heap.size)
    (hl : ∀ o, (Instr.lookup 23 (.map (some m)) (.int .i64 t) false).run Try.prog (w.alloc o) = .ok (.pointer (some ⟨a, 0, none⟩)) (w.alloc o))
    (hb : w.heap[a]? = some (.cells (cellsOf s) 51 (0, 0))) (hn : 0 ≤ n) (hf : Fine s) :
    Calls Try.prog 10 #[.pointer (some ⟨p, 0, none⟩), .int .i64 t, .int .i64 n] w fun e w' => e = .returned (.int .i64 (one 3 s n).1) ∧ w'.heap[a]? = some (.cells (cellsOf (one 3 s n).2) 51 (0, 0)) ∧ Only (· = a) w w' := by
  obtain ⟨lim, inn, pin⟩ := s
  obtain ⟨f1, f2, f3, f4, f5⟩ := hf
  simp only [] at f1 f2 f3 f4 f5
  have h0 : w.cell? ⟨a, 0, none⟩ = some (.int .i64 lim) := blk_cell hb 0
  have h1 : w.cell? ⟨a, 1, none⟩ = some (.int .i64 inn) := blk_cell hb 1
  have h2 : w.cell? ⟨a, 2, none⟩ = some (.int .i64 pin) := blk_cell hb 2
  have g1 : w.frozen? ⟨a, 1, none⟩ = false := blk_frozen hb 1
  have g2 : w.frozen? ⟨a, 2, none⟩ = false := blk_frozen hb 2
  have HB := Lib.hid hb; clear hb
  by_cases hc0 : pin < n
  · have E : Hid (one 3 ⟨lim, inn, pin⟩ n = (12, ⟨lim, inn, pin⟩)) := by simp [Hid, one, hc0]
    go_enter Try.func10, Try.ntmps10
    go_wp2
    go_quiet (fail)
    go_wp2
    go_ret
    rw [E.out]
    exact ⟨rfl, (blk_alloc HB.out _), (by repeat (first | exact Only.refl _ _ | refine Only.drewN ?_ _ | refine Only.drew ?_ | refine Only.alloc ?_ _ | refine Only.setCell ?_ (fun _ => by first | rfl | simp) _))⟩
  · have E : Hid (one 3 ⟨lim, inn, pin⟩ n = (0, ⟨lim, inn, pin - n⟩)) := by simp [Hid, one, hc0]
    go_enter Try.func10, Try.ntmps10
    go_wp2
    go_quiet (fail)
    go_wp2
    go_region
    go_wp2
    go_ret
    rw [E.out]
    exact ⟨rfl, (blk_set (blk_alloc HB.out _) 2 _), (by repeat (first | exact Only.refl _ _ | refine Only.drewN ?_ _ | refine Only.drew ?_ | refine Only.alloc ?_ _ | refine Only.setCell ?_ (fun _ => by first | rfl | simp) _))⟩

set_option maxHeartbeats 400000 in
theorem unpin_none (p m : Nat) (t n : Int) (w : World)
    (hp : w.cell? ⟨p, 0, none⟩ = some (.map (some m))) (hps : p < w.heap.size)
    (hl : ∀ o, (Instr.lookup 23 (.map (some m)) (.int .i64 t) false).run Try.prog (w.alloc o) = .ok (.pointer none) (w.alloc o)) :
    Calls Try.prog 10 #[.pointer (some ⟨p, 0, none⟩), .int .i64 t, .int .i64 n] w fun e w' => e = .returned (.int .i64 2) ∧ Only (fun _ => False) w w' := by
  go_enter Try.func10, Try.ntmps10
  go_wp2
  go_ret
  exact ⟨rfl, (Only.refl _ _).alloc _⟩
set_option maxHeartbeats 400000 in
theorem unpin_neg (p m a : Nat) (t n : Int) (w : World)
    (hp : w.cell? ⟨p, 0, none⟩ = some (.map (some m))) (hps : p < w.heap.size)
    (hl : ∀ o, (Instr.lookup 23 (.map (some m)) (.int .i64 t) false).run Try.prog (w.alloc o) = .ok (.pointer (some ⟨a, 0, none⟩)) (w.alloc o)) (hn : n < 0) :
    Calls Try.prog 10 #[.pointer (some ⟨p, 0, none⟩), .int .i64 t, .int .i64 n] w fun e w' => e = .returned (.int .i64 2) ∧ Only (fun _ => False) w w' := by
  go_enter Try.func10, Try.ntmps10
  go_wp2
  go_ret
  exact ⟨rfl, (Only.refl _ _).alloc _⟩
/-- The call, on a book in memory. -/
theorem unpin_any {p m : Nat} {bs : List Nat} {S : List Acct} (t n : Int) {w : World} (h : BookAt w p m bs S) :
    Calls Try.prog 10 #[.pointer (some ⟨p, 0, none⟩), .int .i64 t, .int .i64 n] w fun e w' => e = .returned (.int .i64 (act 3 S t n).1) ∧ BookAt w' p m bs (act 3 S t n).2 ∧ Only (· ∈ bs) w w' := by
  have hp : w.cell? ⟨p, 0, none⟩ = some (.map (some m)) := blk_cell h.ptr 0
  have hps := lt_of_heap h.ptr
  have hlk := fun o => (h.alloc o).look t
  by_cases ht : (0 : Int) ≤ t
  · rw [if_pos ht] at hlk
    cases hb : bs[t.toNat]? with
    | none =>
      rw [hb] at hlk
      have hS : S[t.toNat]? = none := by rw [List.getElem?_eq_none_iff] at hb ⊢; rw [← h.len]; exact hb
      have E : act 3 S t n = (2, S) := by unfold act; split; rfl; rw [hS]
      refine (unpin_none p m t n w hp hps hlk).mono fun e w' ⟨he, ho⟩ => ?_
      rw [E]
      exact ⟨he, h.only ho (fun x => x) (fun x => x) (fun _ _ x => x), ho.mono (fun _ _ x => x.elim)⟩
    | some a =>
      rw [hb] at hlk
      have hl : t.toNat < S.length := by rw [← h.len]; exact (List.getElem?_eq_some_iff.1 hb).1
      have hS : S[t.toNat]? = some S[t.toNat] := List.getElem?_eq_getElem hl
      have hacc := h.accs _ a _ hb hS
      by_cases hn : n < 0
      · have E : act 3 S t n = (2, S) := by unfold act; rw [if_pos (Or.inr hn)]
        refine (unpin_neg p m a t n w hp hps hlk hn).mono fun e w' ⟨he, ho⟩ => ?_
        rw [E]
        exact ⟨he, h.only ho (fun x => x) (fun x => x) (fun _ _ x => x), ho.mono (fun _ _ x => x.elim)⟩
      · have hfi := h.fine _ (List.getElem_mem hl)
        have E : act 3 S t n = ((one 3 S[t.toNat] n).1, S.set t.toNat (one 3 S[t.toNat] n).2) := by unfold act; rw [if_neg (by omega), hS]
        refine (unpin_in p m a t n S[t.toNat] w hp hps (lt_of_heap hacc) hlk hacc (by omega) hfi).mono fun e w' ⟨he, ha, ho⟩ => ?_
        rw [E]
        exact ⟨he, h.turn hb ho ha (one_fine hfi (by omega)), ho.mono (fun k _ x => by rw [x]; exact List.mem_of_getElem? hb)⟩
  · rw [if_neg ht] at hlk
    have E : act 3 S t n = (2, S) := by unfold act; rw [if_pos (Or.inl (by omega))]
    refine (unpin_none p m t n w hp hps hlk).mono fun e w' ⟨he, ho⟩ => ?_
    rw [E]
    exact ⟨he, h.only ho (fun x => x) (fun x => x) (fun _ _ x => x), ho.mono (fun _ _ x => x.elim)⟩

end Go.Proofs.Ytnkiibdmpldkmaa
