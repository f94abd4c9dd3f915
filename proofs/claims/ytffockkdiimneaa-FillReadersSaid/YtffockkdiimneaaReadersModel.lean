/-
  What the calls of FillReaders answer, on the plain list. No program here. No conditions.
-/
import Derived.Test.YtffockkdiimneaaModel
namespace Go.Proofs.Ytffockkdiimneaa
set_option linter.unusedVariables false
set_option linter.unusedSimpArgs false

def lx : ByteArray := ⟨#[120]⟩
def rd (b : List UInt8) (s k : Nat) : Desk := ⟨[(1, ⟨lx, b, s, k⟩)], 1⟩
def rgone : Desk := ⟨[], 1⟩
theorem lx_size : ¬ 1024 < lx.size := by decide
theorem r_begin0 : beginF newDesk lx = (1, true, 0, rd [] 0 1) := by
  unfold beginF
  rw [if_neg lx_size]
  simp [newDesk, findN, rd]
theorem r_begin (b : List UInt8) (k : Nat) : beginF (rd b 0 k) lx = (1, false, 0, rd b 0 (k + 1)) := by
  unfold beginF
  rw [if_neg lx_size]
  simp [rd, findN, upd]
theorem r_find (b : List UInt8) (s k : Nat) : findJ 1 (rd b s k).js = some 0 := by simp [rd, findJ]
theorem r_append (b l : List UInt8) (k : Nat) (h : b.length + l.length ≤ 1048576) : appendF (rd b 0 k) 1 l = (0, rd (b ++ l) 0 k) := by
  unfold appendF
  rw [r_find]
  simp only [rd, List.getElem?_cons_zero]
  rw [if_neg (by simp), if_neg (by omega)]
  simp [upd]
theorem r_append_shut (b l : List UInt8) (s k : Nat) (hs : s ≠ 0) : appendF (rd b s k) 1 l = (16, rd b s k) := by
  unfold appendF
  rw [r_find]
  simp only [rd, List.getElem?_cons_zero]
  rw [if_pos hs]
theorem r_end (b : List UInt8) (k : Nat) (whole : Bool) : endF (rd b 0 (k + 1)) 1 whole = (0, rd b (if whole then 1 else 2) (k + 1)) := by
  cases whole <;> simp [endF, rd, findJ, upd, tidy]
theorem r_leave (b : List UInt8) (s k : Nat) : leaveF (rd b s (k + 1 + 1)) 1 = (0, rd b s (k + 1)) := by simp [leaveF, rd, findJ, upd, tidy]
theorem r_leave_last (b : List UInt8) (s : Nat) (hs : s ≠ 0) : leaveF (rd b s 1) 1 = (0, rgone) := by simp [leaveF, rd, findJ, upd, tidy, hs, rgone]
theorem r_read (b : List UInt8) (s k g : Nat) (n : Nat) (hg : g ≤ b.length) : readF (rd b s k) 1 (g : Int) (n : Int) = ((b.drop g).take n, (s : Int), 0) := by
  unfold readF
  rw [r_find]
  simp only [rd, List.getElem?_cons_zero]
  rw [if_neg (by omega), Int.toNat_natCast, Int.toNat_natCast]
theorem r_read_none : readF rgone 1 0 0 = ([], 0, 12) := by simp [readF, rgone, findJ]
theorem r_running : runningF rgone = 0 := by simp [runningF, rgone, runs]
/-- A reader has a beginning of what was put behind. -/
def Begins (b g : List UInt8) : Prop := g = b.take g.length
theorem Begins.nil (b : List UInt8) : Begins b [] := by simp [Begins]
theorem Begins.le {b g : List UInt8} (h : Begins b g) : g.length ≤ b.length := by
  have := congrArg List.length h
  rw [List.length_take] at this
  omega
theorem Begins.more {b g : List UInt8} (h : Begins b g) (l : List UInt8) : Begins (b ++ l) g := by
  unfold Begins
  rw [List.take_append_of_le_length h.le]
  exact h
theorem Begins.read {b g : List UInt8} (h : Begins b g) (n : Nat) : Begins b (g ++ (b.drop g.length).take n) := by
  have hg := h.le
  unfold Begins
  conv => lhs; rw [h]
  have hl : (b.take g.length).length = g.length := by rw [List.length_take]; omega
  rw [hl, ← List.take_add, List.length_append, List.length_take, List.length_drop]
  rcases Nat.le_total n (b.length - g.length) with q | q
  · rw [Nat.min_eq_left q]
  · rw [Nat.min_eq_right q, List.take_of_length_le (by omega), List.take_of_length_le (by omega)]
theorem Begins.all {b g : List UInt8} (h : Begins b g) : g ++ (b.drop g.length).take (b.length + 1) = b := by
  rw [List.take_of_length_le (by rw [List.length_drop]; omega)]
  conv => lhs; lhs; rw [h]
  exact List.take_append_drop _ _
/-- The desk behind k readers that left. -/
def rk (b : List UInt8) (s k : Nat) : Desk := if k < 3 then rd b s (3 - k) else rgone
theorem rk_leave (b : List UInt8) (s k : Nat) (hs : s ≠ 0) (hk : k < 3) : leaveF (rk b s k) 1 = (0, rk b s (k + 1)) := by
  rcases (show k = 0 ∨ k = 1 ∨ k = 2 by omega) with rfl | rfl | rfl
  · exact r_leave b s 1
  · exact r_leave b s 0
  · exact r_leave_last b s hs
theorem rk_part (b : List UInt8) (s k : Nat) : ∀ e ∈ (rk b s k).js, e.2.part < 4611686018427387904 := by
  intro e he
  unfold rk at he
  split at he
  · simp [rd] at he
    subst he
    show 3 - k < 4611686018427387904
    omega
  · simp [rgone] at he
theorem rk_read (b : List UInt8) (s k : Nat) (hk : k < 3) : readF (rk b s k) 1 0 0 = ([], (s : Int), 0) := by
  unfold rk
  rw [if_pos hk]
  have := r_read b s (3 - k) 0 0 (Nat.zero_le _)
  simpa using this
end Go.Proofs.Ytffockkdiimneaa
