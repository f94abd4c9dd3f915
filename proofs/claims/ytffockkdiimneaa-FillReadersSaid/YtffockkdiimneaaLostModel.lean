/-
  What the calls of FillLost answer, on the plain list. No program here. No conditions.
-/
import Derived.Test.YtffockkdiimneaaModel
namespace Go.Proofs.Ytffockkdiimneaa
set_option linter.unusedVariables false
set_option linter.unusedSimpArgs false

def la : ByteArray := ⟨#[97]⟩
def lost1 (b : List UInt8) (s k : Nat) : Desk := ⟨[(1, ⟨la, b, s, k⟩)], 1⟩
def lost2 (b : List UInt8) (k : Nat) : Desk := ⟨[(1, ⟨la, b, 2, k⟩), (2, ⟨la, [], 0, 1⟩)], 2⟩
theorem la_size : ¬ 1024 < la.size := by decide
theorem l_begin0 : beginF newDesk la = (1, true, 0, lost1 [] 0 1) := by
  unfold beginF
  rw [if_neg la_size]
  simp [newDesk, findN, lost1]
theorem l_append (b : List UInt8) (hb : b.length ≤ 1000) : appendF (lost1 [] 0 1) 1 b = (0, lost1 b 0 1) := by
  have h1 : findJ 1 (lost1 [] 0 1).js = some 0 := by simp [lost1, findJ]
  unfold appendF
  rw [h1]
  simp only [lost1, List.getElem?_cons_zero]
  rw [if_neg (by simp), if_neg (by simp; omega)]
  simp [upd]
theorem l_begin (b : List UInt8) (k : Nat) : beginF (lost1 b 0 k) la = (1, false, 0, lost1 b 0 (k + 1)) := by
  unfold beginF
  rw [if_neg la_size]
  simp [lost1, findN, upd]
theorem l_part (b : List UInt8) (k : Nat) : partF (lost1 b 0 k) 1 = k := by simp [partF, lost1, findJ]
theorem l_end (b : List UInt8) (k : Nat) : endF (lost1 b 0 (k + 1)) 1 false = (0, lost1 b 2 (k + 1)) := by simp [endF, lost1, findJ, upd, tidy]
theorem l_ended (b : List UInt8) (k : Nat) : endF (lost1 b 2 (k + 1)) 1 true = (16, lost1 b 2 (k + 1)) := by simp [endF, lost1, findJ, upd, tidy]
theorem l_begin2 (b : List UInt8) (k : Nat) : beginF (lost1 b 2 k) la = (2, true, 0, lost2 b k) := by
  unfold beginF
  rw [if_neg la_size]
  simp [lost1, findN, lost2]
theorem l_read2 (b : List UInt8) (k : Nat) : readF (lost2 b k) 2 0 10 = ([], 0, 0) := by simp [readF, lost2, findJ]
theorem l_read1 (b : List UInt8) (k : Nat) : readF (lost2 b k) 1 0 b.length = (b, 2, 0) := by
  have h1 : findJ 1 (lost2 b k).js = some 0 := by simp [lost2, findJ]
  unfold readF
  rw [h1]
  simp [lost2]
end Go.Proofs.Ytffockkdiimneaa
