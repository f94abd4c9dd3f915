/-
  The statements' own helper 'do': one call of a book, by its number. No conditions.
-/
import Derived.Test.YtnkiibdmpldkmaaCalls
import Derived.Test.YtnkiibdmpldkmaaGets
namespace Go.Proofs.Ytnkiibdmpldkmaa
open Go.RowKit

theorem one_else {K : Int} {s : Acct} {n : Int} (h0 : K ≠ 0) (h1 : K ≠ 1) (h2 : K ≠ 2) : one K s n = one 3 s n := by simp [one, h0, h1, h2]
theorem act_else {K : Int} {S : List Acct} {t n : Int} (h0 : K ≠ 0) (h1 : K ≠ 1) (h2 : K ≠ 2) : act K S t n = act 3 S t n := by
  unfold act
  split
  · rfl
  · split
    · rfl
    · rw [one_else h0 h1 h2]

theorem one_code (kind : Int) (s : Acct) (n : Int) : (one kind s n).1 = 0 ∨ ((one kind s n).1 ≠ 0 ∧ (one kind s n).2 = s) := by
  unfold one
  repeat' split
  all_goals simp
set_option maxHeartbeats 1000000 in
theorem do_any {p m : Nat} {bs : List Nat} {S : List Acct} (K t n : Int) {w : World} (h : BookAt w p m bs S) :
    Calls Try.prog 16 #[.pointer (some ⟨p, 0, none⟩), .agg #[.int .i64 K, .int .i64 t, .int .i64 n]] w fun e w' => e = .returned (.int .i64 (act K S t n).1) ∧ BookAt w' p m bs (act K S t n).2 ∧ Only (· ∈ bs) w w' := by
  have HB := Lib.hid (h.alloc (.cells #[.int .i64 K, .int .i64 t, .int .i64 n] 39)); clear h
  by_cases h0 : K = 0
  · subst h0
    go_enter Try.func16, Try.ntmps16
    go_wp2_with (go_at_call 7; refine (charge_any _ _ HB.out).mono ?_; rintro e w2 ⟨rfl, hb2, ho2⟩; have HB2 := Lib.hid hb2; clear hb2)
    go_ret
    exact ⟨rfl, HB2.out, ((Only.refl _ _).alloc _).trans ho2⟩
  · by_cases h1 : K = 1
    · subst h1
      go_enter Try.func16, Try.ntmps16
      go_wp2_with (go_at_call 8; refine (part_any _ _ HB.out).mono ?_; rintro e w2 ⟨rfl, hb2, ho2⟩; have HB2 := Lib.hid hb2; clear hb2)
      go_ret
      exact ⟨rfl, HB2.out, ((Only.refl _ _).alloc _).trans ho2⟩
    · by_cases h2 : K = 2
      · subst h2
        go_enter Try.func16, Try.ntmps16
        go_wp2_with (go_at_call 9; refine (refund_any _ _ HB.out).mono ?_; rintro e w2 ⟨rfl, hb2, ho2⟩; have HB2 := Lib.hid hb2; clear hb2)
        go_ret
        exact ⟨rfl, HB2.out, ((Only.refl _ _).alloc _).trans ho2⟩
      · have HE := Lib.hid (act_else (K := K) (S := S) (t := t) (n := n) h0 h1 h2)
        have e0 : (K == 0) = false := by simp [h0]
        have e1 : (K == 1) = false := by simp [h1]
        have e2 : (K == 2) = false := by simp [h2]
        clear h0 h1 h2
        go_enter Try.func16, Try.ntmps16
        go_wp2_with (go_at_call 10; refine (unpin_any _ _ HB.out).mono ?_; rintro e w2 ⟨rfl, hb2, ho2⟩; have HB2 := Lib.hid hb2; clear hb2)
        go_ret
        rw [HE.out]
        exact ⟨rfl, HB2.out, ((Only.refl _ _).alloc _).trans ho2⟩
end Go.Proofs.Ytnkiibdmpldkmaa
