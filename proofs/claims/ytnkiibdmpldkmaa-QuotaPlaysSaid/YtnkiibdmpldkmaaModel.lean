/-
  A book's accounts as plain numbers, and what each call does to them. No program here. No conditions.
-/
namespace Go.Proofs.Ytnkiibdmpldkmaa
structure Acct where
  lim : Int
  inn : Int
  pin : Int

/-- What one call does to one account, the number of bytes not below 0: the code it answers, and the account behind it. Kinds: 0 Charge, 1 Part, 2 Refund, else Unpin. -/
def one (kind : Int) (s : Acct) (n : Int) : Int × Acct :=
  if kind = 0 then (if s.lim - s.inn < n then (18, s) else (0, { s with inn := s.inn + n }))
  else if kind = 1 then (if s.inn < n then (12, s) else if 1125899906842624 - s.pin < n then (3, s) else (0, { s with inn := s.inn - n, pin := s.pin + n }))
  else if kind = 2 then (if s.inn < n then (12, s) else (0, { s with inn := s.inn - n }))
  else (if s.pin < n then (12, s) else (0, { s with pin := s.pin - n }))

/-- What one call does to all. -/
def act (kind : Int) (S : List Acct) (t n : Int) : Int × List Acct :=
  if t < 0 ∨ n < 0 then (2, S) else
  match S[t.toNat]? with
  | none => (2, S)
  | some s => ((one kind s n).1, S.set t.toNat (one kind s n).2)

def Fine (s : Acct) : Prop := 0 ≤ s.inn ∧ s.inn ≤ s.lim ∧ s.lim ≤ 1099511627776 ∧ 0 ≤ s.pin ∧ s.pin ≤ 1125899906842624

theorem one_fine {kind : Int} {s : Acct} {n : Int} (h : Fine s) (hn : 0 ≤ n) : Fine (one kind s n).2 := by
  unfold Fine at *
  unfold one
  repeat' split
  all_goals (simp only []; omega)
theorem one_lim {kind : Int} {s : Acct} {n : Int} : (one kind s n).2.lim = s.lim := by
  unfold one
  repeat' split
  all_goals rfl
theorem act_len {kind : Int} {S : List Acct} {t n : Int} : (act kind S t n).2.length = S.length := by
  unfold act
  split
  · rfl
  · split <;> simp
theorem act_fine {kind : Int} {S : List Acct} {t n : Int} (h : ∀ s ∈ S, Fine s) : ∀ s ∈ (act kind S t n).2, Fine s := by
  unfold act
  split
  · exact h
  · rename_i hc
    split
    · exact h
    · rename_i s hs
      intro x hx
      rcases List.mem_or_eq_of_mem_set hx with hx | rfl
      · exact h x hx
      · exact one_fine (h s (List.mem_of_getElem? hs)) (by omega)
end Go.Proofs.Ytnkiibdmpldkmaa
