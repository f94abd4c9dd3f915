/-
  How a book of the program's lies in memory. No conditions.
-/
import Derived.Test.YtnkiibdmpldkmaaRows
import Derived.Test.YtnkiibdmpldkmaaLib
import Derived.Test.YtnkiibdmpldkmaaModel
namespace Go.Proofs.Ytnkiibdmpldkmaa
open Go.RowKit Go.MapKept

@[go_sem] theorem eq23 (w : World) (r : Option Nat) : (binOp .eql 23 (.map r) (.map none)).run Try.prog w = .ok (.bool r.isNone) w := run_eql_map_nil w 23 3 49 r Try.underlying23

def ptr (a : Nat) : Value := .pointer (some ⟨a, 0, none⟩)
def cellsOf (s : Acct) : Array Value := #[.int .i64 s.lim, .int .i64 s.inn, .int .i64 s.pin]
/-- The map's entries: the accounts' blocks, numbered from i on. -/
def entriesFrom : Nat → List Nat → List (Value × Value)
  | _, [] => []
  | i, a :: r => (.int .i64 i, ptr a) :: entriesFrom (i + 1) r

theorem entries_key : ∀ (i : Nat) (bs : List Nat), ∀ x ∈ entriesFrom i bs, IsKey (.int .i64) x.1
  | _, [], _, h => by cases h
  | i, a :: r, x, h => by
    cases h with
    | head => rfl
    | tail _ h => exact entries_key (i + 1) r x h
theorem kget_entries : ∀ (i : Nat) (bs : List Nat) (t : Int), kget (.int .i64 t) (entriesFrom i bs) = if (i : Int) ≤ t then (bs[(t - i).toNat]?).map ptr else none
  | i, [], t => by simp [entriesFrom, kget]
  | i, a :: r, t => by
    by_cases h : (i : Int) = t
    · subst h; simp [entriesFrom, kget]
    · simp only [entriesFrom, kget, Value.int.injEq, h, and_false, if_false, kget_entries (i + 1) r t]
      by_cases h1 : (i : Int) < t
      · obtain ⟨k, hk⟩ : ∃ k : Nat, (t - (i : Int)).toNat = k + 1 := ⟨(t - (i : Int)).toNat - 1, by omega⟩
        have hk2 : (t - ((i + 1 : Nat) : Int)).toNat = k := by omega
        rw [if_pos (by omega), if_pos (by omega), hk, hk2]
        rfl
      · rw [if_neg (by omega), if_neg (by omega)]
theorem entries_snoc : ∀ (i : Nat) (bs : List Nat) (a : Nat), entriesFrom i (bs ++ [a]) = entriesFrom i bs ++ [(.int .i64 ((i + bs.length : Nat) : Int), ptr a)]
  | i, [], a => by simp [entriesFrom]
  | i, b :: r, a => by
    simp only [List.cons_append, entriesFrom, entries_snoc (i + 1) r a, List.length_cons]
    rw [show i + 1 + r.length = i + (r.length + 1) from by omega]
theorem entries_no : ∀ (i : Nat) (bs : List Nat), ∀ x ∈ entriesFrom i bs, ∀ k : Nat, i + bs.length ≤ k → x.1 ≠ .int .i64 (k : Int)
  | _, [], _, h, _, _ => by cases h
  | i, a :: r, x, h, k, hk => by
    simp only [List.length_cons] at hk
    cases h with
    | head => simp; omega
    | tail _ h => exact entries_no (i + 1) r x h k (by omega)

structure BookAt (w : World) (p m : Nat) (bs : List Nat) (S : List Acct) : Prop where
  ptr : w.heap[p]? = some (.cells #[.map (some m)] 25 (0, 0))
  map : KMap w m (entriesFrom 0 bs)
  len : bs.length = S.length
  accs : ∀ (i : Nat) (a : Nat) (s : Acct), bs[i]? = some a → S[i]? = some s → w.heap[a]? = some (.cells (cellsOf s) 51 (0, 0))
  nodup : bs.Nodup
  fine : ∀ s ∈ S, Fine s

theorem zero49 (w : World) : (zeroValue 49).run Try.prog w = .ok (.pointer none) w := by kernel_rfl

theorem BookAt.look {w : World} {p m : Nat} {bs : List Nat} {S : List Acct} (h : BookAt w p m bs S) (t : Int) :
    (Instr.lookup 23 (.map (some m)) (.int .i64 t) false).run Try.prog w = .ok ((if (0 : Int) ≤ t then (bs[t.toNat]?).map Ytnkiibdmpldkmaa.ptr else none).getD (.pointer none)) w := by
  have := run_lookup_k (P := Try.prog) (t := 23) (kt := 3) (et := 49) (d := .int .i64) (k := .int .i64 t) Try.underlying23 Try.underlying3 rfl (z := .pointer none) zero49 h.map (entries_key 0 bs) false
  rw [kget_entries] at this
  simpa using this
theorem BookAt.alloc {w : World} {p m : Nat} {bs : List Nat} {S : List Acct} (h : BookAt w p m bs S) (o : Obj) : BookAt (w.alloc o) p m bs S :=
  ⟨blk_alloc h.ptr o, h.map.alloc o, h.len, fun i a s ha hs => blk_alloc (h.accs i a s ha hs) o, h.nodup, h.fine⟩
theorem BookAt.only {F : Nat → Prop} {w w' : World} {p m : Nat} {bs : List Nat} {S : List Acct} (h : BookAt w p m bs S) (ho : Only F w w') (hp : ¬ F p) (hm : ¬ F m) (ha : ∀ a ∈ bs, ¬ F a) : BookAt w' p m bs S :=
  ⟨ho.keep h.ptr hp, h.map.only ho hm, h.len, fun i a s h1 h2 => ho.keep (h.accs i a s h1 h2) (ha a (List.mem_of_getElem? h1)), h.nodup, h.fine⟩
theorem BookAt.acc {w : World} {p m : Nat} {bs : List Nat} {S : List Acct} (h : BookAt w p m bs S) {a : Nat} (ha : a ∈ bs) : ∃ s, w.heap[a]? = some (.cells (cellsOf s) 51 (0, 0)) := by
  obtain ⟨i, hi⟩ := List.mem_iff_getElem?.1 ha
  have hl : i < S.length := by rw [← h.len]; exact (List.getElem?_eq_some_iff.1 hi).1
  exact ⟨_, h.accs i a _ hi (List.getElem?_eq_getElem hl)⟩
/-- One account turned: the book behind it. -/
theorem BookAt.turn {w w' : World} {p m a : Nat} {bs : List Nat} {S : List Acct} {i : Nat} {s : Acct} (h : BookAt w p m bs S) (hi : bs[i]? = some a) (ho : Only (· = a) w w')
    (ha : w'.heap[a]? = some (.cells (cellsOf s) 51 (0, 0))) (hf : Fine s) : BookAt w' p m bs (S.set i s) := by
  obtain ⟨s0, hs0⟩ := h.acc (List.mem_of_getElem? hi)
  refine ⟨ho.keep h.ptr (blk_ne h.ptr hs0 (by decide)), h.map.only ho (Ne.symm (h.map.ne_cells hs0)), by simpa using h.len, ?_, h.nodup, ?_⟩
  · intro j b x hb hx
    by_cases hij : i = j
    · subst hij
      rw [hi] at hb
      obtain rfl := Option.some.inj hb
      rw [List.getElem?_set] at hx
      split at hx
      · split at hx
        · obtain rfl := Option.some.inj hx; exact ha
        · cases hx
      · exact absurd rfl ‹_›
    · rw [List.getElem?_set_ne hij] at hx
      refine ho.keep (h.accs j b x hb hx) ?_
      rintro rfl
      exact hij (nodup_inj h.nodup hi hb)
  · intro x hx
    rcases List.mem_or_eq_of_mem_set hx with hx | rfl
    · exact h.fine x hx
    · exact hf
end Go.Proofs.Ytnkiibdmpldkmaa
