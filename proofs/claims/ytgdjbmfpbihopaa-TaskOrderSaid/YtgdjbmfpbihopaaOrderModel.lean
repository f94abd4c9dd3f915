/-
  TaskOrder in plain words: each task takes its locks in rising order, adds, and gives them back. No program here. No conditions.
-/
import Derived.Test.YtgdjbmfpbihopaaWordsModel
namespace Go.Proofs.Ytgdjbmfpbihopaa
set_option linter.unusedVariables false
set_option linter.unusedSimpArgs false

def lockL (L : List Nat) : List Op3 := L.map fun k => ⟨1, (k : Nat), 0⟩
def freeL (L : List Nat) : List Op3 := L.map fun k => ⟨2, (k : Nat), 0⟩
def oprog (L : List Nat) (b : Int) : List Op3 := lockL L ++ ([⟨5, 0, b⟩, ⟨6, 0, 0⟩] ++ freeL L)
/-- A task: its locks, and how many of its operations are done. -/
structure ZT where
  L : List Nat
  c : Nat
def ZT.all (z : ZT) : Nat := 2 * z.L.length + 2
def remZ : List ZT → Nat
  | [] => 0
  | z :: r => (z.all - z.c) + remZ r
structure ZOk (z : ZT) : Prop where
  up : z.L.Pairwise (· < ·)
  six : ∀ x ∈ z.L, x < 6
  le : z.c ≤ z.all
/-- This task holds lock k, by the place p of its list. -/
def Holding (z : ZT) (k p : Nat) : Prop := z.L[p]? = some k ∧ p < z.c ∧ z.c ≤ z.L.length + 2 + p
structure OInv (W : Wd) (Z : List ZT) (S : Int) : Prop where
  locks : W.locks = 6
  pipes : W.pipes = []
  words : ∃ x, W.words = [x] ∧ In32 x ∧ w32 (x + restOf 0 W.tasks) = S
  len : W.tasks.length = Z.length
  task : ∀ (i : Nat) (z : ZT), Z[i]? = some z → ∃ x, W.tasks[i]? = some ⟨(oprog z.L ((i : Int) + 1)).drop z.c, x⟩
  ok : ∀ z ∈ Z, ZOk z
  hold : ∀ (k : Nat) (o : Int), W.holds (k : Int) = some o ↔ ∃ (i : Nat) (z : ZT) (p : Nat), o = (i : Int) ∧ Z[i]? = some z ∧ Holding z k p
theorem oprog_len (L : List Nat) (b : Int) : (oprog L b).length = 2 * L.length + 2 := by
  simp [oprog, lockL, freeL]; omega
theorem drop_cons {α : Type} {l : List α} {c : Nat} {x : α} (h : l[c]? = some x) : l.drop c = x :: l.drop (c + 1) := by
  obtain ⟨hc, hx⟩ := List.getElem?_eq_some_iff.1 h
  rw [List.drop_eq_getElem_cons hc, hx]
theorem oprog_lock {L : List Nat} {b : Int} {c k : Nat} (h : L[c]? = some k) : (oprog L b)[c]? = some ⟨1, (k : Nat), 0⟩ := by
  have hc := (List.getElem?_eq_some_iff.1 h).1
  rw [oprog, List.getElem?_append_left (by simpa [lockL] using hc), lockL, List.getElem?_map, h]; rfl
theorem oprog_add {L : List Nat} {b : Int} : (oprog L b)[L.length]? = some ⟨5, 0, b⟩ := by
  rw [oprog, List.getElem?_append_right (by simp [lockL])]
  simp [lockL]
theorem oprog_load {L : List Nat} {b : Int} : (oprog L b)[L.length + 1]? = some ⟨6, 0, 0⟩ := by
  rw [oprog, List.getElem?_append_right (by simp [lockL])]
  simp [lockL]
theorem oprog_free {L : List Nat} {b : Int} {p k : Nat} (h : L[p]? = some k) : (oprog L b)[L.length + 2 + p]? = some ⟨2, (k : Nat), 0⟩ := by
  rw [oprog, List.getElem?_append_right (by simp [lockL]; omega)]
  simp only [lockL, List.length_map]
  rw [show L.length + 2 + p - L.length = p + 1 + 1 by omega]
  show (freeL L)[p]? = _
  rw [freeL, List.getElem?_map, h]; rfl
/-- Where a task stands. -/
theorem zt_cases {z : ZT} (h : ZOk z) : z.c = z.all ∨ (∃ k, z.L[z.c]? = some k) ∨ z.c = z.L.length ∨ z.c = z.L.length + 1 ∨ ∃ p k, z.c = z.L.length + 2 + p ∧ z.L[p]? = some k := by
  have := h.le
  unfold ZT.all at *
  by_cases h1 : z.c < z.L.length
  · exact .inr (.inl ⟨_, List.getElem?_eq_getElem h1⟩)
  by_cases h2 : z.c = z.L.length
  · exact .inr (.inr (.inl h2))
  by_cases h3 : z.c = z.L.length + 1
  · exact .inr (.inr (.inr (.inl h3)))
  by_cases h4 : z.c = 2 * z.L.length + 2
  · exact .inl h4
  · exact .inr (.inr (.inr (.inr ⟨z.c - (z.L.length + 2), _, by omega, List.getElem?_eq_getElem (by omega)⟩)))
theorem up_lt {l : List Nat} (h : l.Pairwise (· < ·)) {a b x y : Nat} (ha : l[a]? = some x) (hb : l[b]? = some y) (hab : a < b) : x < y := by
  obtain ⟨h1, rfl⟩ := List.getElem?_eq_some_iff.1 ha
  obtain ⟨h2, rfl⟩ := List.getElem?_eq_some_iff.1 hb
  exact List.pairwise_iff_getElem.1 h a b h1 h2 hab
theorem up_inj {l : List Nat} (h : l.Pairwise (· < ·)) {a b x : Nat} (ha : l[a]? = some x) (hb : l[b]? = some x) : a = b := by
  rcases Nat.lt_trichotomy a b with h1 | h1 | h1
  · exact absurd (up_lt h ha hb h1) (by omega)
  · exact h1
  · exact absurd (up_lt h hb ha h1) (by omega)
theorem rem_set : ∀ {Z : List ZT} {i : Nat} {z : ZT}, Z[i]? = some z → ∀ z' : ZT, remZ (Z.set i z') + (z.all - z.c) = remZ Z + (z'.all - z'.c)
  | [], i, z, h, _ => by simp at h
  | x :: Z, 0, z, h, z' => by
    simp only [List.getElem?_cons_zero, Option.some.injEq] at h
    subst h
    simp only [List.set_cons_zero, remZ]; omega
  | x :: Z, i + 1, z, h, z' => by
    have := rem_set (Z := Z) (i := i) (by simpa using h) z'
    simp only [List.set_cons_succ, remZ]; omega
theorem rem_app : ∀ (Z Y : List ZT), remZ (Z ++ Y) = remZ Z + remZ Y
  | [], Y => by simp [remZ]
  | z :: Z, Y => by simp only [List.cons_append, remZ, rem_app Z Y]; omega
theorem rem_zero : ∀ {Z : List ZT}, (∀ z ∈ Z, z.c = z.all) → remZ Z = 0
  | [], _ => rfl
  | z :: Z, h => by simp only [remZ, rem_zero (Z := Z) (fun y hy => h y (.tail _ hy)), h z (.head _)]; omega
theorem of_rem_zero : ∀ {Z : List ZT}, remZ Z = 0 → (∀ z ∈ Z, ZOk z) → ∀ z ∈ Z, z.c = z.all
  | z :: Z, h, ho, y, hy => by
    simp only [remZ] at h
    rcases List.mem_cons.1 hy with rfl | hy
    · have := (ho y (.head _)).le; omega
    · exact of_rem_zero (by omega) (fun x hx => ho x (.tail _ hx)) y hy
theorem zset {Z : List ZT} {i j : Nat} {z : ZT} (h : i < Z.length) : (Z.set i z)[j]? = if j = i then some z else Z[j]? := by
  rw [List.getElem?_set]
  by_cases hij : i = j
  · subst hij; rw [if_pos rfl, if_pos h, if_pos rfl]
  · rw [if_neg hij, if_neg (fun e => hij e.symm)]
/-- One operation of task i is done. -/
theorem OInv.move {W : Wd} {Z : List ZT} {S : Int} (h : OInv W Z S) {i : Nat} {z : ZT} (hz : Z[i]? = some z) (hc : z.c < z.all) {W' : Wd} {x' : Int}
    (hlk : W'.locks = 6) (hpp : W'.pipes = []) (hw : ∃ x, W'.words = [x] ∧ In32 x ∧ w32 (x + restOf 0 W'.tasks) = S)
    (ht : W'.tasks = W.tasks.set i ⟨(oprog z.L ((i : Int) + 1)).drop (z.c + 1), x'⟩)
    (hh : ∀ (k : Nat) (o : Int), W'.holds (k : Int) = some o ↔ (∃ p, o = (i : Int) ∧ Holding ⟨z.L, z.c + 1⟩ k p) ∨ (o ≠ (i : Int) ∧ W.holds (k : Int) = some o)) : OInv W' (Z.set i ⟨z.L, z.c + 1⟩) S := by
  have hi := (List.getElem?_eq_some_iff.1 hz).1
  have hzok := h.ok z (List.mem_of_getElem? hz)
  refine ⟨hlk, hpp, hw, by rw [ht, List.length_set, List.length_set, h.len], fun j y hy => ?_, fun y hy => ?_, fun k o => ?_⟩
  · rw [zset hi] at hy
    rw [ht, tasks_set (by rw [h.len]; exact hi)]
    by_cases hj : j = i
    · subst hj
      rw [if_pos rfl] at hy ⊢
      cases hy
      exact ⟨x', rfl⟩
    · rw [if_neg hj] at hy ⊢
      exact h.task j y hy
  · rcases List.mem_or_eq_of_mem_set hy with hy | rfl
    · exact h.ok y hy
    · exact ⟨hzok.up, hzok.six, by unfold ZT.all at *; simp only; omega⟩
  · rw [hh]
    constructor
    · rintro (⟨p, rfl, hp⟩ | ⟨ho, hp⟩)
      · exact ⟨i, _, p, rfl, by rw [zset hi, if_pos rfl], hp⟩
      · obtain ⟨j, y, p, rfl, hj, hp⟩ := (h.hold k o).1 hp
        refine ⟨j, y, p, rfl, ?_, hp⟩
        rw [zset hi, if_neg (fun e => ho (by rw [e]))]
        exact hj
    · rintro ⟨j, y, p, rfl, hj, hp⟩
      rw [zset hi] at hj
      by_cases hji : j = i
      · subst hji
        rw [if_pos rfl] at hj
        cases hj
        exact .inl ⟨p, rfl, hp⟩
      · rw [if_neg hji] at hj
        exact .inr ⟨by omega, (h.hold k _).2 ⟨j, y, p, rfl, hj, hp⟩⟩
/-- The state of a task. -/
theorem OInv.state {W : Wd} {Z : List ZT} {S : Int} (h : OInv W Z S) {i : Nat} {z : ZT} (hz : Z[i]? = some z) :
    (stateF W (i : Int) = 3 ∧ z.c = z.all) ∨ (stateF W (i : Int) = 2 ∧ ∃ k, z.L[z.c]? = some k ∧ (W.holds (k : Int)).isSome = true) ∨ (stateF W (i : Int) = 1 ∧ z.c < z.all ∧ ∀ o r, (oprog z.L ((i : Int) + 1)).drop z.c = o :: r → waitsB W o = false) := by
  have hok := h.ok z (List.mem_of_getElem? hz)
  obtain ⟨x, ht⟩ := h.task i z hz
  rw [stateF_at ht]
  unfold stateT
  have one : ∀ {o : Op3}, (oprog z.L ((i : Int) + 1))[z.c]? = some o → (oprog z.L ((i : Int) + 1)).drop z.c = o :: (oprog z.L ((i : Int) + 1)).drop (z.c + 1) := drop_cons
  have fin : ∀ {o : Op3}, (oprog z.L ((i : Int) + 1))[z.c]? = some o → waitsB W o = false → ∀ o' r, (oprog z.L ((i : Int) + 1)).drop z.c = o' :: r → waitsB W o' = false := fun {o} ho hw o' r e => by
    rw [drop_cons ho] at e
    injection e with e1 _
    rw [← e1]; exact hw
  rcases zt_cases hok with hc | ⟨k, hk⟩ | hc | hc | ⟨p, k, hc, hk⟩
  · left
    refine ⟨?_, hc⟩
    have hd : (oprog z.L ((i : Int) + 1)).drop z.c = [] := List.drop_eq_nil_of_le (by rw [oprog_len, hc]; exact Nat.le_refl _)
    simp only [hd]
  · right
    have ho := oprog_lock (b := (i : Int) + 1) hk
    have hlt := (List.getElem?_eq_some_iff.1 hk).1
    have hw : waitsB W ⟨1, (k : Nat), 0⟩ = (W.holds (k : Int)).isSome := rfl
    cases hs : (W.holds (k : Int)).isSome with
    | true => exact .inl ⟨by simp only [one ho, hw, hs, if_true], k, hk, hs⟩
    | false => exact .inr ⟨by simp only [one ho, hw, hs, if_false, Bool.false_eq_true], by unfold ZT.all; omega, fin ho (hw.trans hs)⟩
  · right; right
    have ho : (oprog z.L ((i : Int) + 1))[z.c]? = some ⟨5, 0, (i : Int) + 1⟩ := by rw [hc]; exact oprog_add
    have hw : waitsB W ⟨5, 0, (i : Int) + 1⟩ = false := rfl
    exact ⟨by simp only [one ho, hw, if_false, Bool.false_eq_true], by unfold ZT.all; omega, fin ho hw⟩
  · right; right
    have ho : (oprog z.L ((i : Int) + 1))[z.c]? = some ⟨6, 0, 0⟩ := by rw [hc]; exact oprog_load
    have hw : waitsB W ⟨6, 0, 0⟩ = false := rfl
    exact ⟨by simp only [one ho, hw, if_false, Bool.false_eq_true], by unfold ZT.all; omega, fin ho hw⟩
  · right; right
    have ho : (oprog z.L ((i : Int) + 1))[z.c]? = some ⟨2, (k : Nat), 0⟩ := by rw [hc]; exact oprog_free hk
    have hw : waitsB W ⟨2, (k : Nat), 0⟩ = false := rfl
    have hlt := (List.getElem?_eq_some_iff.1 hk).1
    exact ⟨by simp only [one ho, hw, if_false, Bool.false_eq_true], by unfold ZT.all; omega, fin ho hw⟩
/-- Somebody can go on, or nobody waits. -/
theorem OInv.someone {W : Wd} {Z : List ZT} {S : Int} (h : OInv W Z S) : ∀ (m k : Nat), 6 ≤ k + m → (W.holds (k : Int)).isSome = true → ∃ i : Nat, i < W.tasks.length ∧ stateF W i = 1
  | m, k, hm, hs => by
    obtain ⟨o, ho⟩ := Option.isSome_iff_exists.1 hs
    obtain ⟨j, z, p, rfl, hz, h1, h2, h3⟩ := (h.hold k o).1 ho
    have hok := h.ok z (List.mem_of_getElem? hz)
    have hj := (List.getElem?_eq_some_iff.1 hz).1
    have hp := (List.getElem?_eq_some_iff.1 h1).1
    have hk6 := hok.six k (List.mem_of_getElem? h1)
    rcases h.state hz with ⟨_, hc⟩ | ⟨_, k2, hk2, hs2⟩ | ⟨hst, _⟩
    · exfalso; unfold ZT.all at hc; omega
    · have hlt := up_lt hok.up h1 hk2 h2
      match m, hm with
      | 0, hm => omega
      | m + 1, hm => exact OInv.someone h m k2 (by omega) hs2
    · exact ⟨j, by rw [h.len]; exact hj, hst⟩
theorem OInv.stuck {W : Wd} {Z : List ZT} {S : Int} (h : OInv W Z S) : (∃ i : Nat, i < W.tasks.length ∧ stateF W i = 1) ∨ ∀ i : Nat, i < W.tasks.length → stateF W i ≠ 2 := by
  by_cases hx : ∃ i : Nat, i < W.tasks.length ∧ stateF W i = 2
  · obtain ⟨i, hi, hs⟩ := hx
    obtain ⟨z, hz⟩ : ∃ z, Z[i]? = some z := ⟨_, List.getElem?_eq_getElem (by rw [← h.len]; exact hi)⟩
    rcases h.state hz with ⟨h1, _⟩ | ⟨_, k, hk, hsome⟩ | ⟨h1, _⟩
    · rw [h1] at hs; exact absurd hs (by decide)
    · exact .inl (h.someone 6 k (by omega) hsome)
    · rw [h1] at hs; exact absurd hs (by decide)
  · exact .inr fun i hi hs => hx ⟨i, hi, hs⟩
theorem OInv.notstuck {W : Wd} {Z : List ZT} {S : Int} (h : OInv W Z S) : stuckF W = false := stuck_no h.stuck
theorem addOf_drop {L : List Op3} {c : Nat} {o : Op3} (h : L[c]? = some o) (k : Int) : addOf k (L.drop c) = (if o.a = k then o.b else 0) + addOf k (L.drop (c + 1)) := by
  rw [drop_cons h]; rfl
/-- A step of task i that need not wait. -/
theorem OInv.run {W : Wd} {Z : List ZT} {S : Int} (h : OInv W Z S) {i : Nat} {z : ZT} (hz : Z[i]? = some z) (hs : stateF W (i : Int) = 1) :
    ∃ z', OInv (stepF W (i : Int)).2.2 (Z.set i z') S ∧ z'.all = z.all ∧ z'.c = z.c + 1 ∧ z.c < z.all := by
  have hok := h.ok z (List.mem_of_getElem? hz)
  obtain ⟨x, ht⟩ := h.task i z hz
  have hi := (List.getElem?_eq_some_iff.1 hz).1
  obtain ⟨hlt, hfree⟩ : z.c < z.all ∧ ∀ o r, (oprog z.L ((i : Int) + 1)).drop z.c = o :: r → waitsB W o = false := by
    rcases h.state hz with ⟨h1, _⟩ | ⟨h1, _⟩ | ⟨_, h2, h3⟩
    · rw [h1] at hs; exact absurd hs (by decide)
    · rw [h1] at hs; exact absurd hs (by decide)
    · exact ⟨h2, h3⟩
  refine ⟨⟨z.L, z.c + 1⟩, ?_, rfl, rfl, hlt⟩
  obtain ⟨y, hw, hy, hS⟩ := h.words
  have hr := fun (t' : Thr) => restOf_set 0 ht t'
  -- holds by i before and behind, where no lock is turned
  have same : ∀ (k : Nat), (∀ p, Holding z k p ↔ Holding ⟨z.L, z.c + 1⟩ k p) → ∀ (o : Int), W.holds (k : Int) = some o ↔ (∃ p, o = (i : Int) ∧ Holding ⟨z.L, z.c + 1⟩ k p) ∨ (o ≠ (i : Int) ∧ W.holds (k : Int) = some o) := fun k hsame o => by
    constructor
    · intro hk
      by_cases ho : o = (i : Int)
      · obtain ⟨j, z', p, h1, h2, h3⟩ := (h.hold k o).1 hk
        obtain rfl : j = i := by omega
        rw [hz] at h2
        cases h2
        exact .inl ⟨p, ho, (hsame p).1 h3⟩
      · exact .inr ⟨ho, hk⟩
    · rintro (⟨p, rfl, hp⟩ | ⟨_, hk⟩)
      · exact (h.hold k _).2 ⟨i, z, p, rfl, hz, (hsame p).2 hp⟩
      · exact hk
  rcases zt_cases hok with hc | ⟨k, hk⟩ | hc | hc | ⟨p, k, hc, hk⟩
  · omega
  · have ho := oprog_lock (b := (i : Int) + 1) hk
    have hcl := (List.getElem?_eq_some_iff.1 hk).1
    have hwt := hfree _ _ (drop_cons ho)
    have hnone : W.holds (k : Int) = none := by
      have : (W.holds (k : Int)).isSome = false := hwt
      cases hh : W.holds (k : Int) with
      | none => rfl
      | some o => rw [hh] at this; cases this
    have hd : doF (setT W i ⟨(oprog z.L ((i : Int) + 1)).drop (z.c + 1), x⟩) i ⟨(oprog z.L ((i : Int) + 1)).drop (z.c + 1), x⟩ ⟨1, (k : Nat), 0⟩ = (0, { setT W i ⟨(oprog z.L ((i : Int) + 1)).drop (z.c + 1), x⟩ with holds := fun y => if y = (k : Int) then some (i : Int) else W.holds y }) := rfl
    rw [pstep_run ht (drop_cons ho) hwt hd]
    refine h.move hz hlt h.locks h.pipes ⟨y, hw, hy, ?_⟩ rfl (fun k' o => ?_)
    · show w32 (y + restOf 0 (W.tasks.set i _)) = S
      rw [hr]
      simp only [addOf_drop ho]
      rw [← hS]; congr 1
      split <;> omega
    · show (if ((k' : Nat) : Int) = (k : Int) then some (i : Int) else W.holds k') = some o ↔ _
      by_cases hkk : k' = k
      · subst hkk
        rw [if_pos rfl]
        constructor
        · intro e
          exact .inl ⟨z.c, (Option.some.inj e).symm, hk, by show z.c < z.c + 1; omega, by show z.c + 1 ≤ z.L.length + 2 + z.c; omega⟩
        · rintro (⟨_, rfl, _⟩ | ⟨_, e⟩)
          · rfl
          · rw [hnone] at e; cases e
      · rw [if_neg (by omega)]
        refine same k' (fun p => ⟨fun ⟨a1, a2, a3⟩ => ⟨a1, by show p < z.c + 1; omega, by show z.c + 1 ≤ z.L.length + 2 + p; omega⟩, fun ⟨a1, a2, a3⟩ => ⟨a1, ?_, by omega⟩⟩) o
        have a2' : p < z.c + 1 := a2
        rcases Nat.lt_or_eq_of_le (Nat.le_of_lt_succ a2') with h1 | h1
        · exact h1
        · exfalso
          have a1' : z.L[p]? = some k' := a1
          rw [h1, hk] at a1'
          exact hkk (Option.some.inj a1').symm
  · have ho : (oprog z.L ((i : Int) + 1))[z.c]? = some ⟨5, 0, (i : Int) + 1⟩ := by rw [hc]; exact oprog_add
    have hwt := hfree _ _ (drop_cons ho)
    have hd : doF (setT W i ⟨(oprog z.L ((i : Int) + 1)).drop (z.c + 1), x⟩) i ⟨(oprog z.L ((i : Int) + 1)).drop (z.c + 1), x⟩ ⟨5, 0, (i : Int) + 1⟩ = (0, { setT W i ⟨(oprog z.L ((i : Int) + 1)).drop (z.c + 1), x⟩ with words := W.words.set (0 : Int).toNat (w32 (W.words.getD (0 : Int).toNat 0 + w32 ((i : Int) + 1))) }) := rfl
    rw [pstep_run ht (drop_cons ho) hwt hd]
    refine h.move hz hlt h.locks h.pipes ⟨w32 (y + w32 ((i : Int) + 1)), by rw [hw]; rfl, in32_w32 _, ?_⟩ rfl (fun k' o => ?_)
    · show w32 (w32 (y + w32 ((i : Int) + 1)) + restOf 0 (W.tasks.set i _)) = S
      rw [hr]
      simp only [addOf_drop ho, if_true]
      rw [w32_add, Int.add_assoc, Int.add_comm (w32 ((i : Int) + 1)), ← Int.add_assoc, w32_add', ← hS]
      congr 1; omega
    · refine same k' (fun p => ⟨fun ⟨a1, a2, a3⟩ => ⟨a1, by show p < z.c + 1; omega, by show z.c + 1 ≤ z.L.length + 2 + p; omega⟩, fun ⟨a1, a2, a3⟩ => ⟨a1, ?_, by omega⟩⟩) o
      have := (List.getElem?_eq_some_iff.1 a1).1
      have : p < z.L.length := this
      omega
  · have ho : (oprog z.L ((i : Int) + 1))[z.c]? = some ⟨6, 0, 0⟩ := by rw [hc]; exact oprog_load
    have hwt := hfree _ _ (drop_cons ho)
    have hd : doF (setT W i ⟨(oprog z.L ((i : Int) + 1)).drop (z.c + 1), x⟩) i ⟨(oprog z.L ((i : Int) + 1)).drop (z.c + 1), x⟩ ⟨6, 0, 0⟩ = (0, setT (setT W i ⟨(oprog z.L ((i : Int) + 1)).drop (z.c + 1), x⟩) i ⟨(oprog z.L ((i : Int) + 1)).drop (z.c + 1), w32 (x + W.words.getD (0 : Int).toNat 0)⟩) := rfl
    rw [pstep_run ht (drop_cons ho) hwt hd]
    have hset : ∀ (l : List Thr) (a b : Thr), (l.set i a).set i b = l.set i b := fun l a b => by rw [List.set_set]
    refine h.move (x' := w32 (x + W.words.getD (0 : Int).toNat 0)) hz hlt h.locks h.pipes ⟨y, hw, hy, ?_⟩ (hset _ _ _) (fun k' o => ?_)
    · show w32 (y + restOf 0 ((W.tasks.set i _).set i _)) = S
      rw [hset, hr]
      simp only [addOf_drop ho]
      rw [← hS]; congr 1
      split <;> omega
    · refine same k' (fun p => ⟨fun ⟨a1, a2, a3⟩ => ⟨a1, by show p < z.c + 1; omega, by show z.c + 1 ≤ z.L.length + 2 + p; omega⟩, fun ⟨a1, a2, a3⟩ => ⟨a1, ?_, by omega⟩⟩) o
      have := (List.getElem?_eq_some_iff.1 a1).1
      have : p < z.L.length := this
      omega
  · have ho : (oprog z.L ((i : Int) + 1))[z.c]? = some ⟨2, (k : Nat), 0⟩ := by rw [hc]; exact oprog_free hk
    have hp := (List.getElem?_eq_some_iff.1 hk).1
    have hwt := hfree _ _ (drop_cons ho)
    have hmine : W.holds (k : Int) = some (i : Int) := (h.hold k _).2 ⟨i, z, p, rfl, hz, hk, by omega, by omega⟩
    have hd : doF (setT W i ⟨(oprog z.L ((i : Int) + 1)).drop (z.c + 1), x⟩) i ⟨(oprog z.L ((i : Int) + 1)).drop (z.c + 1), x⟩ ⟨2, (k : Nat), 0⟩ = (0, { setT W i ⟨(oprog z.L ((i : Int) + 1)).drop (z.c + 1), x⟩ with holds := fun y => if y = (k : Int) then none else W.holds y }) := by
      show (if W.holds (k : Int) = some (i : Int) then _ else _) = _
      rw [if_pos hmine]
      rfl
    rw [pstep_run ht (drop_cons ho) hwt hd]
    refine h.move hz hlt h.locks h.pipes ⟨y, hw, hy, ?_⟩ rfl (fun k' o => ?_)
    · show w32 (y + restOf 0 (W.tasks.set i _)) = S
      rw [hr]
      simp only [addOf_drop ho]
      rw [← hS]; congr 1
      split <;> omega
    · show (if ((k' : Nat) : Int) = (k : Int) then none else W.holds k') = some o ↔ _
      by_cases hkk : k' = k
      · subst hkk
        rw [if_pos rfl]
        constructor
        · intro e; cases e
        · rintro (⟨q, rfl, a1, a2, a3⟩ | ⟨ho2, e⟩)
          · exfalso
            have a3' : z.c + 1 ≤ z.L.length + 2 + q := a3
            have := up_inj hok.up (show z.L[q]? = some k' from a1) hk
            omega
          · rw [hmine] at e
            exact absurd (Option.some.inj e).symm ho2
      · rw [if_neg (by omega)]
        refine same k' (fun q => ⟨fun ⟨a1, a2, a3⟩ => ⟨a1, by show q < z.c + 1; omega, ?_⟩, fun ⟨a1, a2, a3⟩ => ⟨a1, ?_, by have a3' : z.c + 1 ≤ z.L.length + 2 + q := a3; omega⟩⟩) o
        · show z.c + 1 ≤ z.L.length + 2 + q
          have : q ≠ p := fun e => hkk (by rw [e, hk] at a1; exact (Option.some.inj a1).symm)
          omega
        · have : q < z.L.length := (List.getElem?_eq_some_iff.1 a1).1
          omega
/-- A step that must wait, or of nobody. -/
theorem step_idle {W : Wd} {i : Nat} (hs : stateF W (i : Int) ≠ 1) : (stepF W (i : Int)).2.2 = W := by
  by_cases hk : (W.tasks.length : Int) ≤ (i : Int)
  · rw [pstep_no (.inr hk)]
  obtain ⟨t, ht⟩ : ∃ t, W.tasks[i]? = some t := ⟨_, List.getElem?_eq_getElem (by omega)⟩
  rw [stateF_at ht] at hs
  rcases stateT_cases W t with ⟨h1, _⟩ | ⟨o, r, h1, h2, _⟩ | ⟨o, r, _, _, h3⟩
  · rw [pstep_nil ht h1]
  · rw [pstep_wait ht h1 h2]
  · exact absurd h3 hs
/-- Any step. -/
theorem OInv.step {W : Wd} {Z : List ZT} {S : Int} (h : OInv W Z S) (k : Int) : ∃ Z', OInv (stepF W k).2.2 Z' S ∧ Z'.length = Z.length ∧ remZ Z' ≤ remZ Z ∧ (stateF W k = 1 → remZ Z' + 1 ≤ remZ Z) := by
  by_cases hk : k < 0
  · rw [pstep_no (.inl hk)]
    exact ⟨Z, h, rfl, Nat.le_refl _, fun e => by rw [stateF_no (.inl hk)] at e; exact absurd e (by decide)⟩
  obtain ⟨i, rfl⟩ : ∃ i : Nat, k = (i : Int) := ⟨k.toNat, by omega⟩
  by_cases hs : stateF W (i : Int) = 1
  · have hi : i < Z.length := by
      rw [← h.len]
      apply Nat.lt_of_not_le
      intro hle
      rw [stateF_no (.inr (by omega))] at hs
      exact absurd hs (by decide)
    obtain ⟨z, hz⟩ : ∃ z, Z[i]? = some z := ⟨_, List.getElem?_eq_getElem hi⟩
    obtain ⟨z', h1, h2, h3, h4⟩ := h.run hz hs
    have := rem_set hz z'
    exact ⟨_, h1, by simp, by omega, fun _ => by omega⟩
  · rw [step_idle hs]
    exact ⟨Z, h, rfl, Nat.le_refl _, fun e => absurd e hs⟩
/-- Within round r: something went on, or nobody below a can. -/
def ORnd (W : Wd) (Z : List ZT) (m a : Nat) : Prop := remZ Z + 1 ≤ m ∨ (remZ Z ≤ m ∧ ∀ i : Nat, i < a → stateF W (i : Int) ≠ 1)
theorem OInv.rnd {W : Wd} {Z : List ZT} {S : Int} (h : OInv W Z S) {m a : Nat} (hr : ORnd W Z m a) : ∃ Z', OInv (stepF W (a : Int)).2.2 Z' S ∧ Z'.length = Z.length ∧ ORnd (stepF W (a : Int)).2.2 Z' m (a + 1) := by
  by_cases hs : stateF W (a : Int) = 1
  · obtain ⟨Z', h1, h2, h3, h4⟩ := h.step (a : Int)
    have := h4 hs
    refine ⟨Z', h1, h2, .inl ?_⟩
    rcases hr with h5 | ⟨h5, _⟩ <;> omega
  · rw [step_idle hs]
    refine ⟨Z, h, rfl, ?_⟩
    rcases hr with h5 | ⟨h5, h6⟩
    · exact .inl h5
    · refine .inr ⟨h5, fun i hi => ?_⟩
      by_cases e : i = a
      · rw [e]; exact hs
      · exact h6 i (by omega)
theorem OInv.rnd_end {W : Wd} {Z : List ZT} {S : Int} (h : OInv W Z S) {m : Nat} (hr : ORnd W Z m Z.length) : remZ Z ≤ m - 1 := by
  rcases hr with h1 | ⟨h1, h2⟩
  · omega
  · have : remZ Z = 0 := by
      apply rem_zero
      intro z hz
      obtain ⟨i, hi⟩ := List.mem_iff_getElem?.1 hz
      have hil := (List.getElem?_eq_some_iff.1 hi).1
      have hn2 : stateF W (i : Int) ≠ 2 := by
        rcases h.stuck with ⟨j, hj, hs⟩ | h3
        · exact absurd hs (h2 j (by rw [← h.len]; exact hj))
        · exact h3 i (by rw [h.len]; exact hil)
      rcases h.state hi with ⟨_, h3⟩ | ⟨h3, _⟩ | ⟨h3, _⟩
      · exact h3
      · exact absurd h3 hn2
      · exact absurd h3 (h2 i hil)
    omega
/-- All done. -/
theorem OInv.done {W : Wd} {Z : List ZT} {S : Int} (h : OInv W Z S) (hr : remZ Z = 0) : (∀ i : Nat, i < Z.length → stateF W (i : Int) = 3) ∧ wordF W 0 = S := by
  have hd := of_rem_zero hr h.ok
  constructor
  · intro i hi
    obtain ⟨z, hz⟩ : ∃ z, Z[i]? = some z := ⟨_, List.getElem?_eq_getElem hi⟩
    have hc := hd z (List.mem_of_getElem? hz)
    rcases h.state hz with ⟨h3, _⟩ | ⟨_, k, h3, _⟩ | ⟨_, h3, _⟩
    · exact h3
    · have := (List.getElem?_eq_some_iff.1 h3).1
      unfold ZT.all at hc; omega
    · omega
  · obtain ⟨y, hw, hy, hS⟩ := h.words
    have : restOf 0 W.tasks = 0 := restOf_done 0 fun t ht => by
      obtain ⟨i, hi⟩ := List.mem_iff_getElem?.1 ht
      have hil := (List.getElem?_eq_some_iff.1 hi).1
      obtain ⟨z, hz⟩ : ∃ z, Z[i]? = some z := ⟨_, List.getElem?_eq_getElem (by rw [← h.len]; exact hil)⟩
      obtain ⟨x, hx⟩ := h.task i z hz
      rw [hi] at hx
      rw [Option.some.inj hx]
      exact List.drop_eq_nil_of_le (by rw [oprog_len, hd z (List.mem_of_getElem? hz)]; exact Nat.le_refl _)
    rw [this, Int.add_zero, w32_id hy.1 hy.2] at hS
    unfold wordF
    rw [hw, ← hS]; rfl
end Go.Proofs.Ytgdjbmfpbihopaa
