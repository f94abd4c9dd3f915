/-
  TaskWords in plain words: what is still to be added, and what each word will be. No program here. No conditions.
-/
import Derived.Test.YtgdjbmfpbihopaaPlain
namespace Go.Proofs.Ytgdjbmfpbihopaa
set_option linter.unusedVariables false
set_option linter.unusedSimpArgs false

/-- What a list of operations adds to word k. -/
def addOf (k : Int) : List Op3 → Int
  | [] => 0
  | o :: r => (if o.a = k then o.b else 0) + addOf k r
def restOf (k : Int) : List Thr → Int
  | [] => 0
  | t :: r => addOf k t.left + restOf k r
def IsAdd (o : Op3) : Prop := o.kind = 5 ∧ (o.a = 0 ∨ o.a = 1)
/-- A world without locks and channels, whose words end as S0 and S1. -/
structure WInv (W : Wd) (S0 S1 : Int) : Prop where
  locks : W.locks = 0
  pipes : W.pipes = []
  words : ∃ x0 x1, W.words = [x0, x1] ∧ In32 x0 ∧ In32 x1 ∧ w32 (x0 + restOf 0 W.tasks) = S0 ∧ w32 (x1 + restOf 1 W.tasks) = S1
  ops : ∀ t ∈ W.tasks, (∀ o ∈ t.left, IsAdd o) ∧ t.left.length ≤ 30
theorem w32_add (a b : Int) : w32 (w32 a + b) = w32 (a + b) := by unfold w32; omega
theorem w32_add' (a b : Int) : w32 (a + w32 b) = w32 (a + b) := by unfold w32; omega
theorem addOf_app (k : Int) : ∀ (l m : List Op3), addOf k (l ++ m) = addOf k l + addOf k m
  | [], m => by simp [addOf]
  | o :: r, m => by simp only [List.cons_append, addOf, addOf_app k r m]; omega
theorem restOf_app (k : Int) : ∀ (l m : List Thr), restOf k (l ++ m) = restOf k l + restOf k m
  | [], m => by simp [restOf]
  | o :: r, m => by simp only [List.cons_append, restOf, restOf_app k r m]; omega
theorem restOf_set (k : Int) : ∀ {l : List Thr} {i : Nat} {t : Thr}, l[i]? = some t → ∀ t' : Thr, restOf k (l.set i t') = restOf k l - addOf k t.left + addOf k t'.left
  | [], i, t, h, _ => by simp at h
  | x :: l, 0, t, h, t' => by
    simp only [List.getElem?_cons_zero, Option.some.injEq] at h
    subst h
    simp only [List.set_cons_zero, restOf]; omega
  | x :: l, i + 1, t, h, t' => by
    have := restOf_set k (l := l) (i := i) (by simpa using h) t'
    simp only [List.set_cons_succ, restOf, this]; omega
theorem isAdd_free {W : Wd} {o : Op3} (h : IsAdd o) : waitsB W o = false := by
  obtain ⟨h1, _⟩ := h
  simp [waitsB, h1]
/-- What a step leaves of it. -/
theorem WInv.step {W : Wd} {S0 S1 : Int} (h : WInv W S0 S1) (k : Int) :
    WInv (stepF W k).2.2 S0 S1 ∧ (stepF W k).1 ≠ 2 ∧ ((stepF W k).2.1 = 0 ∨ (stepF W k).2.1 = 12 ∨ (stepF W k).2.1 = 16) ∧ (stepF W k).2.2.tasks.length = W.tasks.length ∧
      ∀ i : Nat, ((stepF W k).2.2.tasks[i]?).map (fun t => t.left) = if (i : Int) = k then (W.tasks[i]?).map (fun t => t.left.tail) else (W.tasks[i]?).map (fun t => t.left) := by
  by_cases hk : k < 0 ∨ (W.tasks.length : Int) ≤ k
  · rw [pstep_no hk]
    refine ⟨h, by simp, .inr (.inl rfl), rfl, fun i => ?_⟩
    by_cases e : (i : Int) = k
    · have e2 : W.tasks[i]? = none := List.getElem?_eq_none (by omega)
      rw [if_pos e, e2]; rfl
    · rw [if_neg e]
  obtain ⟨j, rfl⟩ : ∃ j : Nat, k = (j : Int) := ⟨k.toNat, by omega⟩
  have hjl : j < W.tasks.length := by omega
  obtain ⟨t, ht⟩ : ∃ t, W.tasks[j]? = some t := ⟨_, List.getElem?_eq_getElem hjl⟩
  cases hl : t.left with
  | nil =>
    rw [pstep_nil ht hl]
    refine ⟨h, by simp, .inr (.inr rfl), rfl, fun i => ?_⟩
    by_cases e : (i : Int) = (j : Int)
    · obtain rfl : i = j := by omega
      rw [if_pos rfl, ht]; simp [hl]
    · rw [if_neg e]
  | cons o r =>
    obtain ⟨hops, hlen⟩ := h.ops t (List.mem_of_getElem? ht)
    have ho := hops o (by rw [hl]; exact .head _)
    have hf := isAdd_free (W := W) ho
    obtain ⟨hk5, ha⟩ := ho
    obtain ⟨x0, x1, hw, hx0, hx1, hs0, hs1⟩ := h.words
    have hr0 := restOf_set 0 ht { t with left := r }
    have hr1 := restOf_set 1 ht { t with left := r }
    simp only [hl, addOf] at hr0 hr1
    have hw2 : ∃ y0 y1, W.words.set o.a.toNat (w32 (W.words.getD o.a.toNat 0 + w32 o.b)) = [y0, y1] ∧ In32 y0 ∧ In32 y1 ∧ w32 (y0 + restOf 0 (W.tasks.set j { t with left := r })) = S0 ∧ w32 (y1 + restOf 1 (W.tasks.set j { t with left := r })) = S1 := by
      rw [hr0, hr1, hw]
      rcases ha with ha | ha
      · rw [ha] at hr0 hr1 ⊢
        refine ⟨w32 (x0 + w32 o.b), x1, rfl, in32_w32 _, hx1, ?_, ?_⟩
        · rw [if_pos rfl, w32_add, Int.add_assoc, Int.add_comm (w32 o.b), ← Int.add_assoc, w32_add', ← hs0]
          congr 1; omega
        · rw [if_neg (by decide), ← hs1]; congr 1; omega
      · rw [ha] at hr0 hr1 ⊢
        refine ⟨x0, w32 (x1 + w32 o.b), rfl, hx0, in32_w32 _, ?_, ?_⟩
        · rw [if_neg (by decide), ← hs0]; congr 1; omega
        · rw [if_pos rfl, w32_add, Int.add_assoc, Int.add_comm (w32 o.b), ← Int.add_assoc, w32_add', ← hs1]
          congr 1; omega
    have hd : doF (setT W j { t with left := r }) j { t with left := r } o = (0, { setT W j { t with left := r } with words := W.words.set o.a.toNat (w32 (W.words.getD o.a.toNat 0 + w32 o.b)) }) := by
      simp only [doF, hk5]
      simp [setT]
    rw [pstep_run ht hl hf hd]
    refine ⟨⟨h.locks, h.pipes, hw2, fun t' ht' => ?_⟩, ?_, .inl rfl, by simp [setT], fun i => ?_⟩
    · rcases List.mem_or_eq_of_mem_set ht' with ht' | rfl
      · exact h.ops t' ht'
      · refine ⟨fun o' ho' => hops o' (by rw [hl]; exact .tail _ ho'), ?_⟩
        rw [hl] at hlen
        simp only [List.length_cons] at hlen
        show r.length ≤ 30
        omega
    · show stateF { setT W j { t with left := r } with words := W.words.set o.a.toNat (w32 (W.words.getD o.a.toNat 0 + w32 o.b)) } (j : Int) ≠ 2
      rw [stateF_at (W := { setT W j { t with left := r } with words := W.words.set o.a.toNat (w32 (W.words.getD o.a.toNat 0 + w32 o.b)) }) (t := { t with left := r }) (setT_at ht)]
      unfold stateT
      cases hrr : r with
      | nil => simp
      | cons o2 r2 =>
        have hf2 : ∀ X : Wd, waitsB X o2 = false := fun X => isAdd_free (hops o2 (by rw [hl, hrr]; exact .tail _ (.head _)))
        show (if waitsB _ o2 then (2 : Int) else 1) ≠ 2
        rw [hf2]
        decide
    · show ((W.tasks.set j { t with left := r })[i]?).map _ = _
      rw [tasks_set hjl]
      by_cases hij : i = j
      · subst hij
        rw [if_pos rfl, if_pos rfl, ht]; simp [hl]
      · rw [if_neg hij, if_neg (by omega)]
/-- Nobody waits. -/
theorem WInv.state {W : Wd} {S0 S1 : Int} (h : WInv W S0 S1) (i : Nat) : stateF W i ≠ 2 := by
  by_cases hi : i < W.tasks.length
  · obtain ⟨t, ht⟩ : ∃ t, W.tasks[i]? = some t := ⟨_, List.getElem?_eq_getElem hi⟩
    rw [stateF_at ht]
    rcases stateT_cases W t with ⟨_, h2⟩ | ⟨o, r, h1, h3, h2⟩ | ⟨o, r, _, _, h2⟩
    · rw [h2]; decide
    · rw [isAdd_free ((h.ops t (List.mem_of_getElem? ht)).1 o (by rw [h1]; exact .head _))] at h3
      cases h3
    · rw [h2]; decide
  · rw [stateF_no (.inr (by omega))]; decide
theorem WInv.stuck {W : Wd} {S0 S1 : Int} (h : WInv W S0 S1) : stuckF W = false := stuck_no (.inr fun i _ => h.state i)
theorem restOf_done (k : Int) : ∀ {l : List Thr}, (∀ t ∈ l, t.left = []) → restOf k l = 0
  | [], _ => rfl
  | t :: r, h => by
    simp only [restOf, h t (.head _), restOf_done k (l := r) (fun t ht => h t (.tail _ ht)), addOf]; rfl
/-- All done: each word has its sum. -/
theorem WInv.done {W : Wd} {S0 S1 : Int} (h : WInv W S0 S1) (hd : ∀ t ∈ W.tasks, t.left = []) : wordF W 0 = S0 ∧ wordF W 1 = S1 := by
  obtain ⟨x0, x1, hw, hx0, hx1, hs0, hs1⟩ := h.words
  rw [restOf_done 0 hd, Int.add_zero, w32_id hx0.1 hx0.2] at hs0
  rw [restOf_done 1 hd, Int.add_zero, w32_id hx1.1 hx1.2] at hs1
  unfold wordF
  rw [hw]
  exact ⟨hs0, hs1⟩
/-- A task more. -/
theorem WInv.start {W : Wd} {S0 S1 : Int} (hL : W.locks = 0) (hP : W.pipes = []) (hW : W.words = [0, 0]) (hn : W.tasks.length < 64) (ho : ∀ t ∈ W.tasks, (∀ o ∈ t.left, IsAdd o) ∧ t.left.length ≤ 30) {l : List Op3} (hl : (∀ o ∈ l, IsAdd o) ∧ l.length ≤ 30) :
    startF W l = ((W.tasks.length : Int), 0, { W with tasks := W.tasks ++ [⟨l, 0⟩] }) := by
  have ha : l.all (mayB W) = true := by
    rw [List.all_eq_true]
    intro o hm
    obtain ⟨h1, h2⟩ := hl.1 o hm
    unfold mayB
    rw [h1, if_neg (by decide), if_neg (by decide), if_pos (by decide), hW]
    rcases h2 with h2 | h2 <;> simp [h2]
  unfold startF
  rw [if_neg (by omega), ha, if_neg (by decide), if_neg (by omega)]
/-- Behind the first tasks of the last round, and some steps of the next one. -/
def Left (W : Wd) (i k : Nat) : Prop := (∀ j : Nat, j < i → ∀ t, W.tasks[j]? = some t → t.left = []) ∧ ∀ t, W.tasks[i]? = some t → t.left.length ≤ 30 - k
theorem Left.step {W W' : Wd} {i k : Nat} (h : Left W i k) (hs : ∀ a : Nat, (W'.tasks[a]?).map (fun t => t.left) = if (a : Int) = (i : Int) then (W.tasks[a]?).map (fun t => t.left.tail) else (W.tasks[a]?).map (fun t => t.left)) : Left W' i (k + 1) := by
  refine ⟨fun j hj t ht => ?_, fun t ht => ?_⟩
  · have := hs j
    rw [ht, if_neg (by omega)] at this
    cases hw : W.tasks[j]? with
    | none => rw [hw] at this; cases this
    | some u =>
      rw [hw] at this
      simp only [Option.map_some, Option.some.injEq] at this
      rw [this]; exact h.1 j hj u hw
  · have := hs i
    rw [ht, if_pos rfl] at this
    cases hw : W.tasks[i]? with
    | none => rw [hw] at this; cases this
    | some u =>
      rw [hw] at this
      simp only [Option.map_some, Option.some.injEq] at this
      have h2 := h.2 u hw
      rw [this, List.length_tail]; omega
theorem Left.next {W : Wd} {i : Nat} (h : Left W i 31) {S0 S1 : Int} (hi : WInv W S0 S1) : Left W (i + 1) 0 := by
  refine ⟨fun j hj t ht => ?_, fun t ht => (hi.ops t (List.mem_of_getElem? ht)).2⟩
  by_cases e : j = i
  · subst e
    have := h.2 t ht
    exact List.eq_nil_of_length_eq_zero (by omega)
  · exact h.1 j (by omega) t ht
theorem Left.zero {W : Wd} {S0 S1 : Int} (hi : WInv W S0 S1) : Left W 0 0 := ⟨fun j hj => absurd hj (by omega), fun t ht => (hi.ops t (List.mem_of_getElem? ht)).2⟩
theorem Left.all {W : Wd} {k : Nat} (h : Left W W.tasks.length k) : ∀ t ∈ W.tasks, t.left = [] := fun t ht => by
  obtain ⟨j, hj⟩ := List.mem_iff_getElem?.1 ht
  exact h.1 j (List.getElem?_eq_some_iff.1 hj).1 t hj
end Go.Proofs.Ytgdjbmfpbihopaa
