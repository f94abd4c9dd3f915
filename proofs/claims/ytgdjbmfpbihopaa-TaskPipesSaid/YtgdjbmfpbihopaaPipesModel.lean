/-
  TaskPipes in plain words: one sends, one takes, over one channel. No program here. No conditions.
-/
import Derived.Test.YtgdjbmfpbihopaaPlain
namespace Go.Proofs.Ytgdjbmfpbihopaa
set_option linter.unusedVariables false
set_option linter.unusedSimpArgs false

def sends (l : List Int) : List Op3 := l.map fun x => ⟨3, 0, x⟩
def recvs (n : Nat) : List Op3 := List.replicate n ⟨4, 0, 0⟩
def sumL : List Int → Int
  | [] => 0
  | x :: r => x + sumL r
theorem sumL_app : ∀ (l m : List Int), sumL (l ++ m) = sumL l + sumL m
  | [], m => by simp [sumL]
  | x :: r, m => by simp only [List.cons_append, sumL, sumL_app r m]; omega
/-- i were sent, j of them were taken. -/
def pipeW (size : Int) (N : List Int) (i j : Nat) : Wd :=
  ⟨0, fun _ => none, [], [⟨((N.drop j).take (i - j)).map w32, size⟩], [⟨sends (N.drop i), 0⟩, ⟨recvs (N.length - j), w32 (sumL (N.take j))⟩]⟩
structure PIx (size : Int) (N : List Int) (i j : Nat) : Prop where
  s1 : 1 ≤ size
  ji : j ≤ i
  iN : i ≤ N.length
  full : (i : Int) - j ≤ size
theorem pipe_len {N : List Int} {i j : Nat} (hi : i ≤ N.length) (hj : j ≤ i) : (((N.drop j).take (i - j)).map w32).length = i - j := by
  rw [List.length_map, List.length_take, List.length_drop]; omega
theorem w32_add (a b : Int) : w32 (w32 a + b) = w32 (a + b) := by unfold w32; omega
theorem w32_add' (a b : Int) : w32 (a + w32 b) = w32 (a + b) := by unfold w32; omega
theorem pipe_w0 {size : Int} {N : List Int} {i j : Nat} (h : PIx size N i j) (x : Int) : waitsB (pipeW size N i j) ⟨3, 0, x⟩ = decide ((i : Int) - j = size) := by
  have e : waitsB (pipeW size N i j) ⟨3, 0, x⟩ = decide (size ≤ ((((N.drop j).take (i - j)).map w32).length : Int)) := rfl
  rw [e, pipe_len h.iN h.ji, Bool.eq_iff_iff]
  have := h.full
  have := h.ji
  simp
  omega
theorem pipe_w1 {size : Int} {N : List Int} {i j : Nat} (h : PIx size N i j) : waitsB (pipeW size N i j) ⟨4, 0, 0⟩ = decide (i = j) := by
  have e : waitsB (pipeW size N i j) ⟨4, 0, 0⟩ = decide ((((N.drop j).take (i - j)).map w32).length = 0) := rfl
  rw [e, pipe_len h.iN h.ji, Bool.eq_iff_iff]
  have := h.ji
  simp
  omega
/-- The sender's state. -/
theorem pipe_state0 {size : Int} {N : List Int} {i j : Nat} (h : PIx size N i j) : stateF (pipeW size N i j) 0 = if i = N.length then 3 else if (i : Int) - j = size then 2 else 1 := by
  have h0 : (pipeW size N i j).tasks[0]? = some ⟨sends (N.drop i), 0⟩ := rfl
  have := stateF_at (W := pipeW size N i j) (k := 0) h0
  rw [show ((0 : Nat) : Int) = 0 from rfl] at this
  rw [this]
  unfold stateT
  by_cases hi : i = N.length
  · rw [if_pos hi, hi, List.drop_length]; rfl
  · rw [if_neg hi]
    obtain ⟨x, hx⟩ : ∃ x, N[i]? = some x := ⟨_, List.getElem?_eq_getElem (by have := h.iN; omega)⟩
    have hd : N.drop i = x :: N.drop (i + 1) := by
      rw [List.drop_eq_getElem_cons (by have := h.iN; omega)]
      rw [List.getElem?_eq_getElem (by have := h.iN; omega)] at hx
      rw [Option.some.inj hx]
    rw [hd]
    show (if waitsB (pipeW size N i j) ⟨3, 0, x⟩ then (2 : Int) else 1) = _
    have hw := pipe_w0 h x
    rw [hw]
    by_cases hf : (i : Int) - j = size
    · simp [hf]
    · simp [hf]
/-- The taker's state. -/
theorem pipe_state1 {size : Int} {N : List Int} {i j : Nat} (h : PIx size N i j) : stateF (pipeW size N i j) 1 = if j = N.length then 3 else if i = j then 2 else 1 := by
  have h0 : (pipeW size N i j).tasks[1]? = some ⟨recvs (N.length - j), w32 (sumL (N.take j))⟩ := rfl
  have := stateF_at (W := pipeW size N i j) (k := 1) h0
  rw [show ((1 : Nat) : Int) = 1 from rfl] at this
  rw [this]
  unfold stateT
  by_cases hj : j = N.length
  · rw [if_pos hj, hj, Nat.sub_self]; rfl
  · rw [if_neg hj]
    obtain ⟨m, hm⟩ : ∃ m, N.length - j = m + 1 := ⟨N.length - j - 1, by have := h.iN; have := h.ji; omega⟩
    rw [hm]
    show (if waitsB (pipeW size N i j) ⟨4, 0, 0⟩ then (2 : Int) else 1) = _
    have hw := pipe_w1 h
    rw [hw]
    by_cases hf : i = j
    · simp [hf]
    · simp [hf]
theorem pipe_stuck {size : Int} {N : List Int} {i j : Nat} (h : PIx size N i j) : stuckF (pipeW size N i j) = false := by
  have s0 := pipe_state0 h
  have s1 := pipe_state1 h
  have h1 := h.s1
  have h2 := h.ji
  have h3 := h.iN
  have h4 := h.full
  by_cases hi : i = N.length
  · by_cases hj : j = N.length
    · refine stuck_no (.inr fun k hk => ?_)
      have hk2 : k < 2 := hk
      rcases (show k = 0 ∨ k = 1 by omega) with rfl | rfl
      · show stateF _ 0 ≠ 2
        rw [s0, if_pos hi]; decide
      · show stateF _ 1 ≠ 2
        rw [s1, if_pos hj]; decide
    · refine stuck_no (.inl ⟨1, by show 1 < 2; omega, ?_⟩)
      show stateF _ 1 = 1
      rw [s1, if_neg hj, if_neg (by omega)]
  · by_cases hf : (i : Int) - j = size
    · refine stuck_no (.inl ⟨1, by show 1 < 2; omega, ?_⟩)
      show stateF _ 1 = 1
      rw [s1, if_neg (by omega), if_neg (by omega)]
    · refine stuck_no (.inl ⟨0, by show 0 < 2; omega, ?_⟩)
      show stateF _ 0 = 1
      rw [s0, if_neg hi, if_neg hf]
theorem pipe_step0 {size : Int} {N : List Int} {i j : Nat} (h : PIx size N i j) :
    (stateF (pipeW size N i j) 0 = 1 → (stepF (pipeW size N i j) 0).2 = (0, pipeW size N (i + 1) j) ∧ PIx size N (i + 1) j) ∧
    (stateF (pipeW size N i j) 0 = 2 → (stepF (pipeW size N i j) 0).2 = (0, pipeW size N i j)) ∧
    (stateF (pipeW size N i j) 0 = 3 → (stepF (pipeW size N i j) 0).2 = (16, pipeW size N i j)) := by
  have s0 := pipe_state0 h
  have h1 := h.s1
  have h2 := h.ji
  have h3 := h.iN
  have h4 := h.full
  have ht : (pipeW size N i j).tasks[0]? = some ⟨sends (N.drop i), 0⟩ := rfl
  by_cases hi : i = N.length
  · rw [if_pos hi] at s0
    have hl : sends (N.drop i) = [] := by rw [hi, List.drop_length]; rfl
    have e := pstep_nil (W := pipeW size N i j) (i := 0) ht hl
    rw [show ((0 : Nat) : Int) = 0 from rfl] at e
    rw [s0, e]
    exact ⟨fun q => absurd q (by decide), fun q => absurd q (by decide), fun _ => rfl⟩
  · rw [if_neg hi] at s0
    obtain ⟨x, hx⟩ : ∃ x, N[i]? = some x := ⟨_, List.getElem?_eq_getElem (by omega)⟩
    have hd : N.drop i = x :: N.drop (i + 1) := by
      rw [List.drop_eq_getElem_cons (by omega)]
      rw [List.getElem?_eq_getElem (by omega)] at hx
      rw [Option.some.inj hx]
    have hl : sends (N.drop i) = ⟨3, 0, x⟩ :: sends (N.drop (i + 1)) := by rw [hd]; rfl
    have hw := pipe_w0 h x
    by_cases hf : (i : Int) - j = size
    · rw [if_pos hf] at s0
      have e := pstep_wait (W := pipeW size N i j) (i := 0) ht hl (by rw [hw]; simpa using hf)
      rw [show ((0 : Nat) : Int) = 0 from rfl] at e
      rw [s0, e]
      exact ⟨fun q => absurd q (by decide), fun _ => rfl, fun q => absurd q (by decide)⟩
    · rw [if_neg hf] at s0
      have hq : ((N.drop j).take (i - j)).map w32 ++ [w32 x] = ((N.drop j).take (i + 1 - j)).map w32 := by
        rw [show i + 1 - j = (i - j) + 1 by omega, List.take_add_one, List.map_append, List.getElem?_drop, show j + (i - j) = i by omega, hx]
        rfl
      have hdo : doF (setT (pipeW size N i j) 0 ⟨sends (N.drop (i + 1)), 0⟩) 0 ⟨sends (N.drop (i + 1)), 0⟩ ⟨3, 0, x⟩ = (0, pipeW size N (i + 1) j) := by
        have : doF (setT (pipeW size N i j) 0 ⟨sends (N.drop (i + 1)), 0⟩) 0 ⟨sends (N.drop (i + 1)), 0⟩ ⟨3, 0, x⟩ = (0, setP (setT (pipeW size N i j) 0 ⟨sends (N.drop (i + 1)), 0⟩) 0 ⟨((N.drop j).take (i - j)).map w32 ++ [w32 x], size⟩) := rfl
        rw [this, hq]
        rfl
      have e := pstep_run (W := pipeW size N i j) (i := 0) ht hl (by rw [hw]; simpa using hf) hdo
      rw [show ((0 : Nat) : Int) = 0 from rfl] at e
      rw [s0, e]
      exact ⟨fun _ => ⟨rfl, ⟨h1, by omega, by omega, by omega⟩⟩, fun q => absurd q (by decide), fun q => absurd q (by decide)⟩
theorem pipe_step1 {size : Int} {N : List Int} {i j : Nat} (h : PIx size N i j) :
    (stateF (pipeW size N i j) 1 = 1 → (stepF (pipeW size N i j) 1).2 = (0, pipeW size N i (j + 1)) ∧ PIx size N i (j + 1)) ∧
    (stateF (pipeW size N i j) 1 = 2 → (stepF (pipeW size N i j) 1).2 = (0, pipeW size N i j)) ∧
    (stateF (pipeW size N i j) 1 = 3 → (stepF (pipeW size N i j) 1).2 = (16, pipeW size N i j)) := by
  have s1 := pipe_state1 h
  have h1 := h.s1
  have h2 := h.ji
  have h3 := h.iN
  have h4 := h.full
  have ht : (pipeW size N i j).tasks[1]? = some ⟨recvs (N.length - j), w32 (sumL (N.take j))⟩ := rfl
  by_cases hj : j = N.length
  · rw [if_pos hj] at s1
    have hl : recvs (N.length - j) = [] := by rw [hj, Nat.sub_self]; rfl
    have e := pstep_nil (W := pipeW size N i j) (i := 1) ht hl
    rw [show ((1 : Nat) : Int) = 1 from rfl] at e
    rw [s1, e]
    exact ⟨fun q => absurd q (by decide), fun q => absurd q (by decide), fun _ => rfl⟩
  · rw [if_neg hj] at s1
    have hl : recvs (N.length - j) = ⟨4, 0, 0⟩ :: recvs (N.length - (j + 1)) := by
      rw [show N.length - j = (N.length - (j + 1)) + 1 by omega]; rfl
    have hw := pipe_w1 h
    by_cases hf : i = j
    · rw [if_pos hf] at s1
      have e := pstep_wait (W := pipeW size N i j) (i := 1) ht hl (by rw [hw]; simpa using hf)
      rw [show ((1 : Nat) : Int) = 1 from rfl] at e
      rw [s1, e]
      exact ⟨fun q => absurd q (by decide), fun _ => rfl, fun q => absurd q (by decide)⟩
    · rw [if_neg hf] at s1
      obtain ⟨x, hx⟩ : ∃ x, N[j]? = some x := ⟨_, List.getElem?_eq_getElem (by omega)⟩
      have hd : N.drop j = x :: N.drop (j + 1) := by
        rw [List.drop_eq_getElem_cons (by omega)]
        rw [List.getElem?_eq_getElem (by omega)] at hx
        rw [Option.some.inj hx]
      have hq : ((N.drop j).take (i - j)).map w32 = w32 x :: ((N.drop (j + 1)).take (i - (j + 1))).map w32 := by
        rw [hd, show i - j = (i - (j + 1)) + 1 by omega]; rfl
      have hs : w32 (w32 (sumL (N.take j)) + w32 x) = w32 (sumL (N.take (j + 1))) := by
        rw [w32_add, w32_add', List.take_add_one, hx, sumL_app]
        simp [sumL]
      have hdo : doF (setT (pipeW size N i j) 1 ⟨recvs (N.length - (j + 1)), w32 (sumL (N.take j))⟩) 1 ⟨recvs (N.length - (j + 1)), w32 (sumL (N.take j))⟩ ⟨4, 0, 0⟩ = (0, pipeW size N i (j + 1)) := by
        have : doF (setT (pipeW size N i j) 1 ⟨recvs (N.length - (j + 1)), w32 (sumL (N.take j))⟩) 1 ⟨recvs (N.length - (j + 1)), w32 (sumL (N.take j))⟩ ⟨4, 0, 0⟩ =
            (0, setP (setT (setT (pipeW size N i j) 1 ⟨recvs (N.length - (j + 1)), w32 (sumL (N.take j))⟩) 1 ⟨recvs (N.length - (j + 1)), w32 (w32 (sumL (N.take j)) + (((N.drop j).take (i - j)).map w32).headD 0)⟩) 0 ⟨(((N.drop j).take (i - j)).map w32).tail, size⟩) := rfl
        rw [this, hq, List.headD_cons, List.tail_cons, hs]
        rfl
      have e := pstep_run (W := pipeW size N i j) (i := 1) ht hl (by rw [hw]; simpa using hf) hdo
      rw [show ((1 : Nat) : Int) = 1 from rfl] at e
      rw [s1, e]
      exact ⟨fun _ => ⟨rfl, ⟨h1, by omega, h3, by omega⟩⟩, fun q => absurd q (by decide), fun q => absurd q (by decide)⟩
/-- What one call of the statement's own closure can do to what was sent and taken. -/
def PCase (s c k : Int) (i j i' j' : Nat) : Prop :=
  (s = 1 ∧ c = 0 ∧ ((k = 0 ∧ i' = i + 1 ∧ j' = j) ∨ (k = 1 ∧ i' = i ∧ j' = j + 1))) ∨ (s = 2 ∧ c = 0 ∧ i' = i ∧ j' = j) ∨ (s = 3 ∧ c = 16 ∧ i' = i ∧ j' = j)
/-- What one call of the statement's own closure does to what was sent and taken. -/
theorem pipe_both {size : Int} {N : List Int} {i j : Nat} (h : PIx size N i j) (k : Int) (hk : k = 0 ∨ k = 1) : ∃ s c i' j', stateF (pipeW size N i j) k = s ∧ (stepF (pipeW size N i j) k).2 = (c, pipeW size N i' j') ∧ PIx size N i' j' ∧
    PCase s c k i j i' j' := by
  rcases hk with rfl | rfl
  · have s0 := pipe_state0 h
    obtain ⟨h1, h2, h3⟩ := pipe_step0 h
    by_cases hi : i = N.length
    · rw [if_pos hi] at s0
      exact ⟨3, 16, i, j, s0, h3 s0, h, Or.inr (.inr ⟨rfl, rfl, rfl, rfl⟩)⟩
    · rw [if_neg hi] at s0
      by_cases hf : (i : Int) - j = size
      · rw [if_pos hf] at s0
        exact ⟨2, 0, i, j, s0, h2 s0, h, Or.inr (.inl ⟨rfl, rfl, rfl, rfl⟩)⟩
      · rw [if_neg hf] at s0
        exact ⟨1, 0, i + 1, j, s0, (h1 s0).1, (h1 s0).2, Or.inl ⟨rfl, rfl, .inl ⟨rfl, rfl, rfl⟩⟩⟩
  · have s0 := pipe_state1 h
    obtain ⟨h1, h2, h3⟩ := pipe_step1 h
    by_cases hi : j = N.length
    · rw [if_pos hi] at s0
      exact ⟨3, 16, i, j, s0, h3 s0, h, Or.inr (.inr ⟨rfl, rfl, rfl, rfl⟩)⟩
    · rw [if_neg hi] at s0
      by_cases hf : i = j
      · rw [if_pos hf] at s0
        exact ⟨2, 0, i, j, s0, h2 s0, h, Or.inr (.inl ⟨rfl, rfl, rfl, rfl⟩)⟩
      · rw [if_neg hf] at s0
        exact ⟨1, 0, i, j + 1, s0, (h1 s0).1, (h1 s0).2, Or.inl ⟨rfl, rfl, .inr ⟨rfl, rfl, rfl⟩⟩⟩
/-- A round of both: less is left, unless nothing was. -/
theorem pipe_round {size : Int} {N : List Int} {i j i1 j1 i2 j2 : Nat} (h : PIx size N i j) (h1 : PIx size N i1 j1) {s c s' c' : Int} (e0 : stateF (pipeW size N i j) 0 = s)
    (a : PCase s c 0 i j i1 j1) (e1 : stateF (pipeW size N i1 j1) 1 = s')
    (b : PCase s' c' 1 i1 j1 i2 j2) {r : Nat} (hm : (N.length - i) + (N.length - j) ≤ 80 - r) (hn : N.length ≤ 40) :
    (N.length - i2) + (N.length - j2) ≤ 80 - (r + 1) := by
  unfold PCase at a b
  rw [pipe_state0 h] at e0
  rw [pipe_state1 h1] at e1
  have q1 := h.ji
  have q2 := h.iN
  have q3 := h.s1
  have q4 := h1.ji
  have q5 := h1.iN
  rcases a with ⟨rfl, _, ⟨_, rfl, rfl⟩ | ⟨h0, _⟩⟩ | ⟨rfl, _, rfl, rfl⟩ | ⟨rfl, _, rfl, rfl⟩
  · rcases b with ⟨_, _, ⟨h0, _⟩ | ⟨_, rfl, rfl⟩⟩ | ⟨_, _, rfl, rfl⟩ | ⟨_, _, rfl, rfl⟩
    · exact absurd h0 (by decide)
    · omega
    · omega
    · omega
  · exact absurd h0 (by decide)
  · by_cases hi : i1 = N.length
    · rw [if_pos hi] at e0; exact absurd e0 (by decide)
    rw [if_neg hi] at e0
    by_cases hf : (i1 : Int) - j1 = size
    · have hne : ¬ j1 = N.length := by omega
      rw [if_neg hne, if_neg (by omega)] at e1
      subst e1
      rcases b with ⟨_, _, ⟨h0, _⟩ | ⟨_, rfl, rfl⟩⟩ | ⟨h0, _⟩ | ⟨h0, _⟩
      · exact absurd h0 (by decide)
      · omega
      · exact absurd h0 (by decide)
      · exact absurd h0 (by decide)
    · rw [if_neg hf] at e0; exact absurd e0 (by decide)
  · by_cases hi : i1 = N.length
    · by_cases hj : j1 = N.length
      · rcases b with ⟨_, _, ⟨h0, _⟩ | ⟨_, rfl, rfl⟩⟩ | ⟨_, _, rfl, rfl⟩ | ⟨_, _, rfl, rfl⟩
        · exact absurd h0 (by decide)
        · omega
        · omega
        · omega
      · rw [if_neg hj, if_neg (by omega)] at e1
        subst e1
        rcases b with ⟨_, _, ⟨h0, _⟩ | ⟨_, rfl, rfl⟩⟩ | ⟨h0, _⟩ | ⟨h0, _⟩
        · exact absurd h0 (by decide)
        · omega
        · exact absurd h0 (by decide)
        · exact absurd h0 (by decide)
    · rw [if_neg hi] at e0
      by_cases hf : (i1 : Int) - j1 = size
      · rw [if_pos hf] at e0; exact absurd e0 (by decide)
      · rw [if_neg hf] at e0; exact absurd e0 (by decide)
/-- At the end. -/
theorem pipe_end {size : Int} {N : List Int} {i j : Nat} (h : PIx size N i j) (hm : (N.length - i) + (N.length - j) ≤ 0) : stateF (pipeW size N i j) 0 = 3 ∧ stateF (pipeW size N i j) 1 = 3 ∧ hasF (pipeW size N i j) 1 = w32 (sumL N) := by
  have q1 := h.ji
  have q2 := h.iN
  have hj : j = N.length := by omega
  have hi : i = N.length := by omega
  refine ⟨by rw [pipe_state0 h, if_pos hi], by rw [pipe_state1 h, if_pos hj], ?_⟩
  have : hasF (pipeW size N i j) 1 = w32 (sumL (N.take j)) := rfl
  rw [this, hj, List.take_length]
/-- How it starts. -/
theorem pipe_start {size : Int} {N : List Int} (hs : 1 ≤ size ∧ size ≤ 64) (hn : N.length ≤ 40) : newCode 0 0 [size] = 0 ∧
    startF (newW 0 0 [size]) (sends N) = (0, 0, { newW 0 0 [size] with tasks := [⟨sends N, 0⟩] }) ∧ startF { newW 0 0 [size] with tasks := [⟨sends N, 0⟩] } (recvs N.length) = (1, 0, pipeW size N 0 0) ∧ PIx size N 0 0 := by
  have ha1 : (sends N).all (mayB (newW 0 0 [size])) = true := by
    rw [List.all_eq_true]
    intro o ho
    obtain ⟨x, _, rfl⟩ := List.mem_map.1 ho
    rfl
  have ha2 : (recvs N.length).all (mayB { newW 0 0 [size] with tasks := [⟨sends N, 0⟩] }) = true := by
    rw [List.all_eq_true]
    intro o ho
    obtain ⟨_, rfl⟩ := List.mem_replicate.1 ho
    rfl
  have hl1 : (sends N).length = N.length := by simp [sends]
  have hl2 : (recvs N.length).length = N.length := by simp [recvs]
  refine ⟨?_, ?_, ?_, ⟨hs.1, Nat.le_refl _, Nat.zero_le _, by omega⟩⟩
  · unfold newCode
    rw [if_neg (by simp)]
    simp [hs.1, hs.2]
  · unfold startF
    rw [if_neg (by simp [newW]), ha1, if_neg (by decide), if_neg (by omega)]
    rfl
  · unfold startF
    rw [if_neg (by simp), ha2, if_neg (by decide), if_neg (by omega)]
    have e : pipeW size N 0 0 = { newW 0 0 [size] with tasks := [⟨sends N, 0⟩, ⟨recvs N.length, 0⟩] } := by
      simp [pipeW, newW, sumL, w32]
    rw [e]
    rfl
end Go.Proofs.Ytgdjbmfpbihopaa
