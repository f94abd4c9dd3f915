/-
  A sort by swaps. No program here. No conditions.
-/
import Derived.Test.YthhaaakabpnbnaaRefFacts
namespace Go.Proofs.Ythhaaakabpnbnaa
set_option linter.unusedVariables false
set_option linter.unusedSimpArgs false

/-- The first i places hold what is least, rising. -/
def Pre (i : Nat) (E : List Int) : Prop := ∀ (a b : Nat) (x y : Int), a < i → a ≤ b → E[a]? = some x → E[b]? = some y → x ≤ y
/-- Place i is not above the places behind it, up to k. -/
def Low (i k : Nat) (E : List Int) : Prop := ∀ (b : Nat) (x y : Int), i < b → b < k → E[i]? = some x → E[b]? = some y → x ≤ y
def swap (E : List Int) (i k : Nat) (x y : Int) : List Int := (E.set i y).set k x
theorem swap_len (E : List Int) (i k : Nat) (x y : Int) : (swap E i k x y).length = E.length := by simp [swap]
theorem swap_at {E : List Int} {i k : Nat} {x y : Int} (hi : E[i]? = some x) (hk : E[k]? = some y) (hik : i < k) (b : Nat) : (swap E i k x y)[b]? = if b = k then some x else if b = i then some y else E[b]? := by
  have h1 := (List.getElem?_eq_some_iff.1 hi).1
  have h2 := (List.getElem?_eq_some_iff.1 hk).1
  unfold swap
  rw [List.getElem?_set, List.getElem?_set]
  by_cases e1 : k = b
  · subst e1
    rw [if_pos rfl, if_pos rfl, if_pos (by rw [List.length_set]; exact h2)]
  · rw [if_neg e1, if_neg (show ¬ b = k from fun q => e1 q.symm)]
    by_cases e2 : i = b
    · subst e2
      rw [if_pos rfl, if_pos rfl, if_pos h1]
    · rw [if_neg e2, if_neg (show ¬ b = i from fun q => e2 q.symm)]
theorem swap_mem {E : List Int} {i k : Nat} {x y : Int} (hi : E[i]? = some x) (hk : E[k]? = some y) (hik : i < k) (z : Int) : z ∈ swap E i k x y ↔ z ∈ E := by
  rw [List.mem_iff_getElem?, List.mem_iff_getElem?]
  constructor
  · rintro ⟨b, hb⟩
    rw [swap_at hi hk hik] at hb
    split at hb
    · exact ⟨i, by rw [hi]; exact hb⟩
    · split at hb
      · exact ⟨k, by rw [hk]; exact hb⟩
      · exact ⟨b, hb⟩
  · rintro ⟨b, hb⟩
    by_cases e1 : b = k
    · subst e1
      exact ⟨i, by rw [swap_at hi hk hik, if_neg (by omega), if_pos rfl, ← hb, hk]⟩
    · by_cases e2 : b = i
      · subst e2
        exact ⟨k, by rw [swap_at hi hk hik, if_pos rfl, ← hb, hi]⟩
      · exact ⟨b, by rw [swap_at hi hk hik, if_neg e1, if_neg e2]; exact hb⟩
theorem swap_pre {E : List Int} {i k : Nat} {x y : Int} (hi : E[i]? = some x) (hk : E[k]? = some y) (hik : i < k) (h : Pre i E) : Pre i (swap E i k x y) := by
  intro a b u v ha hab hu hv
  rw [swap_at hi hk hik, if_neg (by omega), if_neg (by omega)] at hu
  rw [swap_at hi hk hik] at hv
  split at hv
  · exact h a i u v ha (by omega) hu (by rw [hi]; exact hv)
  · split at hv
    · exact h a k u v ha (by omega) hu (by rw [hk]; exact hv)
    · exact h a b u v ha hab hu hv
theorem swap_low {E : List Int} {i k : Nat} {x y : Int} (hi : E[i]? = some x) (hk : E[k]? = some y) (hik : i < k) (hyx : y < x) (h : Low i k E) : Low i (k + 1) (swap E i k x y) := by
  intro b u v hb hbk hu hv
  rw [swap_at hi hk hik, if_neg (by omega), if_pos rfl] at hu
  obtain rfl := Option.some.inj hu
  rw [swap_at hi hk hik] at hv
  split at hv
  · obtain rfl := Option.some.inj hv
    omega
  · rw [if_neg (by omega)] at hv
    have := h b x v hb (by omega) hi hv
    omega
theorem low_next {E : List Int} {i k : Nat} {x y : Int} (hi : E[i]? = some x) (hk : E[k]? = some y) (hyx : ¬ y < x) (h : Low i k E) : Low i (k + 1) E := by
  intro b u v hb hbk hu hv
  by_cases e : b = k
  · subst e
    rw [hi] at hu
    rw [hk] at hv
    obtain rfl := Option.some.inj hu
    obtain rfl := Option.some.inj hv
    omega
  · exact h b u v hb (by omega) hu hv
theorem low_start (E : List Int) (i : Nat) : Low i (i + 1) E := fun b u v hb hbk => by omega
theorem pre_next {E : List Int} {i : Nat} (h : Pre i E) (hl : Low i E.length E) : Pre (i + 1) E := by
  intro a b u v ha hab hu hv
  by_cases e : a = i
  · subst e
    by_cases e2 : a = b
    · subst e2
      rw [hu] at hv
      obtain rfl := Option.some.inj hv
      exact Int.le_refl _
    · exact hl b u v (by omega) (List.getElem?_eq_some_iff.1 hv).1 hu hv
  · exact h a b u v (by omega) hab hu hv
theorem pre_start (E : List Int) : Pre 0 E := fun a b u v ha => by omega
theorem pre_rising {E : List Int} (h : Pre E.length E) : Rising E := by
  refine List.pairwise_iff_getElem.2 fun a b ha hb hab => ?_
  exact h a b _ _ ha (by omega) (List.getElem?_eq_getElem ha) (List.getElem?_eq_getElem hb)
end Go.Proofs.Ythhaaakabpnbnaa
