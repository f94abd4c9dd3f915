/-
  What Add, Remove, Gaps, Cut answer, place by place. No program here. No conditions.
-/
import Derived.Test.YthhaaakabpnbnaaLaws
namespace Go.Proofs.Ythhaaakabpnbnaa
set_option linter.unusedVariables false
set_option linter.unusedSimpArgs false

theorem join_eq {a b c x : List Sp} (h : joinF a b c = (x, 0)) : x = a ++ b ++ c ∧ x.length ≤ 32 := by
  unfold joinF at h
  split at h
  · exact absurd (congrArg Prod.snd h) (by simp)
  · rename_i hl
    have := congrArg Prod.fst h
    simp only at this
    subst this
    exact ⟨rfl, by simp only [List.length_append]; omega⟩
theorem okF_iff {l : List Sp} {s : Sp} : okF l s = true ↔ Good l ∧ l.length ≤ 32 ∧ 0 ≤ s.1 ∧ s.1 ≤ s.2 ∧ s.2 ≤ 1048576 := by
  unfold okF
  rw [Bool.and_eq_true, validF_iff, isSp_iff, and_assoc]
theorem mem_inn {l : List Sp} {p : Int} {P : Prop} [Decidable P] (h : Mem l p ↔ P) : inn l p = decide P := by
  by_cases hp : P
  · rw [decide_eq_true hp, inn_iff]; exact h.2 hp
  · rw [decide_eq_false hp, Bool.eq_false_iff]; exact fun q => hp (h.1 (inn_iff.1 q))
theorem addF_mem {l : List Sp} {s : Sp} {x : List Sp} (h : addF l s = (x, 0)) : okF l s = true ∧ validF x = true ∧ ∀ p, Mem x p ↔ Mem l p ∨ (s.1 ≤ p ∧ p < s.2) := by
  unfold addF at h
  split at h
  · exact absurd (congrArg Prod.snd h) (by simp)
  · rename_i hok
    have hok : okF l s = true := by simpa using hok
    obtain ⟨hg, h32, hs⟩ := okF_iff.1 hok
    refine ⟨hok, ?_⟩
    split at h
    · rename_i he
      obtain ⟨rfl, hl⟩ := join_eq h
      rw [List.append_nil, List.append_nil] at *
      exact ⟨validF_iff.2 ⟨hg, hl⟩, fun p => ⟨.inl, fun q => q.elim id fun q => by omega⟩⟩
    · rename_i he
      obtain ⟨rfl, hl⟩ := join_eq h
      obtain ⟨h1, h2⟩ := cover_spec (cutt hg s) hs (by omega)
      exact ⟨validF_iff.2 ⟨h1, hl⟩, h2⟩
theorem removeF_mem {l : List Sp} {s : Sp} {x : List Sp} (h : removeF l s = (x, 0)) : okF l s = true ∧ validF x = true ∧ ∀ p, Mem x p ↔ Mem l p ∧ ¬ (s.1 ≤ p ∧ p < s.2) := by
  unfold removeF at h
  split at h
  · exact absurd (congrArg Prod.snd h) (by simp)
  · rename_i hok
    have hok : okF l s = true := by simpa using hok
    obtain ⟨hg, h32, hs⟩ := okF_iff.1 hok
    refine ⟨hok, ?_⟩
    split at h
    · rename_i he
      obtain ⟨rfl, hl⟩ := join_eq h
      rw [List.append_nil, List.append_nil] at *
      exact ⟨validF_iff.2 ⟨hg, hl⟩, fun p => ⟨fun q => ⟨q, by omega⟩, fun q => q.1⟩⟩
    · rename_i he
      obtain ⟨rfl, hl⟩ := join_eq h
      obtain ⟨h1, h2⟩ := remove_spec (cutt hg s) (by omega)
      exact ⟨validF_iff.2 ⟨h1, hl⟩, h2⟩
theorem gapsF_mem {l : List Sp} {s : Sp} (hok : okF l s = true) : Good (gapsF l s) ∧ (gapsF l s).length ≤ 33 ∧ ∀ p, Mem (gapsF l s) p ↔ (s.1 ≤ p ∧ p < s.2) ∧ ¬ Mem l p := by
  obtain ⟨hg, h32, hs⟩ := okF_iff.1 hok
  unfold gapsF
  rw [if_neg (by simp [hok])]
  have hc := cutt hg s
  obtain ⟨h1, _, h2⟩ := gaps_spec hs.2.2 (l := ownF l s) (f := s.1) hc.gO hs.1 hs.2.1
  refine ⟨h1, ?_, fun p => ?_⟩
  · have hl : ∀ (l : List Sp) (f : Int), (gapsG s.2 f l).length ≤ l.length + 1 := by
      intro l
      induction l with
      | nil => intro f; unfold gapsG gap; split <;> simp
      | cons x l ih =>
        intro f
        have h1 := ih (min (max f x.2) s.2)
        have h2 : (gap f (min x.1 s.2)).length ≤ 1 := by unfold gap; split <;> simp
        simp only [gapsG, List.length_append, List.length_cons]
        omega
    have h3 := hl (ownF l s) s.1
    have h4 : (aheadF l s).length + (ownF l s).length + (behindF l s).length = l.length := by
      have := congrArg List.length hc.eq
      simp only [List.length_append] at this
      omega
    omega
  · rw [h2, hc.mem]
    constructor
    · rintro ⟨q, r⟩
      refine ⟨q, ?_⟩
      rintro (⟨x, hx, h3, h4⟩ | q2 | ⟨x, hx, h3, h4⟩)
      · have := hc.ahead x hx; omega
      · exact r q2
      · have := hc.behind x hx; omega
    · rintro ⟨q, r⟩
      exact ⟨q, fun q2 => r (.inr (.inl q2))⟩
theorem cutF_mem {l : List Sp} {s : Sp} (hok : okF l s = true) : Good (cutF l s) ∧ (cutF l s).length ≤ 32 ∧ ∀ p, Mem (cutF l s) p ↔ Mem l p ∧ (s.1 ≤ p ∧ p < s.2) := by
  obtain ⟨hg, h32, hs⟩ := okF_iff.1 hok
  unfold cutF
  rw [if_neg (by simp [hok])]
  have hc := cutt hg s
  obtain ⟨h1, h2⟩ := cut_spec hc
  refine ⟨h1, ?_, h2⟩
  have hl : ∀ (l : List Sp), (l.flatMap (clip s)).length ≤ l.length := by
    intro l
    induction l with
    | nil => simp
    | cons x l ih =>
      have h2 : (clip s x).length ≤ 1 := by unfold clip; split <;> simp
      simp only [List.flatMap_cons, List.length_append, List.length_cons]
      omega
  have h3 := hl (ownF l s)
  have h4 : (aheadF l s).length + (ownF l s).length + (behindF l s).length = l.length := by
    have := congrArg List.length hc.eq
    simp only [List.length_append] at this
    omega
  omega
theorem hasF_of {l : List Sp} {s : Sp} (hok : okF l s = true) : hasF l s = decide (gapsF l s = []) := by
  unfold hasF
  rw [hok, Bool.true_and]
  cases gapsF l s <;> simp
theorem gapsF_nil {l : List Sp} {s : Sp} (hok : okF l s = true) (h : ∀ p, s.1 ≤ p → p < s.2 → Mem l p) : gapsF l s = [] := by
  obtain ⟨h1, _, h2⟩ := gapsF_mem hok
  exact h1.empty_of fun p hp => by
    obtain ⟨q, r⟩ := (h2 p).1 hp
    exact r (h p q.1 q.2)
/-- SpanKeeps: Add. -/
theorem keep_add {l : List Sp} {s : Sp} {x : List Sp} (h : addF l s = (x, 0)) (z : Int) : validF x = true ∧ hasF x s = true ∧ inn x z = (inn l z || (decide (s.1 ≤ z) && decide (z < s.2))) := by
  obtain ⟨hok, hv, hm⟩ := addF_mem h
  have hox : okF x s = true := by
    unfold okF at hok ⊢
    rw [hv, Bool.true_and]
    exact (Bool.and_eq_true_iff.1 hok).2
  refine ⟨hv, ?_, ?_⟩
  · rw [hasF_of hox, gapsF_nil hox fun p h1 h2 => (hm p).2 (.inr ⟨h1, h2⟩)]
    rfl
  · rw [Bool.eq_iff_iff, inn_iff, hm, Bool.or_eq_true, inn_iff, Bool.and_eq_true, decide_eq_true_eq, decide_eq_true_eq]
/-- SpanKeeps: Remove. -/
theorem keep_remove {l : List Sp} {s : Sp} {x : List Sp} (h : removeF l s = (x, 0)) (z : Int) : validF x = true ∧ cutF x s = [] ∧ inn x z = (inn l z && !(decide (s.1 ≤ z) && decide (z < s.2))) := by
  obtain ⟨hok, hv, hm⟩ := removeF_mem h
  have hox : okF x s = true := by
    unfold okF at hok ⊢
    rw [hv, Bool.true_and]
    exact (Bool.and_eq_true_iff.1 hok).2
  refine ⟨hv, ?_, ?_⟩
  · obtain ⟨h1, _, h2⟩ := cutF_mem hox
    exact h1.empty_of fun p hp => by
      obtain ⟨q, r⟩ := (h2 p).1 hp
      exact ((hm p).1 q).2 r
  · rw [Bool.eq_iff_iff, inn_iff, hm, Bool.and_eq_true, inn_iff, Bool.not_eq_true', Bool.and_eq_false_iff, decide_eq_false_iff_not, decide_eq_false_iff_not]
    constructor
    · rintro ⟨q, r⟩; exact ⟨q, by omega⟩
    · rintro ⟨q, r⟩; exact ⟨q, by omega⟩
/-- SpanParts. -/
theorem parts_sum {l : List Sp} {s : Sp} (hok : okF l s = true) : sizeF (cutF l s) + sumF (gapsF l s) = s.2 - s.1 := by
  obtain ⟨hg, h32, hs⟩ := okF_iff.1 hok
  obtain ⟨h1, h2, _⟩ := cutF_mem hok
  unfold sizeF
  rw [if_pos (validF_iff.2 ⟨h1, h2⟩)]
  unfold cutF gapsF
  rw [if_neg (by simp [hok]), if_neg (by simp [hok])]
  have := sum_both (s := s) (l := ownF l s) (f := s.1) (cutt hg s).gO (Int.le_refl _) hs.2.1 (.inl rfl)
  omega
theorem parts_in {l : List Sp} {s : Sp} (hok : okF l s = true) {z : Int} (h1 : s.1 ≤ z) (h2 : z < s.2) : inn (cutF l s) z = inn l z ∧ inn (gapsF l s) z = !inn l z := by
  obtain ⟨_, _, hc⟩ := cutF_mem hok
  obtain ⟨_, _, hg⟩ := gapsF_mem hok
  constructor
  · rw [Bool.eq_iff_iff, inn_iff, hc, inn_iff]
    exact ⟨fun q => q.1, fun q => ⟨q, h1, h2⟩⟩
  · rw [Bool.eq_iff_iff, inn_iff, hg, Bool.not_eq_true', Bool.eq_false_iff]
    exact ⟨fun q r => q.2 (inn_iff.1 r), fun q => ⟨⟨h1, h2⟩, fun r => q (inn_iff.2 r)⟩⟩
theorem parts_none {l : List Sp} {s : Sp} (hok : okF l s = true) (h : s.1 = s.2) : gapsF l s = [] ∧ cutF l s = [] := by
  obtain ⟨h1, _, hc⟩ := cutF_mem hok
  obtain ⟨h2, _, hg⟩ := gapsF_mem hok
  exact ⟨h2.empty_of fun p hp => by have := ((hg p).1 hp).1; omega, h1.empty_of fun p hp => by have := ((hc p).1 hp).2; omega⟩
theorem remove56 : removeF [(5, 6)] (5, 6) = ([], 0) := by decide
theorem add56 : addF [] (5, 6) = ([(5, 6)], 0) := by decide
theorem size56 : sizeF [(5, 6)] = 1 := by decide
theorem size14 : sizeF [(1, 4)] = 3 := by decide
end Go.Proofs.Ythhaaakabpnbnaa
