/-
  A set that spans were added to covers just their places: in whichever order they came. No program here. No conditions.
-/
import Derived.Test.YthhaaakabpnbnaaFacts
namespace Go.Proofs.Ythhaaakabpnbnaa
set_option linter.unusedVariables false
set_option linter.unusedSimpArgs false

/-- The set a has just the places of the spans L. -/
structure Cov (L a : List Sp) : Prop where
  good : Good a
  len : a.length ≤ L.length
  mem : ∀ p, Mem a p ↔ Mem L p
theorem Cov.nil : Cov [] [] := ⟨Good.nil, Nat.le_refl _, fun p => Iff.rfl⟩
theorem Cov.uniq {L a b : List Sp} (ha : Cov L a) (hb : Cov L b) : a = b := Go.Proofs.Ythhaaakabpnbnaa.uniq ha.good hb.good fun p => (ha.mem p).trans (hb.mem p).symm
theorem Cov.valid {L a : List Sp} (h : Cov L a) (hl : L.length ≤ 32) : validF a = true := validF_iff.2 ⟨h.good, Nat.le_trans h.len hl⟩
theorem join_fits {a b c : List Sp} (h : a.length + b.length + c.length ≤ 32) : joinF a b c = (a ++ b ++ c, 0) := by unfold joinF; rw [if_neg (by omega)]
theorem add_fits {a : List Sp} {x : Sp} (hg : Good a) (hl : a.length ≤ 31) (hx : isSp x = true) : ∃ b, addF a x = (b, 0) ∧ b.length ≤ a.length + 1 := by
  have hok : okF a x = true := by unfold okF; rw [validF_iff.2 ⟨hg, by omega⟩, hx]; rfl
  have hp : (aheadF a x).length + (ownF a x).length + (behindF a x).length = a.length := by
    have := congrArg List.length (cutt hg x).eq
    simp only [List.length_append] at this
    omega
  unfold addF
  rw [if_neg (by simp [hok])]
  by_cases he : x.1 = x.2
  · rw [if_pos he, join_fits (by simp; omega)]
    exact ⟨_, rfl, by simp⟩
  · rw [if_neg he, join_fits (by simp; omega)]
    exact ⟨_, rfl, by simp; omega⟩
theorem add_refused {a : List Sp} {x : Sp} (hx : isSp x = false) : addF a x = ([], 2) := by
  unfold addF okF
  rw [hx, Bool.and_false, if_pos rfl]
theorem Cov.add {L a : List Sp} (h : Cov L a) {x : Sp} (hL : L.length ≤ 31) (hx : isSp x = true) : ∃ b, addF a x = (b, 0) ∧ Cov (L ++ [x]) b ∧ Cov (x :: L) b := by
  obtain ⟨b, hb, hl⟩ := add_fits h.good (Nat.le_trans h.len hL) hx
  obtain ⟨_, hv, hm⟩ := addF_mem hb
  have hg := (validF_iff.1 hv).1
  have h1 := h.len
  refine ⟨b, hb, ⟨hg, by simp; omega, fun p => ?_⟩, ⟨hg, by simp; omega, fun p => ?_⟩⟩
  · rw [hm, h.mem, Mem.append, Mem.one]
  · rw [hm, h.mem, Mem.cons]
    exact Or.comm
theorem Cov.again {L a : List Sp} (h : Cov L a) {x : Sp} (hL : L.length ≤ 31) (hx : isSp x = true) (hm : x ∈ L) : addF a x = (a, 0) ∧ hasF a x = true := by
  have hin : ∀ p, x.1 ≤ p → p < x.2 → Mem a p := fun p h1 h2 => (h.mem p).2 ⟨x, hm, h1, h2⟩
  have hok : okF a x = true := by unfold okF; rw [h.valid (by omega), hx]; rfl
  obtain ⟨b, hb, hl⟩ := add_fits h.good (Nat.le_trans h.len hL) hx
  obtain ⟨_, hv, hmm⟩ := addF_mem hb
  have e : b = a := Go.Proofs.Ythhaaakabpnbnaa.uniq (validF_iff.1 hv).1 h.good fun p => by
    rw [hmm]
    exact ⟨fun q => q.elim id fun q => hin p q.1 q.2, .inl⟩
  subst e
  refine ⟨hb, ?_⟩
  rw [hasF_of hok, gapsF_nil hok hin]
  rfl
end Go.Proofs.Ythhaaakabpnbnaa
