/-
  What the reference's list of places is: it is the program's set. No program here. No conditions.
-/
import Derived.Test.YthhaaakabpnbnaaOrdFacts
namespace Go.Proofs.Ythhaaakabpnbnaa
set_option linter.unusedVariables false
set_option linter.unusedSimpArgs false

def okP (what : Int) (a b : Bool) : Bool := decide (what = 1) && (a || b) || decide (what = 2) && a && !b || decide (what = 3) && b && !a || decide (what = 4) && a && b
def stepOf (okb : Bool) (out : List Sp) (a b : Int) : List Sp :=
  if a = b ∨ okb = false then out else
  match out.getLast? with
  | some y => if y.2 = a then out.dropLast ++ [(y.1, b)] else out ++ [(a, b)]
  | none => [(a, b)]
structure OfInv (lo cur : Int) (P : Int → Bool) (out : List Sp) : Prop where
  good : Good out
  hi : ∀ x ∈ out, x.2 ≤ cur
  mem : ∀ p, Mem out p ↔ (lo ≤ p ∧ p < cur) ∧ P p = true
theorem OfInv.start (lo : Int) (P : Int → Bool) : OfInv lo lo P [] := ⟨Good.nil, fun _ h => (nomatch h), fun p => ⟨fun h => (Mem.nil h).elim, fun h => by omega⟩⟩
theorem OfInv.step {lo a b : Int} {P : Int → Bool} {out : List Sp} {okb : Bool} (h : OfInv lo a P out) (hla : lo ≤ a) (hab : a ≤ b) (h0 : 0 ≤ a) (hb : b ≤ 1048576) (hP : ∀ p, a ≤ p → p < b → P p = okb) : OfInv lo b P (stepOf okb out a b) := by
  unfold stepOf
  by_cases he : a = b
  · rw [if_pos (.inl he), ← he]
    exact h
  · cases okb with
    | false =>
      rw [if_pos (.inr rfl)]
      refine ⟨h.good, fun x hx => Int.le_trans (h.hi x hx) hab, fun p => ?_⟩
      rw [h.mem]
      constructor
      · rintro ⟨q, r⟩; exact ⟨by omega, r⟩
      · rintro ⟨q, r⟩
        by_cases hp : a ≤ p
        · rw [hP p hp q.2] at r; cases r
        · exact ⟨by omega, r⟩
    | true =>
      rw [if_neg (by rintro (q | q); exact he q; cases q)]
      have key : ∀ p, ((lo ≤ p ∧ p < b) ∧ P p = true) ↔ ((lo ≤ p ∧ p < a) ∧ P p = true) ∨ (a ≤ p ∧ p < b) := by
        intro p
        constructor
        · rintro ⟨q, r⟩
          by_cases hp : a ≤ p
          · exact .inr ⟨hp, q.2⟩
          · exact .inl ⟨by omega, r⟩
        · rintro (⟨q, r⟩ | q)
          · exact ⟨by omega, r⟩
          · exact ⟨by omega, hP p q.1 q.2⟩
      cases hl : out.getLast? with
      | none =>
        have : out = [] := List.getLast?_eq_none_iff.1 hl
        subst this
        refine ⟨Good.one ⟨h0, by show a < b; omega, hb⟩, fun x hx => ?_, fun p => ?_⟩
        · simp only [List.mem_cons, List.not_mem_nil, or_false] at hx; subst hx; exact Int.le_refl _
        · rw [key, ← h.mem, Mem.one]
          have := @Mem.nil p
          simp only [this, false_or]
      | some y =>
        have hym : y ∈ out := List.mem_of_getLast? hl
        have hy := h.good.ok y hym
        unfold Ok1 at hy
        have hya := h.hi y hym
        simp only []
        by_cases hya2 : y.2 = a
        · rw [if_pos hya2]
          have hsp : out.dropLast ++ [y] = out := by
            have hne : out ≠ [] := by intro q; rw [q] at hl; cases hl
            have := List.dropLast_concat_getLast hne
            rw [List.getLast?_eq_some_getLast hne] at hl
            rw [← Option.some.inj hl]
            exact this
          have hg := h.good
          rw [← hsp] at hg
          obtain ⟨g1, _, g3⟩ := hg.split
          refine ⟨g1.append (Good.one ⟨by show 0 ≤ y.1; omega, by show y.1 < b; omega, hb⟩) fun x hx z hz => ?_, fun x hx => ?_, fun p => ?_⟩
          · simp only [List.mem_cons, List.not_mem_nil, or_false] at hz; subst hz; exact g3 x hx y (.head _)
          · rcases List.mem_append.1 hx with hx | hx
            · exact Int.le_trans (h.hi x (by rw [← hsp]; exact List.mem_append.2 (.inl hx))) hab
            · simp only [List.mem_cons, List.not_mem_nil, or_false] at hx; subst hx; exact Int.le_refl _
          · rw [key, ← h.mem]
            conv => rhs; rw [← hsp]
            rw [Mem.append, Mem.append, Mem.one, Mem.one, or_assoc]
            have : (y.1 ≤ p ∧ p < b) ↔ (y.1 ≤ p ∧ p < y.2) ∨ (a ≤ p ∧ p < b) := by omega
            show Mem out.dropLast p ∨ (y.1 ≤ p ∧ p < b) ↔ _
            rw [this]
        · rw [if_neg hya2]
          cases hh : out.head? with
          | none => rw [List.head?_eq_none_iff.1 hh] at hl; cases hl
          | some u =>
            have ord := h.good.order hh hl
            refine ⟨h.good.append (Good.one ⟨h0, by show a < b; omega, hb⟩) fun x hx z hz => ?_, fun x hx => ?_, fun p => ?_⟩
            · simp only [List.mem_cons, List.not_mem_nil, or_false] at hz; subst hz
              have := ord x hx
              show x.2 < a
              omega
            · rcases List.mem_append.1 hx with hx | hx
              · exact Int.le_trans (h.hi x hx) hab
              · simp only [List.mem_cons, List.not_mem_nil, or_false] at hx; subst hx; exact Int.le_refl _
            · rw [key, ← h.mem, Mem.append, Mem.one]
/-- The places where something begins or ends. -/
def ends (l : List Sp) (s : Sp) : List Int := l.flatMap (fun x => [x.1, x.2]) ++ [s.1, s.2]
def Rising (E : List Int) : Prop := E.Pairwise fun x y => x ≤ y
theorem between {E : List Int} (hE : Rising E) {j : Nat} {a b : Int} (ha : E[j]? = some a) (hb : E[j + 1]? = some b) {x p : Int} (hx : x ∈ E) (h1 : a ≤ p) (h2 : p < b) : (x ≤ p ↔ x ≤ a) ∧ (p < x ↔ a < x) := by
  obtain ⟨m, hm⟩ := List.mem_iff_getElem?.1 hx
  obtain ⟨hmL, rfl⟩ := List.getElem?_eq_some_iff.1 hm
  obtain ⟨hjL, rfl⟩ := List.getElem?_eq_some_iff.1 ha
  obtain ⟨hj1L, rfl⟩ := List.getElem?_eq_some_iff.1 hb
  have pw := List.pairwise_iff_getElem.1 hE
  by_cases hmj : m ≤ j
  · have : E[m] ≤ E[j] := by
      rcases Nat.lt_or_eq_of_le hmj with q | rfl
      · exact pw m j hmL hjL q
      · exact Int.le_refl _
    omega
  · have : E[j + 1] ≤ E[m] := by
      rcases Nat.lt_or_eq_of_le (show j + 1 ≤ m by omega) with q | rfl
      · exact pw (j + 1) m hj1L hmL q
      · exact Int.le_refl _
    omega
theorem inn_const {E : List Int} (hE : Rising E) {j : Nat} {a b : Int} (ha : E[j]? = some a) (hb : E[j + 1]? = some b) {l : List Sp} (hl : ∀ x ∈ l, x.1 ∈ E ∧ x.2 ∈ E) {p : Int} (h1 : a ≤ p) (h2 : p < b) : inn l p = inn l a := by
  rw [Bool.eq_iff_iff, inn_iff, inn_iff]
  constructor
  · rintro ⟨x, hx, q1, q2⟩
    have b1 := between hE ha hb (hl x hx).1 h1 h2
    have b2 := between hE ha hb (hl x hx).2 h1 h2
    exact ⟨x, hx, b1.1.1 q1, b2.2.1 q2⟩
  · rintro ⟨x, hx, q1, q2⟩
    have b1 := between hE ha hb (hl x hx).1 h1 h2
    have b2 := between hE ha hb (hl x hx).2 h1 h2
    exact ⟨x, hx, b1.1.2 q1, b2.2.2 q2⟩
/-- The reference's list, as far as its places go. -/
structure IsOf (what : Int) (l : List Sp) (s : Sp) (R : List Sp) : Prop where
  good : Good R
  mem : ∀ p, Mem R p ↔ okP what (inn l p) (inn [s] p) = true
theorem inn_one {s : Sp} {p : Int} : inn [s] p = (decide (s.1 ≤ p) && decide (p < s.2)) := by simp [inn]
theorem okP_in {what : Int} {a b : Bool} (h : okP what a b = true) : a = true ∨ b = true := by
  cases a <;> cases b <;> simp [okP] at h ⊢
theorem IsOf.fin {what : Int} {l : List Sp} {s : Sp} {E : List Int} {N : Nat} {lo hi : Int} {R : List Sp} (hE : Rising E) (hmem : ∀ x, x ∈ ends l s → x ∈ E) (hlo : E[0]? = some lo) (hhi : E[N]? = some hi) (hN : E.length = N + 1) (h : OfInv lo hi (fun p => okP what (inn l p) (inn [s] p)) R) : IsOf what l s R := by
  refine ⟨h.good, fun p => ?_⟩
  rw [h.mem]
  refine ⟨fun q => q.2, fun q => ⟨?_, q⟩⟩
  have bnd : ∀ x, x ∈ E → lo ≤ x ∧ x ≤ hi := by
    intro x hx
    obtain ⟨m, hm⟩ := List.mem_iff_getElem?.1 hx
    obtain ⟨hmL, rfl⟩ := List.getElem?_eq_some_iff.1 hm
    obtain ⟨h0L, rfl⟩ := List.getElem?_eq_some_iff.1 hlo
    obtain ⟨hNL, rfl⟩ := List.getElem?_eq_some_iff.1 hhi
    have pw := List.pairwise_iff_getElem.1 hE
    constructor
    · rcases Nat.eq_zero_or_pos m with rfl | q
      · exact Int.le_refl _
      · exact pw 0 m h0L hmL q
    · rcases Nat.lt_or_eq_of_le (show m ≤ N by omega) with q | rfl
      · exact pw m N hmL hNL q
      · exact Int.le_refl _
  have hx : ∀ x : Sp, (x ∈ l ∨ x = s) → x.1 ≤ p → p < x.2 → lo ≤ p ∧ p < hi := by
    intro x hx h1 h2
    have e1 : x.1 ∈ ends l s := by
      unfold ends
      rcases hx with hx | rfl
      · exact List.mem_append.2 (.inl (List.mem_flatMap.2 ⟨x, hx, by simp⟩))
      · simp
    have e2 : x.2 ∈ ends l s := by
      unfold ends
      rcases hx with hx | rfl
      · exact List.mem_append.2 (.inl (List.mem_flatMap.2 ⟨x, hx, by simp⟩))
      · simp
    have b1 := bnd _ (hmem _ e1)
    have b2 := bnd _ (hmem _ e2)
    omega
  rcases okP_in q with q | q
  · obtain ⟨x, hxl, h1, h2⟩ := inn_iff.1 q
    exact hx x (.inl hxl) h1 h2
  · obtain ⟨x, hxl, h1, h2⟩ := inn_iff.1 q
    simp only [List.mem_cons, List.not_mem_nil, or_false] at hxl
    exact hx x (.inr hxl) h1 h2
/-- .. and so it is the program's set. -/
def addL (l : List Sp) (s : Sp) : List Sp := if s.1 = s.2 then l else aheadF l s ++ [coverF (ownF l s) s] ++ behindF l s
def removeL (l : List Sp) (s : Sp) : List Sp := if s.1 = s.2 then l else aheadF l s ++ (ownF l s).flatMap (pieces s) ++ behindF l s
def boundF (x : List Sp) : List Sp × Int := if 32 < x.length then ([], 14) else (x, 0)
theorem joinF_bound (a b c : List Sp) : joinF a b c = boundF (a ++ b ++ c) := by
  unfold joinF boundF
  rw [List.length_append, List.length_append]
theorem addF_eq (l : List Sp) (s : Sp) : addF l s = if okF l s = false then ([], 2) else boundF (addL l s) := by
  unfold addF addL
  simp only [joinF_bound, List.append_nil]
  split
  · rfl
  · split <;> rfl
theorem removeF_eq (l : List Sp) (s : Sp) : removeF l s = if okF l s = false then ([], 2) else boundF (removeL l s) := by
  unfold removeF removeL
  simp only [joinF_bound, List.append_nil]
  split
  · rfl
  · split <;> rfl
theorem IsOf.add {l : List Sp} {s : Sp} {R : List Sp} (h : IsOf 1 l s R) (hok : okF l s = true) : R = addL l s := by
  obtain ⟨hg, _, hs⟩ := okF_iff.1 hok
  have e : ∀ p, okP 1 (inn l p) (inn [s] p) = true ↔ Mem l p ∨ (s.1 ≤ p ∧ p < s.2) := fun p => by simp [okP, inn_one, inn_iff]
  unfold addL
  split
  · refine uniq h.good hg fun p => ?_
    rw [h.mem, e]
    exact ⟨fun q => q.elim id fun q => by omega, .inl⟩
  · obtain ⟨h1, h2⟩ := cover_spec (cutt hg s) hs (by omega)
    refine uniq h.good h1 fun p => ?_
    rw [h.mem, e, h2]
theorem IsOf.remove {l : List Sp} {s : Sp} {R : List Sp} (h : IsOf 2 l s R) (hok : okF l s = true) : R = removeL l s := by
  obtain ⟨hg, _, hs⟩ := okF_iff.1 hok
  have e : ∀ p, okP 2 (inn l p) (inn [s] p) = true ↔ Mem l p ∧ ¬ (s.1 ≤ p ∧ p < s.2) := fun p => by
    simp [okP, inn_one, inn_iff]
    intro _
    omega
  unfold removeL
  split
  · refine uniq h.good hg fun p => ?_
    rw [h.mem, e]
    exact ⟨fun q => q.1, fun q => ⟨q, by omega⟩⟩
  · obtain ⟨h1, h2⟩ := remove_spec (cutt hg s) (by omega)
    refine uniq h.good h1 fun p => ?_
    rw [h.mem, e, h2]
theorem IsOf.gaps {l : List Sp} {s : Sp} {R : List Sp} (h : IsOf 3 l s R) (hok : okF l s = true) : R = gapsF l s := by
  obtain ⟨h1, _, h2⟩ := gapsF_mem hok
  refine uniq h.good h1 fun p => ?_
  rw [h.mem, h2]
  simp [okP, inn_one, ← inn_iff]
theorem IsOf.cut {l : List Sp} {s : Sp} {R : List Sp} (h : IsOf 4 l s R) (hok : okF l s = true) : R = cutF l s := by
  obtain ⟨h1, _, h2⟩ := cutF_mem hok
  refine uniq h.good h1 fun p => ?_
  rw [h.mem, h2]
  simp [okP, inn_one, ← inn_iff]
end Go.Proofs.Ythhaaakabpnbnaa
