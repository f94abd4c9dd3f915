/-
  What the answers about spans are, as sets of places. No program here. No conditions.
-/
import Derived.Test.YthhaaakabpnbnaaModel
namespace Go.Proofs.Ythhaaakabpnbnaa
set_option linter.unusedVariables false
set_option linter.unusedSimpArgs false

def Ok1 (x : Sp) : Prop := 0 ≤ x.1 ∧ x.1 < x.2 ∧ x.2 ≤ 1048576
structure Good (l : List Sp) : Prop where
  ok : ∀ x ∈ l, Ok1 x
  pw : l.Pairwise fun x y => x.2 < y.1
def Mem (l : List Sp) (p : Int) : Prop := ∃ x ∈ l, x.1 ≤ p ∧ p < x.2
theorem inn_iff {l : List Sp} {p : Int} : inn l p = true ↔ Mem l p := by
  simp only [inn, List.any_eq_true, Bool.and_eq_true, decide_eq_true_eq, Mem]
theorem Mem.cons {x : Sp} {l : List Sp} {p : Int} : Mem (x :: l) p ↔ (x.1 ≤ p ∧ p < x.2) ∨ Mem l p := by
  simp only [Mem, List.mem_cons]
  constructor
  · rintro ⟨y, rfl | h, h1⟩
    · exact .inl h1
    · exact .inr ⟨y, h, h1⟩
  · rintro (h | ⟨y, h, h1⟩)
    · exact ⟨x, .inl rfl, h⟩
    · exact ⟨y, .inr h, h1⟩
theorem Mem.nil {p : Int} : ¬ Mem [] p := fun ⟨_, h, _⟩ => nomatch h
theorem Mem.append {a b : List Sp} {p : Int} : Mem (a ++ b) p ↔ Mem a p ∨ Mem b p := by
  simp only [Mem, List.mem_append]
  constructor
  · rintro ⟨y, h | h, h1⟩
    · exact .inl ⟨y, h, h1⟩
    · exact .inr ⟨y, h, h1⟩
  · rintro (⟨y, h, h1⟩ | ⟨y, h, h1⟩)
    · exact ⟨y, .inl h, h1⟩
    · exact ⟨y, .inr h, h1⟩
theorem Good.nil : Good [] := ⟨fun _ h => (nomatch h), .nil⟩
theorem Good.tail {x : Sp} {l : List Sp} (h : Good (x :: l)) : Good l := ⟨fun y hy => h.ok y (.tail _ hy), (List.pairwise_cons.1 h.pw).2⟩
theorem Good.head {x : Sp} {l : List Sp} (h : Good (x :: l)) : Ok1 x := h.ok x (.head _)
theorem Good.next {x : Sp} {l : List Sp} (h : Good (x :: l)) {y : Sp} (hy : y ∈ l) : x.2 < y.1 := (List.pairwise_cons.1 h.pw).1 y hy
theorem Good.cons {x : Sp} {l : List Sp} (hx : Ok1 x) (hl : Good l) (hn : ∀ y ∈ l, x.2 < y.1) : Good (x :: l) :=
  ⟨fun y hy => by rcases List.mem_cons.1 hy with rfl | hy; exact hx; exact hl.ok y hy, List.pairwise_cons.2 ⟨hn, hl.pw⟩⟩
theorem Good.append {a b : List Sp} (ha : Good a) (hb : Good b) (h : ∀ x ∈ a, ∀ y ∈ b, x.2 < y.1) : Good (a ++ b) :=
  ⟨fun x hx => (List.mem_append.1 hx).elim (ha.ok x) (hb.ok x), List.pairwise_append.2 ⟨ha.pw, hb.pw, h⟩⟩
theorem Good.split {a b : List Sp} (h : Good (a ++ b)) : Good a ∧ Good b ∧ ∀ x ∈ a, ∀ y ∈ b, x.2 < y.1 := by
  obtain ⟨h1, h2, h3⟩ := List.pairwise_append.1 h.pw
  exact ⟨⟨fun x hx => h.ok x (List.mem_append.2 (.inl hx)), h1⟩, ⟨fun x hx => h.ok x (List.mem_append.2 (.inr hx)), h2⟩, h3⟩
theorem isSp_iff {s : Sp} : isSp s = true ↔ 0 ≤ s.1 ∧ s.1 ≤ s.2 ∧ s.2 ≤ 1048576 := by
  simp only [isSp, Bool.and_eq_true, decide_eq_true_eq, and_assoc]
theorem okFrom_iff : ∀ {l : List Sp} {last : Int}, -1 ≤ last → (okFrom last l = true ↔ Good l ∧ ∀ x ∈ l, last < x.1)
  | [], last, _ => by simp [okFrom, Good.nil]
  | s :: r, last, hl => by
    have key : okFrom last (s :: r) = true ↔ ((0 ≤ s.1 ∧ s.1 ≤ s.2 ∧ s.2 ≤ 1048576) ∧ s.1 ≠ s.2 ∧ last < s.1) ∧ okFrom s.2 r = true := by
      simp only [okFrom, Bool.and_eq_true, isSp_iff, Bool.not_eq_true', decide_eq_false_iff_not, decide_eq_true_eq, ne_eq, and_assoc]
    rw [key]
    constructor
    · rintro ⟨⟨⟨h1, h2, h3⟩, h4, h5⟩, h6⟩
      obtain ⟨g1, g2⟩ := (okFrom_iff (by omega)).1 h6
      refine ⟨Good.cons ⟨h1, by omega, h3⟩ g1 g2, fun x hx => ?_⟩
      rcases List.mem_cons.1 hx with rfl | hx
      · exact h5
      · have := g2 x hx; omega
    · rintro ⟨g, h⟩
      have h1 := g.head
      unfold Ok1 at h1
      exact ⟨⟨⟨h1.1, by omega, h1.2.2⟩, by omega, h s (.head _)⟩, (okFrom_iff (by omega)).2 ⟨g.tail, fun x hx => g.next hx⟩⟩
theorem validF_iff {l : List Sp} : validF l = true ↔ Good l ∧ l.length ≤ 32 := by
  unfold validF
  rw [Bool.and_eq_true, okFrom_iff (by omega), decide_eq_true_eq]
  constructor
  · rintro ⟨⟨h1, _⟩, h2⟩; exact ⟨h1, h2⟩
  · rintro ⟨h1, h2⟩
    exact ⟨⟨h1, fun x hx => by have := (h1.ok x hx).1; omega⟩, h2⟩
theorem uniq : ∀ {a b : List Sp}, Good a → Good b → (∀ p, Mem a p ↔ Mem b p) → a = b
  | [], [], _, _, _ => rfl
  | [], y :: b, _, hb, h => by
    have h1 := hb.head
    unfold Ok1 at h1
    exact (Mem.nil ((h y.1).2 ⟨y, .head _, by omega, by omega⟩)).elim
  | x :: a, [], ha, _, h => by
    have h1 := ha.head
    unfold Ok1 at h1
    exact (Mem.nil ((h x.1).1 ⟨x, .head _, by omega, by omega⟩)).elim
  | x :: a, y :: b, ha, hb, h => by
    have hx := ha.head
    have hy := hb.head
    unfold Ok1 at hx hy
    have first : ∀ {u : Sp} {l : List Sp} {p : Int}, Good (u :: l) → Mem (u :: l) p → u.1 ≤ p := by
      rintro u l p hg ⟨z, hz, h1, h2⟩
      have hu := hg.head
      unfold Ok1 at hu
      rcases List.mem_cons.1 hz with rfl | hz
      · exact h1
      · have := hg.next hz; omega
    have behind : ∀ {u : Sp} {l : List Sp} {p : Int}, Good (u :: l) → Mem l p → u.2 < p := by
      rintro u l p hg ⟨z, hz, h1, h2⟩
      have := hg.next hz; omega
    have e1 : x.1 = y.1 := by
      have h1 := first hb ((h x.1).1 ⟨x, .head _, by omega, by omega⟩)
      have h2 := first ha ((h y.1).2 ⟨y, .head _, by omega, by omega⟩)
      omega
    have e2 : x.2 = y.2 := by
      rcases Int.lt_trichotomy x.2 y.2 with q | q | q
      · have h1 := (h x.2).2 ⟨y, .head _, by omega, by omega⟩
        rcases Mem.cons.1 h1 with h2 | h2
        · omega
        · have := behind ha h2; omega
      · exact q
      · have h1 := (h y.2).1 ⟨x, .head _, by omega, by omega⟩
        rcases Mem.cons.1 h1 with h2 | h2
        · omega
        · have := behind hb h2; omega
    have e : x = y := Prod.ext e1 e2
    subst e
    have ht : ∀ p, Mem a p ↔ Mem b p := by
      intro p
      constructor
      · intro hp
        have h1 := behind ha hp
        rcases Mem.cons.1 ((h p).1 (Mem.cons.2 (.inr hp))) with h2 | h2
        · omega
        · exact h2
      · intro hp
        have h1 := behind hb hp
        rcases Mem.cons.1 ((h p).2 (Mem.cons.2 (.inr hp))) with h2 | h2
        · omega
        · exact h2
    rw [uniq ha.tail hb.tail ht]
theorem dropWhile_all {p : Sp → Bool} : ∀ {l : List Sp}, l.Pairwise (fun x y => p x = false → p y = false) → ∀ y ∈ l.dropWhile p, p y = false
  | [], _, y, hy => nomatch hy
  | x :: l, h, y, hy => by
    obtain ⟨h1, h2⟩ := List.pairwise_cons.1 h
    rw [List.dropWhile_cons] at hy
    split at hy
    · exact dropWhile_all h2 y hy
    · rename_i hx
      have hx : p x = false := by simpa using hx
      rcases List.mem_cons.1 hy with rfl | hy
      · exact hx
      · exact h1 y hy hx
theorem takeWhile_all {p : Sp → Bool} : ∀ {l : List Sp}, ∀ y ∈ l.takeWhile p, p y = true
  | [], y, hy => nomatch hy
  | x :: l, y, hy => by
    rw [List.takeWhile_cons] at hy
    split at hy
    · rename_i hx
      rcases List.mem_cons.1 hy with rfl | hy
      · exact hx
      · exact takeWhile_all y hy
    · nomatch hy
theorem pairwise_with {l : List Sp} {R S : Sp → Sp → Prop} (h : l.Pairwise R) (hi : ∀ x ∈ l, ∀ y ∈ l, R x y → S x y) : l.Pairwise S := by
  induction l with
  | nil => exact .nil
  | cons x l ih =>
    obtain ⟨h1, h2⟩ := List.pairwise_cons.1 h
    exact List.pairwise_cons.2 ⟨fun y hy => hi x (.head _) y (.tail _ hy) (h1 y hy), ih h2 fun a ha b hb => hi a (.tail _ ha) b (.tail _ hb)⟩
/-- What 'touched' cuts a set into. -/
structure Cutt (l a own b : List Sp) (s : Sp) : Prop where
  eq : l = a ++ own ++ b
  ahead : ∀ x ∈ a, x.2 < s.1
  own1 : ∀ x ∈ own, s.1 ≤ x.2
  own2 : ∀ x ∈ own, x.1 ≤ s.2
  behind : ∀ x ∈ b, s.2 < x.1
  good : Good l
theorem cutt {l : List Sp} (h : Good l) (s : Sp) : Cutt l (aheadF l s) (ownF l s) (behindF l s) s := by
  have e1 : aheadF l s ++ restF l s = l := List.takeWhile_append_dropWhile ..
  have e2 : ownF l s ++ behindF l s = restF l s := List.takeWhile_append_dropWhile ..
  have hr : ∀ x ∈ restF l s, early s x = false := dropWhile_all (pairwise_with h.pw fun x hx y hy hxy hp => by
    have := h.ok y hy
    unfold Ok1 at this
    simp only [early, decide_eq_false_iff_not] at hp ⊢
    omega)
  have hg := h
  rw [← e1] at hg
  obtain ⟨_, hgr, _⟩ := hg.split
  have hb : ∀ x ∈ behindF l s, soon s x = false := dropWhile_all (pairwise_with hgr.pw fun x hx y hy hxy hp => by
    have := hgr.ok x hx
    unfold Ok1 at this
    simp only [soon, decide_eq_false_iff_not] at hp ⊢
    omega)
  have mo : ∀ x ∈ ownF l s, x ∈ restF l s := fun x hx => by rw [← e2]; exact List.mem_append.2 (.inl hx)
  refine ⟨by rw [List.append_assoc, e2, e1], fun x hx => by simpa [early] using takeWhile_all x hx, fun x hx => ?_, fun x hx => by simpa [soon] using takeWhile_all x hx, fun x hx => ?_, h⟩
  · have := hr x (mo x hx)
    simp only [early, decide_eq_false_iff_not] at this
    omega
  · have := hb x hx
    simp only [soon, decide_eq_false_iff_not] at this
    omega
theorem Cutt.gA {l a o b : List Sp} {s : Sp} (h : Cutt l a o b s) : Good a := by have := h.good; rw [h.eq, List.append_assoc] at this; exact this.split.1
theorem Cutt.gO {l a o b : List Sp} {s : Sp} (h : Cutt l a o b s) : Good o := by have := h.good; rw [h.eq] at this; exact this.split.1.split.2.1
theorem Cutt.gB {l a o b : List Sp} {s : Sp} (h : Cutt l a o b s) : Good b := by have := h.good; rw [h.eq] at this; exact this.split.2.1
theorem Cutt.ao {l a o b : List Sp} {s : Sp} (h : Cutt l a o b s) : ∀ x ∈ a, ∀ y ∈ o, x.2 < y.1 := by have := h.good; rw [h.eq] at this; exact this.split.1.split.2.2
theorem Cutt.ab {l a o b : List Sp} {s : Sp} (h : Cutt l a o b s) : ∀ x ∈ a, ∀ y ∈ b, x.2 < y.1 := by have := h.good; rw [h.eq] at this; exact fun x hx y hy => this.split.2.2 x (List.mem_append.2 (.inl hx)) y hy
theorem Cutt.ob {l a o b : List Sp} {s : Sp} (h : Cutt l a o b s) : ∀ x ∈ o, ∀ y ∈ b, x.2 < y.1 := by have := h.good; rw [h.eq] at this; exact fun x hx y hy => this.split.2.2 x (List.mem_append.2 (.inr hx)) y hy
theorem Cutt.mem {l a o b : List Sp} {s : Sp} (h : Cutt l a o b s) (p : Int) : Mem l p ↔ Mem a p ∨ Mem o p ∨ Mem b p := by rw [h.eq, Mem.append, Mem.append, or_assoc]
/-- A middle part in the place of what touches. -/
theorem Cutt.mid {l a o b : List Sp} {s : Sp} (h : Cutt l a o b s) {m : List Sp} (hm : Good m) (h1 : ∀ x ∈ a, ∀ y ∈ m, x.2 < y.1) (h2 : ∀ x ∈ m, ∀ y ∈ b, x.2 < y.1) : Good (a ++ m ++ b) :=
  (h.gA.append hm h1).append h.gB fun x hx y hy => (List.mem_append.1 hx).elim (fun q => h.ab x q y hy) (fun q => h2 x q y hy)
theorem Good.order {l : List Sp} (h : Good l) : ∀ {a b : Sp}, l.head? = some a → l.getLast? = some b → ∀ x ∈ l, a.1 ≤ x.1 ∧ x.2 ≤ b.2 := by
  induction l with
  | nil => intro a b h1; cases h1
  | cons y l ih =>
    intro a b h1 h2 x hx
    simp only [List.head?_cons, Option.some.injEq] at h1
    subst h1
    have hy := h.head
    unfold Ok1 at hy
    cases l with
    | nil =>
      simp only [List.getLast?_singleton, Option.some.injEq] at h2
      subst h2
      simp only [List.mem_cons, List.not_mem_nil, or_false] at hx
      subst hx
      exact ⟨Int.le_refl _, Int.le_refl _⟩
    | cons z l =>
      rw [List.getLast?_cons_cons] at h2
      have hz := h.tail.head
      unfold Ok1 at hz
      have hyz := h.next (List.mem_cons_self)
      have hzb := ih h.tail rfl h2 z (.head _)
      rcases List.mem_cons.1 hx with rfl | hx
      · exact ⟨Int.le_refl _, by omega⟩
      · have h3 := ih h.tail rfl h2 x hx
        exact ⟨by omega, h3.2⟩
theorem cover_spec {l a o b : List Sp} {s : Sp} (h : Cutt l a o b s) (hs : 0 ≤ s.1 ∧ s.1 ≤ s.2 ∧ s.2 ≤ 1048576) (hn : s.1 < s.2) :
    Good (a ++ [coverF o s] ++ b) ∧ ∀ p, Mem (a ++ [coverF o s] ++ b) p ↔ Mem l p ∨ (s.1 ≤ p ∧ p < s.2) := by
  cases o with
  | nil =>
    have hc : coverF [] s = s := rfl
    rw [hc]
    refine ⟨h.mid (Good.cons ⟨hs.1, hn, hs.2.2⟩ Good.nil (fun _ q => nomatch q)) (fun x hx y hy => ?_) (fun x hx y hy => ?_), fun p => ?_⟩
    · simp only [List.mem_cons, List.not_mem_nil, or_false] at hy
      subst hy
      exact h.ahead x hx
    · simp only [List.mem_cons, List.not_mem_nil, or_false] at hx
      subst hx
      exact h.behind y hy
    · rw [Mem.append, Mem.append, Mem.cons, h.mem]
      have := @Mem.nil p
      simp only [this, or_false, false_or]
      constructor
      · rintro ((q | q) | q)
        · exact .inl (.inl q)
        · exact .inr q
        · exact .inl (.inr q)
      · rintro ((q | q) | q)
        · exact .inl (.inl q)
        · exact .inr q
        · exact .inl (.inr q)
  | cons u o =>
    obtain ⟨v, hv⟩ : ∃ v, (u :: o).getLast? = some v := ⟨_, List.getLast?_eq_some_getLast (by simp)⟩
    have hc : coverF (u :: o) s = (min s.1 u.1, max s.2 v.2) := by unfold coverF; rw [hv]; rfl
    rw [hc]
    have hvm : v ∈ u :: o := List.mem_of_getLast? hv
    have ord := h.gO.order (show (u :: o).head? = some u from rfl) hv
    have hu := h.gO.head
    have hvo := h.gO.ok v hvm
    unfold Ok1 at hu hvo
    have u1 := h.own1 u (.head _)
    have v2 := h.own2 v hvm
    have hv2 := ord u (.head _)
    refine ⟨h.mid (Good.cons ⟨by show 0 ≤ min s.1 u.1; omega, by show min s.1 u.1 < max s.2 v.2; omega, by show max s.2 v.2 ≤ 1048576; omega⟩ Good.nil (fun _ q => nomatch q)) (fun x hx y hy => ?_) (fun x hx y hy => ?_), fun p => ?_⟩
    · simp only [List.mem_cons, List.not_mem_nil, or_false] at hy
      subst hy
      have := h.ahead x hx
      have := h.ao x hx u (.head _)
      show x.2 < min s.1 u.1
      omega
    · simp only [List.mem_cons, List.not_mem_nil, or_false] at hx
      subst hx
      have := h.behind y hy
      have := h.ob v hvm y hy
      show max s.2 v.2 < y.1
      omega
    · rw [Mem.append, Mem.append, Mem.cons, h.mem]
      have hnil := @Mem.nil p
      simp only [hnil, or_false]
      have key : (min s.1 u.1 ≤ p ∧ p < max s.2 v.2) ↔ Mem (u :: o) p ∨ (s.1 ≤ p ∧ p < s.2) := by
        constructor
        · rintro ⟨h1, h2⟩
          by_cases q1 : p < s.1
          · exact .inl ⟨u, .head _, by omega, by omega⟩
          · by_cases q2 : s.2 ≤ p
            · exact .inl ⟨v, hvm, by omega, by omega⟩
            · exact .inr ⟨by omega, by omega⟩
        · rintro (⟨x, hx, h1, h2⟩ | h1)
          · have := ord x hx; omega
          · omega
      rw [key]
      constructor
      · rintro ((q | q | q) | q)
        · exact .inl (.inl q)
        · exact .inl (.inr (.inl q))
        · exact .inr q
        · exact .inl (.inr (.inr q))
      · rintro ((q | q | q) | q)
        · exact .inl (.inl q)
        · exact .inl (.inr (.inl q))
        · exact .inr q
        · exact .inl (.inr (.inr q))
/-- Parts of each span, one behind the other. -/
theorem flat_spec {f : Sp → List Sp} {Q : Int → Prop} : ∀ {l : List Sp}, Good l → (∀ x ∈ l, Good (f x) ∧ (∀ y ∈ f x, x.1 ≤ y.1 ∧ y.2 ≤ x.2) ∧ ∀ p, Mem (f x) p ↔ (x.1 ≤ p ∧ p < x.2) ∧ Q p) →
    Good (l.flatMap f) ∧ (∀ y ∈ l.flatMap f, ∃ x ∈ l, x.1 ≤ y.1 ∧ y.2 ≤ x.2) ∧ ∀ p, Mem (l.flatMap f) p ↔ Mem l p ∧ Q p
  | [], _, _ => ⟨Good.nil, fun _ h => (nomatch h), fun p => ⟨fun h => (Mem.nil h).elim, fun h => (Mem.nil h.1).elim⟩⟩
  | x :: l, hg, h => by
    obtain ⟨g1, g2, g3⟩ := flat_spec hg.tail fun y hy => h y (.tail _ hy)
    obtain ⟨f1, f2, f3⟩ := h x (.head _)
    rw [List.flatMap_cons]
    refine ⟨f1.append g1 fun a ha b hb => ?_, fun y hy => ?_, fun p => ?_⟩
    · obtain ⟨z, hz, h1, h2⟩ := g2 b hb
      have := f2 a ha
      have := hg.next hz
      omega
    · rcases List.mem_append.1 hy with hy | hy
      · exact ⟨x, .head _, f2 y hy⟩
      · obtain ⟨z, hz, h1⟩ := g2 y hy
        exact ⟨z, .tail _ hz, h1⟩
    · rw [Mem.append, Mem.cons, f3, g3]
      constructor
      · rintro (⟨h1, h2⟩ | ⟨h1, h2⟩)
        · exact ⟨.inl h1, h2⟩
        · exact ⟨.inr h1, h2⟩
      · rintro ⟨h1 | h1, h2⟩
        · exact .inl ⟨h1, h2⟩
        · exact .inr ⟨h1, h2⟩
theorem Good.one {x : Sp} (h : Ok1 x) : Good [x] := Good.cons h Good.nil fun _ q => nomatch q
theorem Mem.one {x : Sp} {p : Int} : Mem [x] p ↔ x.1 ≤ p ∧ p < x.2 := by rw [Mem.cons]; simp [@Mem.nil p]
theorem pieces_spec {s x : Sp} (hs : s.1 < s.2) (hx : Ok1 x) (h1 : s.1 ≤ x.2) (h2 : x.1 ≤ s.2) :
    Good (pieces s x) ∧ (∀ y ∈ pieces s x, x.1 ≤ y.1 ∧ y.2 ≤ x.2) ∧ ∀ p, Mem (pieces s x) p ↔ (x.1 ≤ p ∧ p < x.2) ∧ ¬ (s.1 ≤ p ∧ p < s.2) := by
  unfold Ok1 at hx
  unfold pieces
  by_cases c1 : x.1 < s.1 <;> by_cases c2 : s.2 < x.2
  · rw [if_pos c1, if_pos c2]
    refine ⟨Good.append (Good.one ⟨by show 0 ≤ x.1; omega, by show x.1 < min x.2 s.1; omega, by show min x.2 s.1 ≤ _; omega⟩) (Good.one ⟨by show 0 ≤ max x.1 s.2; omega, by show max x.1 s.2 < x.2; omega, by show x.2 ≤ _; omega⟩) ?_, ?_, fun p => ?_⟩
    · intro a ha b hb
      simp only [List.mem_cons, List.not_mem_nil, or_false] at ha hb
      subst ha hb
      show min x.2 s.1 < max x.1 s.2
      omega
    · intro y hy
      simp only [List.cons_append, List.nil_append, List.mem_cons, List.not_mem_nil, or_false] at hy
      rcases hy with rfl | rfl
      · show x.1 ≤ x.1 ∧ min x.2 s.1 ≤ x.2; omega
      · show x.1 ≤ max x.1 s.2 ∧ x.2 ≤ x.2; omega
    · rw [Mem.append, Mem.one, Mem.one]
      show (x.1 ≤ p ∧ p < min x.2 s.1) ∨ (max x.1 s.2 ≤ p ∧ p < x.2) ↔ _
      omega
  · rw [if_pos c1, if_neg c2, List.append_nil]
    refine ⟨Good.one ⟨by show 0 ≤ x.1; omega, by show x.1 < min x.2 s.1; omega, by show min x.2 s.1 ≤ _; omega⟩, ?_, fun p => ?_⟩
    · intro y hy
      simp only [List.mem_cons, List.not_mem_nil, or_false] at hy
      subst hy
      show x.1 ≤ x.1 ∧ min x.2 s.1 ≤ x.2; omega
    · rw [Mem.one]
      show (x.1 ≤ p ∧ p < min x.2 s.1) ↔ _
      omega
  · rw [if_neg c1, if_pos c2, List.nil_append]
    refine ⟨Good.one ⟨by show 0 ≤ max x.1 s.2; omega, by show max x.1 s.2 < x.2; omega, by show x.2 ≤ _; omega⟩, ?_, fun p => ?_⟩
    · intro y hy
      simp only [List.mem_cons, List.not_mem_nil, or_false] at hy
      subst hy
      show x.1 ≤ max x.1 s.2 ∧ x.2 ≤ x.2; omega
    · rw [Mem.one]
      show (max x.1 s.2 ≤ p ∧ p < x.2) ↔ _
      omega
  · rw [if_neg c1, if_neg c2, List.append_nil]
    refine ⟨Good.nil, fun _ q => (nomatch q), fun p => ?_⟩
    have := @Mem.nil p
    simp only [this, false_iff]
    omega
theorem clip_spec {s x : Sp} (hx : Ok1 x) :
    Good (clip s x) ∧ (∀ y ∈ clip s x, x.1 ≤ y.1 ∧ y.2 ≤ x.2) ∧ ∀ p, Mem (clip s x) p ↔ (x.1 ≤ p ∧ p < x.2) ∧ (s.1 ≤ p ∧ p < s.2) := by
  unfold Ok1 at hx
  unfold clip
  split
  · rename_i c
    refine ⟨Good.one ⟨by show 0 ≤ max x.1 s.1; omega, c, by show min x.2 s.2 ≤ _; omega⟩, ?_, fun p => ?_⟩
    · intro y hy
      simp only [List.mem_cons, List.not_mem_nil, or_false] at hy
      subst hy
      show x.1 ≤ max x.1 s.1 ∧ min x.2 s.2 ≤ x.2; omega
    · rw [Mem.one]
      show (max x.1 s.1 ≤ p ∧ p < min x.2 s.2) ↔ _
      omega
  · refine ⟨Good.nil, fun _ q => (nomatch q), fun p => ?_⟩
    have := @Mem.nil p
    simp only [this, false_iff]
    omega
/-- What the set is behind Add, Remove; what Gaps and Cut tell. -/
theorem remove_spec {l a o b : List Sp} {s : Sp} (h : Cutt l a o b s) (hn : s.1 < s.2) :
    Good (a ++ o.flatMap (pieces s) ++ b) ∧ ∀ p, Mem (a ++ o.flatMap (pieces s) ++ b) p ↔ Mem l p ∧ ¬ (s.1 ≤ p ∧ p < s.2) := by
  obtain ⟨g1, g2, g3⟩ := flat_spec (f := pieces s) (Q := fun p => ¬ (s.1 ≤ p ∧ p < s.2)) h.gO fun x hx => pieces_spec hn (h.gO.ok x hx) (h.own1 x hx) (h.own2 x hx)
  refine ⟨h.mid g1 (fun x hx y hy => ?_) (fun x hx y hy => ?_), fun p => ?_⟩
  · obtain ⟨z, hz, h1, _⟩ := g2 y hy
    have := h.ao x hx z hz
    omega
  · obtain ⟨z, hz, _, h1⟩ := g2 x hx
    have := h.ob z hz y hy
    omega
  · rw [Mem.append, Mem.append, g3, h.mem]
    have ha : Mem a p → ¬ (s.1 ≤ p ∧ p < s.2) := fun ⟨x, hx, h1, h2⟩ => by have := h.ahead x hx; omega
    have hb : Mem b p → ¬ (s.1 ≤ p ∧ p < s.2) := fun ⟨x, hx, h1, h2⟩ => by have := h.behind x hx; omega
    constructor
    · rintro ((q | q) | q)
      · exact ⟨.inl q, ha q⟩
      · exact ⟨.inr (.inl q.1), q.2⟩
      · exact ⟨.inr (.inr q), hb q⟩
    · rintro ⟨q | q | q, r⟩
      · exact .inl (.inl q)
      · exact .inl (.inr ⟨q, r⟩)
      · exact .inr q
theorem cut_spec {l a o b : List Sp} {s : Sp} (h : Cutt l a o b s) :
    Good (o.flatMap (clip s)) ∧ ∀ p, Mem (o.flatMap (clip s)) p ↔ Mem l p ∧ (s.1 ≤ p ∧ p < s.2) := by
  obtain ⟨g1, g2, g3⟩ := flat_spec (f := clip s) (Q := fun p => s.1 ≤ p ∧ p < s.2) h.gO fun x hx => clip_spec (h.gO.ok x hx)
  refine ⟨g1, fun p => ?_⟩
  rw [g3, h.mem]
  have ha : Mem a p → ¬ (s.1 ≤ p ∧ p < s.2) := fun ⟨x, hx, h1, h2⟩ => by have := h.ahead x hx; omega
  have hb : Mem b p → ¬ (s.1 ≤ p ∧ p < s.2) := fun ⟨x, hx, h1, h2⟩ => by have := h.behind x hx; omega
  constructor
  · rintro ⟨q, r⟩; exact ⟨.inr (.inl q), r⟩
  · rintro ⟨q | q | q, r⟩
    · exact (ha q r).elim
    · exact ⟨q, r⟩
    · exact (hb q r).elim
theorem gap_mem {f t p : Int} : Mem (gap f t) p ↔ f ≤ p ∧ p < t := by
  unfold gap
  split
  · rw [Mem.one]
  · have := @Mem.nil p
    simp only [this, false_iff]
    omega
theorem gaps_spec {t : Int} (ht : t ≤ 1048576) : ∀ {l : List Sp} {f : Int}, Good l → 0 ≤ f → f ≤ t →
    Good (gapsG t f l) ∧ (∀ y ∈ gapsG t f l, f ≤ y.1 ∧ y.2 ≤ t) ∧ ∀ p, Mem (gapsG t f l) p ↔ (f ≤ p ∧ p < t) ∧ ¬ Mem l p
  | [], f, _, h0, hf => by
    refine ⟨?_, fun y hy => ?_, fun p => ?_⟩
    · unfold gapsG gap
      split
      · rename_i c; exact Good.one ⟨h0, c, ht⟩
      · exact Good.nil
    · unfold gapsG gap at hy
      split at hy
      · simp only [List.mem_cons, List.not_mem_nil, or_false] at hy
        subst hy
        exact ⟨Int.le_refl _, Int.le_refl _⟩
      · nomatch hy
    · unfold gapsG
      rw [gap_mem]
      simp only [@Mem.nil p, not_false_iff, and_true]
  | x :: l, f, hg, h0, hf => by
    have hx := hg.head
    unfold Ok1 at hx
    obtain ⟨f', hf'⟩ : ∃ f', f' = min (max f x.2) t := ⟨_, rfl⟩
    obtain ⟨g1, g2, g3⟩ := gaps_spec ht (l := l) (f := f') hg.tail (by omega) (by omega)
    have hmem : ∀ y ∈ gap f (min x.1 t), y = (f, min x.1 t) ∧ f < min x.1 t := by
      intro y hy
      unfold gap at hy
      split at hy
      · rename_i c
        simp only [List.mem_cons, List.not_mem_nil, or_false] at hy
        exact ⟨hy, c⟩
      · nomatch hy
    have eg : gapsG t f (x :: l) = gap f (min x.1 t) ++ gapsG t f' l := by rw [hf']; rfl
    rw [eg]
    refine ⟨Good.append ?_ g1 fun a ha b hb => ?_, fun y hy => ?_, fun p => ?_⟩
    · unfold gap
      split
      · rename_i c; exact Good.one ⟨h0, c, by show min x.1 t ≤ _; omega⟩
      · exact Good.nil
    · obtain ⟨rfl, c⟩ := hmem a ha
      have := g2 b hb
      have hb' := g1.ok b hb
      unfold Ok1 at hb'
      show min x.1 t < b.1
      omega
    · rcases List.mem_append.1 hy with hy | hy
      · obtain ⟨rfl, c⟩ := hmem y hy
        show f ≤ f ∧ min x.1 t ≤ t
        omega
      · have := g2 y hy
        omega
    · rw [Mem.append, gap_mem, g3, Mem.cons]
      have behind : Mem l p → x.2 < p := fun ⟨z, hz, h1, h2⟩ => by have := hg.next hz; omega
      constructor
      · rintro (q | ⟨q, r⟩)
        · refine ⟨by omega, ?_⟩
          rintro (c | c)
          · omega
          · have := behind c; omega
        · refine ⟨by omega, ?_⟩
          rintro (c | c)
          · omega
          · exact r c
      · rintro ⟨q, r⟩
        by_cases c : p < x.1
        · exact .inl (by omega)
        · have c2 : ¬ (x.1 ≤ p ∧ p < x.2) := fun c => r (.inl c)
          exact .inr ⟨by omega, fun c => r (.inr c)⟩
/-- The sizes of what a set has of a span, and of what it has not. -/
theorem sumF_append (a b : List Sp) : sumF (a ++ b) = sumF a + sumF b := by
  induction a with
  | nil => simp [sumF]
  | cons x a ih => simp only [List.cons_append, sumF, ih]; omega
theorem sum_gap {f t : Int} : sumF (gap f t) = max (t - f) 0 := by
  unfold gap
  split
  · simp only [sumF]; omega
  · simp only [sumF]; omega
theorem sum_clip {s x : Sp} : sumF (clip s x) = max (min x.2 s.2 - max x.1 s.1) 0 := by
  unfold clip
  split
  · simp only [sumF]; omega
  · simp only [sumF]; omega
theorem sum_both {s : Sp} : ∀ {l : List Sp} {f : Int}, Good l → s.1 ≤ f → f ≤ s.2 → (f = s.1 ∨ ∀ x ∈ l, f ≤ x.1) → sumF (gapsG s.2 f l) + sumF (l.flatMap (clip s)) = s.2 - f
  | [], f, _, h1, h2, _ => by
    simp only [gapsG, sum_gap, List.flatMap_nil, sumF]
    omega
  | x :: l, f, hg, h1, h2, h3 => by
    have hx := hg.head
    unfold Ok1 at hx
    have hx3 : f = s.1 ∨ f ≤ x.1 := h3.elim .inl fun h => .inr (h x (.head _))
    obtain ⟨f', hf'⟩ : ∃ f', f' = min (max f x.2) s.2 := ⟨_, rfl⟩
    have hn : f' = s.1 ∨ f' ≤ x.2 := by omega
    have key : max (min x.1 s.2 - f) 0 + max (min x.2 s.2 - max x.1 s.1) 0 = f' - f := by
      clear hn h3
      rw [hf']
      clear hf'
      simp only [Int.max_def, Int.min_def]
      rcases hx3 with q | q
      all_goals (repeat' split) <;> omega
    have ih := sum_both (s := s) (l := l) (f := f') hg.tail (by omega) (by omega) (hn.imp_right fun hn y hy => by have := hg.next hy; omega)
    have eg : gapsG s.2 f (x :: l) = gap f (min x.1 s.2) ++ gapsG s.2 f' l := by rw [hf']; rfl
    rw [eg, List.flatMap_cons, sumF_append, sumF_append, sum_gap, sum_clip]
    clear hn h3 hf' hx3
    omega
theorem Good.empty_of {l : List Sp} (h : Good l) (hm : ∀ p, ¬ Mem l p) : l = [] := by
  cases l with
  | nil => rfl
  | cons x l =>
    have := h.head
    unfold Ok1 at this
    exact (hm x.1 ⟨x, .head _, by omega, by omega⟩).elim
end Go.Proofs.Ythhaaakabpnbnaa
