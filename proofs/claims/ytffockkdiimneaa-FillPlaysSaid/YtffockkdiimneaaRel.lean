/-
  A desk that a walk has made and holds on to. No conditions.
-/
import Derived.Test.YtffockkdiimneaaEnd
import Derived.Laws.IdiomStrings
import Derived.Laws.BytesArg
import Derived.Deep.DeepCutAuto
import Derived.Deep.RegionHeld3
namespace Go.Proofs.Ytffockkdiimneaa
open Go.RowKit

/-- Behind the world w a desk was made at p, and it holds d now. -/
def DRel (w : World) (p : Nat) (d : Desk) (w' : World) : Prop :=
  ∃ D : DMem, D.p = p ∧ DeskAt w' D d ∧ Below w.heap.size w w' ∧ ∀ k, DOwns D k → w.heap.size ≤ k
theorem DeskAt.owns_kind {w : World} {D : DMem} {d : Desk} (h : DeskAt w D d) {k : Nat} (hk : DOwns D k) : (∃ es c, w.heap[k]? = some (.map es c)) ∨ ∃ cur e, w.heap[k]? = some (.cells cur e (0, 0)) ∧ (e = 48 ∨ e = 69 ∨ e = 5) := by
  rcases hk with rfl | rfl | rfl | ⟨m, hm, hk⟩
  · exact .inr ⟨_, _, h.desk, .inl rfl⟩
  · obtain ⟨es, c, h1, _⟩ := h.names; exact .inl ⟨es, c, h1⟩
  · obtain ⟨es, c, h1, _⟩ := h.jobs; exact .inl ⟨es, c, h1⟩
  · obtain ⟨j, hj⟩ := h.mem hm
    obtain ⟨cur, e, hc, he⟩ := hj.kind hk
    exact .inr ⟨cur, e, hc, .inr he⟩
theorem DeskAt.owns_ne {w : World} {D : DMem} {d : Desk} (h : DeskAt w D d) {g : Nat} {cs : Array Value} {t : TypeId} {f : Nat × Nat} (hg : w.heap[g]? = some (.cells cs t f)) (h1 : t ≠ 48) (h2 : t ≠ 69) (h3 : t ≠ 5) {k : Nat} (hk : DOwns D k) : k ≠ g := by
  rintro rfl
  rcases h.owns_kind hk with ⟨es, c, h⟩ | ⟨cur, e, h, he⟩
  · rw [h] at hg; injection hg with hg; cases hg
  · rw [h] at hg
    injection hg with hg
    injection hg with _ ht
    subst ht
    rcases he with q | q | q
    · exact h1 q
    · exact h2 q
    · exact h3 q
theorem DRel.step {w w1 w2 : World} {p : Nat} {d' : Desk} {D D' : DMem} (hp : D.p = p) (hb : Below w.heap.size w w1) (ho : ∀ k, DOwns D k → w.heap.size ≤ k) (h' : DeskAt w2 D' d') (hs : DStep w1 w2 D D') : DRel w p d' w2 :=
  ⟨D', hs.same.trans hp, h', hb.trans (hs.only.below hb.size ho), fun k hk => (hs.grow k hk).elim (ho k) (fun q => Nat.le_trans hb.size q)⟩
theorem DRel.only {F : Nat → Prop} {w w1 w2 : World} {p : Nat} {d : Desk} (h : DRel w p d w1) (ho : Only F w1 w2) (hF : ∀ k, F k → w.heap.size ≤ k) (hd : ∀ D : DMem, DeskAt w1 D d → ∀ k, DOwns D k → ¬ F k) : DRel w p d w2 := by
  obtain ⟨D, h1, h2, h3, h4⟩ := h
  exact ⟨D, h1, h2.only ho (hd D h2), h3.trans (ho.below h3.size hF), h4⟩
theorem DRel.quiet {w w1 w2 : World} {p : Nat} {d : Desk} (h : DRel w p d w1) (ho : Quiet w1 w2) : DRel w p d w2 := h.only ho (fun _ x => x.elim) (fun _ _ _ _ x => x)
theorem DRel.below {w w1 : World} {p : Nat} {d : Desk} (h : DRel w p d w1) : Below w.heap.size w w1 := let ⟨_, _, _, h, _⟩ := h; h
theorem DRel.start {w w0 w1 : World} {D : DMem} {d : Desk} (hq : Below w.heap.size w w0) (h : DeskAt w1 D d) (ho : Quiet w0 w1) (hn : ∀ k, DOwns D k → w0.heap.size ≤ k) : DRel w D.p d w1 :=
  ⟨D, rfl, h, hq.trans (ho.below hq.size (fun _ x => x.elim)), fun k hk => Nat.le_trans hq.size (hn k hk)⟩
/-- .. and beside it a block of another kind stays. -/
theorem DStep.keep {w w' : World} {D D' : DMem} {d : Desk} (hs : DStep w w' D D') (h : DeskAt w D d) {g : Nat} {cs : Array Value} {t : TypeId} {f : Nat × Nat} (hg : w.heap[g]? = some (.cells cs t f)) (h1 : t ≠ 48) (h2 : t ≠ 69) (h3 : t ≠ 5) : w'.heap[g]? = some (.cells cs t f) :=
  hs.only.keep hg fun hk => h.owns_ne hg h1 h2 h3 hk rfl
end Go.Proofs.Ytffockkdiimneaa
