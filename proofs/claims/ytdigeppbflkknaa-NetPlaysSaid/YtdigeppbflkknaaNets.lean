/-
  How a whole net lies in memory: its wires, each apart from the others. No conditions.
-/
import Derived.Test.YtdigeppbflkknaaWords
namespace Go.Proofs.Ytdigeppbflkknaa
open Go.RowKit

/-- What a wire's memory is. -/
def Owns (m : WMem) (k : Nat) : Prop := k = m.blk ∨ RowOf m.a0 k ∨ RowOf m.a1 k
structure NMem where
  p : Nat
  A : Option Addr
  c : Nat
  ws : List WMem
def NOwns (N : NMem) (k : Nat) : Prop := k = N.p ∨ RowOf N.A k ∨ ∃ m ∈ N.ws, Owns m k
structure NetAt (w : World) (N : NMem) (xs : List Wire) : Prop where
  len : N.ws.length = xs.length
  small : xs.length ≤ 256
  net : w.heap[N.p]? = some (.cells #[.bool true, .slice N.A xs.length N.c] 26 (0, 0))
  row : Sl w 60 N.A xs.length N.c (N.ws.map fun m => ptr m.blk)
  wires : ∀ (i : Nat) (m : WMem) (x : Wire), N.ws[i]? = some m → xs[i]? = some x → WireAt w m x
  apart : ∀ (i j : Nat) (m m' : WMem), i ≠ j → N.ws[i]? = some m → N.ws[j]? = some m' → ∀ k, Owns m k → ¬ Owns m' k
/-- What a call may do to a net's memory. -/
structure NStep (w w' : World) (N N' : NMem) : Prop where
  same : N'.p = N.p
  only : Only (NOwns N) w w'
  grow : ∀ k, NOwns N' k → NOwns N k ∨ w.heap.size ≤ k

theorem WireAt.lt {w : World} {m : WMem} {x : Wire} (h : WireAt w m x) {k : Nat} (hk : Owns m k) : k < w.heap.size := by
  rcases hk with rfl | hk | hk
  · exact lt_of_heap h.blk
  · exact h.sl0.lt hk
  · exact h.sl1.lt hk
theorem WireAt.kind {w : World} {m : WMem} {x : Wire} (h : WireAt w m x) {k : Nat} (hk : Owns m k) : ∃ cur e, w.heap[k]? = some (.cells cur e (0, 0)) ∧ (e = 65 ∨ e = 5) := by
  rcases hk with rfl | hk | hk
  · exact ⟨_, _, h.blk, .inl rfl⟩
  · obtain ⟨cur, hc⟩ := h.sl0.type hk; exact ⟨_, _, hc, .inr rfl⟩
  · obtain ⟨cur, hc⟩ := h.sl1.type hk; exact ⟨_, _, hc, .inr rfl⟩
theorem WireAt.keep {F : Nat → Prop} {w w' : World} {m : WMem} {x : Wire} (h : WireAt w m x) (ho : Only F w w') (hF : ∀ k, Owns m k → ¬ F k) : WireAt w' m x :=
  h.only ho (hF _ (.inl rfl)) (fun _ hk => hF _ (.inr (.inl hk))) (fun _ hk => hF _ (.inr (.inr hk)))
namespace NetAt
variable {w w' : World} {N : NMem} {xs : List Wire}
theorem there (h : NetAt w N xs) {i : Nat} (hi : i < xs.length) : ∃ m x, N.ws[i]? = some m ∧ xs[i]? = some x ∧ WireAt w m x := by
  have hl : i < N.ws.length := by rw [h.len]; exact hi
  exact ⟨N.ws[i], xs[i], List.getElem?_eq_getElem hl, List.getElem?_eq_getElem hi, h.wires i _ _ (List.getElem?_eq_getElem hl) (List.getElem?_eq_getElem hi)⟩
theorem elem (h : NetAt w N xs) {i : Nat} {m : WMem} (hm : N.ws[i]? = some m) : ∃ g off, N.A = some ⟨g, off, none⟩ ∧ g < w.heap.size ∧ w.cell? ⟨g, off + i, none⟩ = some (ptr m.blk) :=
  h.row.cell (by rw [List.getElem?_map, hm]; rfl)
theorem lt (h : NetAt w N xs) {k : Nat} (hk : NOwns N k) : k < w.heap.size := by
  rcases hk with rfl | hk | ⟨m, hm, hk⟩
  · exact lt_of_heap h.net
  · exact h.row.lt hk
  · obtain ⟨i, hi, rfl⟩ := List.getElem_of_mem hm
    obtain ⟨m', x, h1, h2, h3⟩ := h.there (by rw [← h.len]; exact hi)
    rw [List.getElem?_eq_getElem hi] at h1
    obtain rfl := Option.some.inj h1
    exact h3.lt hk
theorem only {F : Nat → Prop} (h : NetAt w N xs) (ho : Only F w w') (hF : ∀ k, NOwns N k → ¬ F k) : NetAt w' N xs :=
  ⟨h.len, h.small, ho.keep h.net (hF _ (.inl rfl)), h.row.only ho (fun k hk => hF k (.inr (.inl hk))),
    fun i m x hm hx => (h.wires i m x hm hx).keep ho (fun k hk => hF k (.inr (.inr ⟨m, List.mem_of_getElem? hm, hk⟩))), h.apart⟩
theorem quiet (h : NetAt w N xs) (ho : Quiet w w') : NetAt w' N xs := h.only ho (fun _ _ x => x)
/-- One wire's change. -/
theorem upd (h : NetAt w N xs) {i : Nat} {m m' : WMem} {x' : Wire} (hm : N.ws[i]? = some m) (hw : WireAt w' m' x') (ho : Only (Owns m) w w') (hb : m'.blk = m.blk) (hg : ∀ k, Owns m' k → Owns m k ∨ w.heap.size ≤ k) :
    NetAt w' { N with ws := N.ws.set i m' } (xs.set i x') ∧ NStep w w' N { N with ws := N.ws.set i m' } := by
  have hi := (List.getElem?_eq_some_iff.1 hm).1
  obtain ⟨m0, x, h1, h2, h3⟩ := h.there (by rw [← h.len]; exact hi)
  rw [hm] at h1
  obtain rfl := Option.some.inj h1
  have hnp : ¬ Owns m N.p := fun hk => by
    obtain ⟨cur, e, hc, he⟩ := h3.kind hk
    have := h.net
    rw [hc] at this
    rcases he with rfl | rfl <;> simp at this
  have hnr : ∀ k, RowOf N.A k → ¬ Owns m k := fun k hk hk' => by
    obtain ⟨cur, e, hc, he⟩ := h3.kind hk'
    obtain ⟨cur', hc'⟩ := h.row.type hk
    rw [hc] at hc'
    rcases he with rfl | rfl <;> simp at hc'
  have hother : ∀ (j : Nat) (m2 : WMem), j ≠ i → N.ws[j]? = some m2 → ∀ k, Owns m2 k → ¬ Owns m' k := fun j m2 hj hm2 k hk hk' => by
    rcases hg k hk' with hk' | hk'
    · exact h.apart j i m2 m hj hm2 hm k hk hk'
    · have := h.lt (.inr (.inr ⟨m2, List.mem_of_getElem? hm2, hk⟩)); omega
  refine ⟨⟨by simp [h.len], by simpa using h.small, by simpa using ho.keep h.net hnp, ?_, fun j m2 x2 hm2 hx2 => ?_, fun j1 j2 m1 m2 hj hm1 hm2 k hk1 hk2 => ?_⟩, rfl, ho.mono (fun k _ hk => .inr (.inr ⟨m, List.mem_of_getElem? hm, hk⟩)), fun k hk => ?_⟩
  · have := h.row.only ho hnr
    have e : ((N.ws.set i m').map fun m => ptr m.blk) = N.ws.map fun m => ptr m.blk := by
      rw [List.map_set, hb]
      refine List.ext_getElem? fun j => ?_
      rw [List.getElem?_set]
      split
      · rename_i hj
        subst hj
        rw [if_pos (by simpa using hi), List.getElem?_map, hm]; rfl
      · rfl
    simpa [e] using this
  · simp only [List.getElem?_set] at hm2 hx2
    by_cases hj : i = j
    · subst hj
      rw [if_pos rfl, if_pos hi] at hm2
      rw [if_pos rfl, if_pos (by rw [← h.len]; exact hi)] at hx2
      obtain rfl := Option.some.inj hm2
      obtain rfl := Option.some.inj hx2
      exact hw
    · rw [if_neg hj] at hm2 hx2
      exact (h.wires j m2 x2 hm2 hx2).keep ho (fun k hk hk' => h.apart j i m2 m (fun e => hj e.symm) hm2 hm k hk hk')
  · simp only [List.getElem?_set] at hm1 hm2
    by_cases h1 : i = j1
    · subst h1
      rw [if_pos rfl, if_pos hi] at hm1
      obtain rfl := Option.some.inj hm1
      rw [if_neg (fun e => hj e)] at hm2
      exact hother j2 m2 (fun e => hj e.symm) hm2 k hk2 hk1
    · rw [if_neg h1] at hm1
      by_cases h2 : i = j2
      · subst h2
        rw [if_pos rfl, if_pos hi] at hm2
        obtain rfl := Option.some.inj hm2
        exact hother j1 m1 (fun e => hj e) hm1 k hk1 hk2
      · rw [if_neg h2] at hm2
        exact h.apart j1 j2 m1 m2 hj hm1 hm2 k hk1 hk2
  · rcases hk with hk | hk | ⟨m2, hm2, hk⟩
    · exact .inl (.inl hk)
    · exact .inl (.inr (.inl hk))
    · rcases List.mem_or_eq_of_mem_set hm2 with hm2 | rfl
      · exact .inl (.inr (.inr ⟨m2, hm2, hk⟩))
      · exact (hg k hk).imp (fun hk => .inr (.inr ⟨m, List.mem_of_getElem? hm, hk⟩)) id
end NetAt
theorem NStep.refl {w w' : World} (N : NMem) (h : Quiet w w') : NStep w w' N N := ⟨rfl, h.mono (fun _ _ x => x.elim), fun _ hk => .inl hk⟩
end Go.Proofs.Ytdigeppbflkknaa
