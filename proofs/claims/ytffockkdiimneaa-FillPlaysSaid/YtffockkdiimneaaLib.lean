/-
  OWN WORDS, OVER ANY PROGRAM: a frame by a set of blocks ('Only'), and maps keyed by integers or strings, read as an association list in the order of their entries ('KMap').
  No conditions.
-/
import Derived.WalkKit
import Derived.WalkSpells
import Derived.WalkLawsBesides
import Derived.ProofKit
import Derived.OpenShut
namespace Go.Proofs.Ytffockkdiimneaa
open Go.RowKit Go.MapKept

/-! ### the frame -/
structure Only (S : Nat → Prop) (w w' : World) : Prop where
  os : w'.os = w.os
  tape : w'.tape = w.tape
  output : w'.output = w.output
  size : w.heap.size ≤ w'.heap.size
  block : ∀ k, k < w.heap.size → ¬ S k → w'.heap[k]? = w.heap[k]?

theorem Only.refl (S : Nat → Prop) (w : World) : Only S w w := ⟨rfl, rfl, rfl, Nat.le_refl _, fun _ _ _ => rfl⟩
theorem Only.trans {S : Nat → Prop} {a b c : World} (h : Only S a b) (k : Only S b c) : Only S a c :=
  ⟨k.os.trans h.os, k.tape.trans h.tape, k.output.trans h.output, Nat.le_trans h.size k.size, fun i hi hs => (k.block i (Nat.lt_of_lt_of_le hi h.size) hs).trans (h.block i hi hs)⟩
theorem Only.mono {S T : Nat → Prop} {a b : World} (h : Only S a b) (hs : ∀ k, k < a.heap.size → S k → T k) : Only T a b :=
  ⟨h.os, h.tape, h.output, h.size, fun i hi ht => h.block i hi (fun h' => ht (hs i hi h'))⟩
theorem Only.drew {S : Nat → Prop} {a w : World} (h : Only S a w) : Only S a w.drew := ⟨h.os, h.tape, h.output, h.size, h.block⟩
theorem Only.drewN {S : Nat → Prop} {a w : World} (h : Only S a w) (n : Nat) : Only S a (w.drewN n) := ⟨h.os, h.tape, h.output, h.size, h.block⟩
theorem Only.alloc {S : Nat → Prop} {a w : World} (h : Only S a w) (o : Obj) : Only S a (w.alloc o) :=
  ⟨h.os, h.tape, h.output, Nat.le_trans h.size (by simp), fun i hi hs => (Below.heap_alloc w o i (Nat.lt_of_lt_of_le hi h.size)).trans (h.block i hi hs)⟩
theorem Only.setCell {S : Nat → Prop} {a w : World} (h : Only S a w) {p : Addr} (hp : p.block < a.heap.size → S p.block) (u : Value) : Only S a (w.setCell p u) :=
  ⟨h.os, h.tape, h.output, by simpa using h.size, fun i hi hs => (Below.heap_setCell w p u i (by rintro rfl; exact hs (hp hi))).trans (h.block i hi hs)⟩
theorem Only.putObj {S : Nat → Prop} {a w : World} (h : Only S a w) {b : Nat} (hp : b < a.heap.size → S b) (o : Obj) : Only S a { w with heap := w.heap.setIfInBounds b o } :=
  ⟨h.os, h.tape, h.output, by simpa using h.size, fun i hi hs => by
    have hne : b ≠ i := by rintro rfl; exact hs (hp hi)
    have := h.block i hi hs
    simpa [Array.getElem?_setIfInBounds, hne] using this⟩
theorem Only.of_below {B : Nat} {a w : World} (h : Below B a w) : Only (fun k => B ≤ k) a w := ⟨h.os, h.tape, h.output, h.size, fun i _ hs => h.block i (by omega)⟩
theorem Only.below {B : Nat} {S : Nat → Prop} {a w : World} (h : Only S a w) (hB : B ≤ a.heap.size) (hs : ∀ k, S k → B ≤ k) : Below B a w :=
  ⟨h.os, h.tape, h.output, h.size, fun i hi => h.block i (by omega) (fun h' => by have := hs i h'; omega)⟩
theorem Only.of_grown {S : Nat → Prop} {a w w' : World} {row : Option Nat} (h : Only S a w) (hg : w.grownBy w' row) (hr : ∀ k, row = some k → k < a.heap.size → S k) : Only S a w' :=
  ⟨hg.os.trans h.os, hg.tape.trans h.tape, hg.output.trans h.output, Nat.le_trans h.size hg.size, fun i hi hs => (hg.block i (Nat.lt_of_lt_of_le hi h.size) (fun e => hs (hr i e.symm hi))).trans (h.block i hi hs)⟩
theorem Only.keep {S : Nat → Prop} {a w : World} (h : Only S a w) {k : Nat} {o : Obj} (hk : a.heap[k]? = some o) (hs : ¬ S k) : w.heap[k]? = some o := by
  have hlt : k < a.heap.size := (Array.getElem?_eq_some_iff.1 hk).1
  exact (h.block k hlt hs).trans hk
theorem Only.cell {S : Nat → Prop} {a w : World} (h : Only S a w) {p : Addr} (hp : p.block < a.heap.size) (hs : ¬ S p.block) : w.cell? p = a.cell? p := World.cell?_of_block (h.block _ hp hs)
theorem Only.frozen {S : Nat → Prop} {a w : World} (h : Only S a w) {p : Addr} (hp : p.block < a.heap.size) (hs : ¬ S p.block) : w.frozen? p = a.frozen? p := World.frozen?_of_block (h.block _ hp hs)
theorem lt_of_heap {w : World} {k : Nat} {o : Obj} (hk : w.heap[k]? = some o) : k < w.heap.size := (Array.getElem?_eq_some_iff.1 hk).1

/-! ### a block that is known whole -/
theorem blk_cell {w : World} {g : Nat} {t : TypeId} {cs : Array Value} (h : w.heap[g]? = some (.cells cs t (0, 0))) (i : Nat) : w.cell? ⟨g, i, none⟩ = cs[i]? := cell_of_row w g i cs t (0, 0) h
theorem blk_frozen {w : World} {g : Nat} {t : TypeId} {cs : Array Value} (h : w.heap[g]? = some (.cells cs t (0, 0))) (i : Nat) : w.frozen? ⟨g, i, none⟩ = false := by simp [World.frozen?, h]
theorem blk_new (w : World) (o : Obj) : (w.alloc o).heap[w.heap.size]? = some o := heap_alloc_new w _
theorem blk_alloc {w : World} {g : Nat} {x : Obj} (h : w.heap[g]? = some x) (o : Obj) : (w.alloc o).heap[g]? = some x := (Below.heap_alloc w o g (lt_of_heap h)).trans h
theorem blk_set {w : World} {g : Nat} {t : TypeId} {cs : Array Value} (h : w.heap[g]? = some (.cells cs t (0, 0))) (i : Nat) (u : Value) : (w.setCell ⟨g, i, none⟩ u).heap[g]? = some (.cells (cs.setIfInBounds i u) t (0, 0)) := by
  simp [World.setCell, Array.getElem?_modify, h]
theorem blk_far {w : World} {g : Nat} {x : Obj} (h : w.heap[g]? = some x) {p : Addr} (hp : g ≠ p.block) (u : Value) : (w.setCell p u).heap[g]? = some x := (Below.heap_setCell w p u g hp).trans h
theorem blk_ne {w : World} {g g' : Nat} {t t' : TypeId} {cs cs' : Array Value} {f f' : Nat × Nat} (h : w.heap[g]? = some (.cells cs t f)) (h' : w.heap[g']? = some (.cells cs' t' f')) (hne : t ≠ t') : g ≠ g' := by
  rintro rfl
  rw [h] at h'
  injection h' with h'
  injection h' with _ ht
  exact hne ht
theorem blk_ne_map {w : World} {g g' : Nat} {t : TypeId} {cs : Array Value} {f : Nat × Nat} {es : Array MapEntry} {c : Nat} (h : w.heap[g]? = some (.cells cs t f)) (h' : w.heap[g']? = some (.map es c)) : g ≠ g' := by
  rintro rfl
  rw [h] at h'
  injection h' with h'
  cases h'

theorem nodup_inj {α : Type} {l : List α} (h : l.Nodup) {i j : Nat} {a : α} (hi : l[i]? = some a) (hj : l[j]? = some a) : i = j := by
  obtain ⟨h1, e1⟩ := List.getElem?_eq_some_iff.1 hi
  obtain ⟨h2, e2⟩ := List.getElem?_eq_some_iff.1 hj
  have hp := List.pairwise_iff_getElem.1 h
  rcases Nat.lt_trichotomy i j with hl | he | hl
  · exact absurd (e1.trans e2.symm) (hp i j h1 h2 hl)
  · exact he
  · exact absurd (e2.trans e1.symm) (hp j i h2 h1 hl)

/-! ### maps as association lists -/
def KMap (w : World) (m : Nat) (l : List (Value × Value)) : Prop := ∃ es clk, w.heap[m]? = some (.map es clk) ∧ es.toList.map (fun e => (e.key, e.val)) = l

theorem KMap.lt {w : World} {m : Nat} {l : List (Value × Value)} (h : KMap w m l) : m < w.heap.size := let ⟨_, _, h, _⟩ := h; lt_of_heap h
theorem KMap.new (w : World) : KMap (w.alloc (.map #[] 0)) w.heap.size [] := ⟨#[], 0, blk_new w _, rfl⟩
theorem KMap.of_block {w w' : World} {m : Nat} {l : List (Value × Value)} (h : KMap w m l) (hb : w'.heap[m]? = w.heap[m]?) : KMap w' m l := let ⟨es, c, h, e⟩ := h; ⟨es, c, hb.trans h, e⟩
theorem KMap.alloc {w : World} {m : Nat} {l : List (Value × Value)} (h : KMap w m l) (o : Obj) : KMap (w.alloc o) m l := h.of_block (Below.heap_alloc w o m h.lt)
theorem KMap.setCell {w : World} {m : Nat} {l : List (Value × Value)} (h : KMap w m l) (p : Addr) (u : Value) : KMap (w.setCell p u) m l := by
  obtain ⟨es, c, h, e⟩ := h
  refine ⟨es, c, ?_, e⟩
  simp only [World.setCell, Array.getElem?_modify]
  split
  · rename_i hb; subst hb; simp [h]
  · exact h
theorem KMap.only {S : Nat → Prop} {w w' : World} {m : Nat} {l : List (Value × Value)} (h : KMap w m l) (ho : Only S w w') (hs : ¬ S m) : KMap w' m l := h.of_block (ho.block m h.lt hs)
theorem KMap.ne_cells {w : World} {m g : Nat} {l : List (Value × Value)} {t : TypeId} {cs : Array Value} {f : Nat × Nat} (h : KMap w m l) (hg : w.heap[g]? = some (.cells cs t f)) : g ≠ m := let ⟨_, _, h, _⟩ := h; blk_ne_map hg h

/-- The value that a key has, as the model looks for it: the first one. -/
noncomputable local instance : DecidableEq Value := fun a b => Classical.propDecidable (a = b)
noncomputable def kget (k : Value) : List (Value × Value) → Option Value
  | [] => none
  | (a, v) :: r => if a = k then some v else kget k r


theorem findNow_get {d : TypeDesc} {k : Value} (hk : IsKey d k) : ∀ (es : List MapEntry) (i : Nat), (∀ x ∈ es, IsKey d x.key) →
    (Instr.findNow d k es i = some none ∧ kget k (es.map fun e => (e.key, e.val)) = none ∧ ∀ x ∈ es, x.key ≠ k) ∨
    ∃ j e, Instr.findNow d k es i = some (some (i + j, e.val)) ∧ es[j]? = some e ∧ e.key = k ∧ kget k (es.map fun e => (e.key, e.val)) = some e.val ∧ ∀ j', j' < j → ∀ x, es[j']? = some x → x.key ≠ k
  | [], _, _ => .inl ⟨rfl, rfl, by simp⟩
  | e :: es, i, h => by
    obtain ⟨r, hr, hiff⟩ := sameNow_of_keys hk (h e (.head _))
    cases r with
    | true =>
      have he : e.key = k := (hiff.1 rfl).symm
      exact .inr ⟨0, e, by simp [Instr.findNow, hr], rfl, he, by simp [kget, he], by simp⟩
    | false =>
      have hne : e.key ≠ k := fun q => by have := hiff.2 q.symm; cases this
      rcases findNow_get hk es (i + 1) (fun x hx => h x (.tail _ hx)) with ⟨h1, h2, h3⟩ | ⟨j, e', h1, h2, h3, h4, h5⟩
      · exact .inl ⟨by simp [Instr.findNow, hr, h1], by simp [kget, hne, h2], fun x hx => by
          cases hx with
          | head => exact hne
          | tail _ hx => exact h3 x hx⟩
      · refine .inr ⟨j + 1, e', by simp [Instr.findNow, hr, h1]; omega, by simpa using h2, h3, by simp [kget, hne, h4], ?_⟩
        intro j' hj' x hx
        cases j' with
        | zero => simp at hx; subst hx; exact hne
        | succ j' => exact h5 j' (by omega) x (by simpa using hx)

section
variable {P : Program} {w : World} {m : Nat} {l : List (Value × Value)} {t kt et : TypeId} {d : TypeDesc} {k : Value}

theorem run_lookup_k (ht : P.underlying t = some (.map kt et)) (hd : P.underlying kt = some d) (hk : IsKey d k) {z : Value} (hz : ∀ w : World, (zeroValue et).run P w = .ok z w)
    (h : KMap w m l) (hl : ∀ x ∈ l, IsKey d x.1) (c : Bool) :
    (Instr.lookup t (.map (some m)) k c).run P w = .ok (if c then .tuple #[(kget k l).getD z, .bool (kget k l).isSome] else (kget k l).getD z) w := by
  obtain ⟨es, clk, hb, rfl⟩ := h
  have hes : ∀ x ∈ es.toList, IsKey d x.key := fun x hx => hl (x.key, x.val) (List.mem_map.2 ⟨x, hx, rfl⟩)
  rcases findNow_get hk es.toList 0 hes with ⟨h1, h2, _⟩ | ⟨j, e, h1, h2, h3, h4, _⟩
  · simp [Instr.lookup, run_underlying ht, MapKept.run_getObj_map hb, run_checkKey hd hk, run_findKey hd h1, hz, Result.andThen, h2]
  · simp [Instr.lookup, run_underlying ht, MapKept.run_getObj_map hb, run_checkKey hd hk, run_findKey hd h1, Result.andThen, h4]

theorem run_len_k (ht : P.underlying t = some (.map kt et)) (h : KMap w m l) (ty : TypeId) : (Builtin.len_ #[t] ty #[.map (some m)]).run P w = .ok (.int .i64 l.length) w := by
  obtain ⟨es, clk, hb, rfl⟩ := h
  simp [Builtin.len_, run_underlying ht, MapKept.run_getObj_map hb, Result.andThen, goInt]
end

/-- The list behind a store: the key's first place gets the value; a new key stands last. -/
noncomputable def kput (k v : Value) : List (Value × Value) → List (Value × Value)
  | [] => [(k, v)]
  | (a, u) :: r => if a = k then (k, v) :: r else (a, u) :: kput k v r
/-- The list behind a delete. -/
noncomputable def kdel (k : Value) : List (Value × Value) → List (Value × Value)
  | [] => []
  | (a, u) :: r => if a = k then r else (a, u) :: kdel k r

theorem kput_none {k v : Value} : ∀ {l : List (Value × Value)}, (∀ x ∈ l, x.1 ≠ k) → kput k v l = l ++ [(k, v)]
  | [], _ => rfl
  | (a, u) :: r, h => by
    have h1 : a ≠ k := h (a, u) (.head _)
    simp [kput, h1, kput_none (fun x hx => h x (.tail _ hx))]
theorem kput_at {k v : Value} : ∀ {l : List (Value × Value)} {j : Nat} {u : Value}, l[j]? = some (k, u) → (∀ j', j' < j → ∀ x, l[j']? = some x → x.1 ≠ k) → kput k v l = l.set j (k, v)
  | (a, u') :: r, 0, u, h, _ => by simp at h; obtain ⟨rfl, rfl⟩ := h; simp [kput]
  | (a, u') :: r, j + 1, u, h, h2 => by
    have h1 : a ≠ k := h2 0 (by omega) (a, u') rfl
    simp only [kput, h1, if_false, List.set_cons_succ]
    rw [kput_at (l := r) (j := j) (u := u) (by simpa using h) (fun j' hj' x hx => h2 (j' + 1) (by omega) x (by simpa using hx))]
theorem kdel_none {k : Value} : ∀ {l : List (Value × Value)}, (∀ x ∈ l, x.1 ≠ k) → kdel k l = l
  | [], _ => rfl
  | (a, u) :: r, h => by
    have h1 : a ≠ k := h (a, u) (.head _)
    simp [kdel, h1, kdel_none (fun x hx => h x (.tail _ hx))]
theorem kdel_at {k : Value} : ∀ {l : List (Value × Value)} {j : Nat} {u : Value}, l[j]? = some (k, u) → (∀ j', j' < j → ∀ x, l[j']? = some x → x.1 ≠ k) → kdel k l = l.eraseIdx j
  | (a, u') :: r, 0, u, h, _ => by simp at h; obtain ⟨rfl, rfl⟩ := h; simp [kdel]
  | (a, u') :: r, j + 1, u, h, h2 => by
    have h1 : a ≠ k := h2 0 (by omega) (a, u') rfl
    simp only [kdel, h1, if_false, List.eraseIdx_cons_succ]
    rw [kdel_at (l := r) (j := j) (u := u) (by simpa using h) (fun j' hj' x hx => h2 (j' + 1) (by omega) x (by simpa using hx))]

theorem map_eraseIdx' {α β : Type} (f : α → β) : ∀ (l : List α) (j : Nat), (l.eraseIdx j).map f = (l.map f).eraseIdx j
  | [], _ => by simp
  | _ :: _, 0 => by simp
  | a :: r, j + 1 => by simp [map_eraseIdx' f r j]
theorem eraseIdxIf_toList {α : Type} (es : Array α) (i : Nat) (h : i < es.size) : (es.eraseIdxIfInBounds i).toList = es.toList.eraseIdx i := by
  simp [Array.eraseIdxIfInBounds, h]

section
variable {P : Program} {w : World} {m : Nat} {l : List (Value × Value)} {t kt et : TypeId} {d : TypeDesc} {k v : Value}

theorem sameBits_key (hk : IsKey d k) : Instr.sameBits 10000 k k = true := by
  cases k <;> cases d <;> simp_all [IsKey, Instr.sameBits, bytes_beq]

theorem kmap_put {es : Array MapEntry} {clk : Nat} (hb : w.heap[m]? = some (.map es clk)) (es' : Array MapEntry) (clk' : Nat) : KMap { w with heap := w.heap.setIfInBounds m (.map es' clk') } m (es'.toList.map fun e => (e.key, e.val)) :=
  ⟨es', clk', (heap_set hb).1, rfl⟩

theorem run_mapUpdate_k (ht : P.underlying t = some (.map kt et)) (hd : P.underlying kt = some d) (hk : IsKey d k) (h : KMap w m l) (hl : ∀ x ∈ l, IsKey d x.1) :
    ∃ o : Obj, (Instr.mapUpdate t (.map (some m)) k v).run P w = .ok () { w with heap := w.heap.setIfInBounds m o } ∧ KMap { w with heap := w.heap.setIfInBounds m o } m (kput k v l) := by
  obtain ⟨es, clk, hb, rfl⟩ := h
  have hes : ∀ x ∈ es.toList, IsKey d x.key := fun x hx => hl (x.key, x.val) (List.mem_map.2 ⟨x, hx, rfl⟩)
  rcases findNow_get hk es.toList 0 hes with ⟨h1, _, h3⟩ | ⟨j, e, h1, h2, h3, _, h5⟩
  · refine ⟨.map (es.push { key := k, val := v, born := clk }) (clk + 1), ?_, ?_⟩
    · simp [Instr.mapUpdate, run_underlying ht, MapKept.run_getObj_map hb, run_checkKey hd hk, run_findKey hd h1, Result.andThen, run_setObj_map _ hb]
    · have := kmap_put hb (es.push { key := k, val := v, born := clk }) (clk + 1)
      rw [kput_none (by intro x hx; obtain ⟨y, hy, rfl⟩ := List.mem_map.1 hx; exact h3 y hy)]
      simpa using this
  · have hj : es[j]? = some e := by simpa using h2
    have hjl : j < es.size := (Array.getElem?_eq_some_iff.1 hj).1
    refine ⟨.map (es.modify j fun e => { e with key := k, val := v }) clk, ?_, ?_⟩
    · simp [Instr.mapUpdate, run_underlying ht, MapKept.run_getObj_map hb, run_checkKey hd hk, run_findKey hd h1, Result.andThen, run_setObj_map _ hb, hj, h3, Instr.keyThatStays, sameBits_key hk]
    · have := kmap_put hb (es.modify j fun e => { e with key := k, val := v }) clk
      rw [kput_at (j := j) (u := e.val) (by simp [hj, h3]) (by
        intro j' hj' x hx
        simp only [List.getElem?_map, Option.map_eq_some_iff] at hx
        obtain ⟨y, hy, rfl⟩ := hx
        exact h5 j' hj' y hy)]
      have he : (es.modify j fun e => { e with key := k, val := v }).toList.map (fun e => (e.key, e.val)) = (es.toList.map fun e => (e.key, e.val)).set j (k, v) := by
        apply List.ext_getElem?
        intro i
        simp only [List.getElem?_map, Array.getElem?_toList, Array.getElem?_modify, List.getElem?_set, List.length_map, Array.length_toList]
        by_cases hij : j = i
        · subst hij; simp [hj, hjl]
        · simp [hij]
      rw [he] at this
      exact this

theorem run_delete_k (ht : P.underlying t = some (.map kt et)) (hd : P.underlying kt = some d) (hk : IsKey d k) (h : KMap w m l) (hl : ∀ x ∈ l, IsKey d x.1) (ty : TypeId) :
    ∃ o : Obj, (Builtin.delete_ #[t, kt] ty #[.map (some m), k]).run P w = .ok (.tuple #[]) { w with heap := w.heap.setIfInBounds m o } ∧ KMap { w with heap := w.heap.setIfInBounds m o } m (kdel k l) := by
  obtain ⟨es, clk, hb, rfl⟩ := h
  have hes : ∀ x ∈ es.toList, IsKey d x.key := fun x hx => hl (x.key, x.val) (List.mem_map.2 ⟨x, hx, rfl⟩)
  rcases findNow_get hk es.toList 0 hes with ⟨h1, _, h3⟩ | ⟨j, e, h1, h2, h3, _, h5⟩
  · refine ⟨.map es clk, ?_, ?_⟩
    · simp [Builtin.delete_, run_underlying ht, MapKept.run_getObj_map hb, run_checkKey hd hk, run_findKey hd h1, Result.andThen, run_setObj_map _ hb]
    · have := kmap_put hb es clk
      rw [kdel_none (by intro x hx; obtain ⟨y, hy, rfl⟩ := List.mem_map.1 hx; exact h3 y hy)]
      exact this
  · have hj : es[j]? = some e := by simpa using h2
    have hjl : j < es.size := (Array.getElem?_eq_some_iff.1 hj).1
    refine ⟨.map (es.eraseIdxIfInBounds j) clk, ?_, ?_⟩
    · simp [Builtin.delete_, run_underlying ht, MapKept.run_getObj_map hb, run_checkKey hd hk, run_findKey hd h1, Result.andThen, run_setObj_map _ hb]
    · have := kmap_put hb (es.eraseIdxIfInBounds j) clk
      rw [kdel_at (j := j) (u := e.val) (by simp [hj, h3]) (by
        intro j' hj' x hx
        simp only [List.getElem?_map, Option.map_eq_some_iff] at hx
        obtain ⟨y, hy, rfl⟩ := hx
        exact h5 j' hj' y hy)]
      rw [eraseIdxIf_toList _ _ hjl, map_eraseIdx'] at this
      exact this
end
end Go.Proofs.Ytffockkdiimneaa
