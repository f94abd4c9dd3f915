/-
  How a world of tasks lies in memory. No conditions.
-/
import Derived.Test.YtgdjbmfpbihopaaSlices
import Derived.Test.YtgdjbmfpbihopaaFit
import Derived.Test.YtgdjbmfpbihopaaNobody
namespace Go.Proofs.Ytgdjbmfpbihopaa
open Go.RowKit Go.MapKept
set_option linter.unusedVariables false
set_option linter.unusedSimpArgs false

/-! ### rows whose elements have two cells -/
def fl {α : Type} (f : α → Value × Value) (l : List α) : List Value := l.flatMap fun x => [(f x).1, (f x).2]
section
variable {α : Type} {f : α → Value × Value}
theorem fl_len : ∀ l : List α, (fl f l).length = l.length * 2
  | [] => rfl
  | x :: l => by
    have := fl_len l
    simp only [fl, List.flatMap_cons, List.length_append, List.length_cons] at this ⊢
    rw [this]
    simp
    omega
theorem fl_app (l m : List α) : fl f (l ++ m) = fl f l ++ fl f m := by simp [fl]
theorem fl_at : ∀ {l : List α} {i : Nat} {x : α}, l[i]? = some x → (fl f l)[i * 2]? = some (f x).1 ∧ (fl f l)[i * 2 + 1]? = some (f x).2
  | [], i, x, h => by simp at h
  | y :: l, 0, x, h => by
    simp only [List.getElem?_cons_zero, Option.some.injEq] at h
    subst h
    simp [fl]
  | y :: l, i + 1, x, h => by
    obtain ⟨h1, h2⟩ := fl_at (l := l) (i := i) (by simpa using h)
    rw [show (i + 1) * 2 = i * 2 + 1 + 1 by omega]
    simp only [fl, List.flatMap_cons, List.cons_append, List.nil_append, List.getElem?_cons_succ] at h1 h2 ⊢
    exact ⟨h1, h2⟩
theorem fl_set0 : ∀ {l : List α} {i : Nat} {x : α}, l[i]? = some x → ∀ (y : α), (f y).2 = (f x).2 → (fl f l).set (i * 2) (f y).1 = fl f (l.set i y)
  | [], i, x, h, _, _ => by simp at h
  | z :: l, 0, x, h, y, e => by
    simp only [List.getElem?_cons_zero, Option.some.injEq] at h
    subst h
    simp [fl, e]
  | z :: l, i + 1, x, h, y, e => by
    have := fl_set0 (l := l) (i := i) (by simpa using h) y e
    rw [show (i + 1) * 2 = i * 2 + 1 + 1 by omega]
    simp only [fl, List.flatMap_cons, List.cons_append, List.nil_append, List.set_cons_succ] at this ⊢
    rw [this]
theorem fl_set1 : ∀ {l : List α} {i : Nat} {x : α}, l[i]? = some x → ∀ (y : α), (f y).1 = (f x).1 → (fl f l).set (i * 2 + 1) (f y).2 = fl f (l.set i y)
  | [], i, x, h, _, _ => by simp at h
  | z :: l, 0, x, h, y, e => by
    simp only [List.getElem?_cons_zero, Option.some.injEq] at h
    subst h
    simp [fl, e]
  | z :: l, i + 1, x, h, y, e => by
    have := fl_set1 (l := l) (i := i) (by simpa using h) y e
    rw [show (i + 1) * 2 + 1 = i * 2 + 1 + 1 + 1 by omega]
    simp only [fl, List.flatMap_cons, List.cons_append, List.nil_append, List.set_cons_succ] at this ⊢
    rw [this]
end
/-- The slice value v is a row of its own, from block base on, of these elements. -/
def OwnF {α : Type} (w : World) (base : Nat) (e : TypeId) (f : α → Value × Value) (v : Value) (l : List α) : Prop := w.ownsRow base e 2 v l.length (fl f l)
section
variable {α : Type} {f : α → Value × Value} {w w' : World} {base : Nat} {e : TypeId} {v : Value} {l : List α}
theorem OwnF.only {F : Nat → Prop} (h : OwnF w base e f v l) (ho : Only F w w') (hF : ∀ k, v.ownBlock = some k → ¬ F k) : OwnF w' base e f v l := by
  obtain ⟨h1, h2⟩ := h
  refine ⟨h1, h2.imp_right ?_⟩
  rintro ⟨g, cap, cur, rfl, h4, h5, h6⟩
  exact ⟨g, cap, cur, rfl, h4, ho.keep h5 (hF g rfl), h6⟩
theorem OwnF.kind (h : OwnF w base e f v l) {k : Nat} (hk : v.ownBlock = some k) : (∃ cur, w.heap[k]? = some (.cells cur e (0, 0))) ∧ base ≤ k := by
  obtain ⟨h1, ⟨rfl, _⟩ | ⟨g, cap, cur, rfl, h4, h5, h6⟩⟩ := h
  · cases hk
  · obtain rfl := Option.some.inj hk
    exact ⟨⟨cur, h5⟩, h4⟩
theorem OwnF.shape (h : OwnF w base e f v l) : ∃ A cap, v = .slice A l.length cap ∧ cap ≤ maxLen := by
  obtain ⟨h1, ⟨rfl, h2⟩ | ⟨g, cap, cur, rfl, h4, h5, h6, h7, h8⟩⟩ := h
  · exact ⟨none, 0, by rw [h2], by unfold maxLen; omega⟩
  · exact ⟨_, cap, rfl, h7⟩
theorem OwnF.row (h : OwnF w base e f v l) {i : Nat} {x : α} (hx : l[i]? = some x) :
    ∃ g cap, v = .slice (some ⟨g, 0, none⟩) l.length cap ∧ l.length ≤ cap ∧ cap ≤ maxLen ∧ base ≤ g ∧ (∃ cur, w.heap[g]? = some (.cells cur e (0, 0))) ∧ w.cell? ⟨g, i * 2, none⟩ = some (f x).1 ∧ w.cell? ⟨g, i * 2 + 1, none⟩ = some (f x).2 := by
  have hi : i < l.length := (List.getElem?_eq_some_iff.1 hx).1
  obtain ⟨h1, ⟨_, h2⟩ | ⟨g, cap, cur, rfl, h4, h5, h6, h7, h8, h9⟩⟩ := h
  · omega
  · obtain ⟨a0, a1⟩ := fl_at (f := f) hx
    refine ⟨g, cap, rfl, h6, h7, h4, ⟨cur, h5⟩, ?_, ?_⟩
    · rw [blk_cell h5, ← a0, ← h9, List.getElem?_take, if_pos (by omega), Array.getElem?_toList]
    · rw [blk_cell h5, ← a1, ← h9, List.getElem?_take, if_pos (by omega), Array.getElem?_toList]
theorem OwnF.set {g n cap j : Nat} {c : Value} {l' : List α} (h : OwnF w base e f (.slice (some ⟨g, 0, none⟩) n cap) l) (hj : j < l.length * 2) (he : (fl f l).set j c = fl f l') (hl : l'.length = l.length) :
    OwnF (w.setCell ⟨g, j, none⟩ c) base e f (.slice (some ⟨g, 0, none⟩) n cap) l' := by
  obtain ⟨h1, ⟨h2, _⟩ | ⟨g', cap', cur, h3, h4, h5, h6, h7, h8, h9⟩⟩ := h
  · cases h2
  · simp only [Value.slice.injEq, Option.some.injEq, Addr.mk.injEq] at h3
    obtain ⟨⟨rfl, _⟩, rfl, rfl⟩ := h3
    unfold OwnF
    rw [hl]
    refine ⟨by rw [fl_len, hl], .inr ⟨g, cap, _, rfl, h4, blk_set h5 j c, h6, h7, by simpa using h8, ?_⟩⟩
    rw [← he, ← h9, Array.toList_setIfInBounds, List.take_set]
theorem OwnF.new (w : World) (base : Nat) (e : TypeId) (f : α → Value × Value) : OwnF w base e f (.slice none 0 0) [] := World.ownsRow_nil _ _ _ _
end

/-! ### numbers of 32 bits, operations, the map of who holds -/
def i32 (x : Int) : Value := .int .i32 x
def i32s (l : List Int) : List Value := l.map i32
theorem i32s_len (l : List Int) : (i32s l).length = l.length := by simp [i32s]
theorem i32s_one (l : List Int) : ∀ u ∈ i32s l, u.oneCell' = true := by
  intro u hu
  obtain ⟨b, _, rfl⟩ := List.mem_map.1 hu
  rfl
theorem Try.info21 : (Try.prog.info? 21).map (fun i => (i.zero, i.size, i.bytes)) = some (some (.int .i32 0), 1, 4) := by kernel_rfl
theorem Sl.put {w : World} {e : TypeId} {A : Option Addr} {n c : Nat} {xs : List Value} (h : Sl w e A n c xs) {g off i : Nat} (hA : A = some ⟨g, off, none⟩) (hi : i < n) (v : Value) : Sl (w.setCell ⟨g, off + i, none⟩ v) e A n c (xs.set i v) := by
  subst hA
  refine ⟨by rw [List.length_set, h.1], ?_⟩
  rcases h.2 with ⟨h1, _⟩ | ⟨g', off', cur, h1, h2, h3, h4, h5, h6⟩
  · cases h1
  · simp only [Option.some.injEq, Addr.mk.injEq] at h1
    obtain ⟨rfl, rfl, _⟩ := h1
    refine .inr ⟨g, off, _, rfl, blk_set h2 _ v, h3, by simpa using h4, h5, fun j x hx => ?_⟩
    rw [List.getElem?_set] at hx
    by_cases hij : i = j
    · subst hij
      rw [if_pos rfl] at hx
      split at hx
      · rw [Array.getElem?_setIfInBounds_self_of_lt (by omega)]; exact hx
      · cases hx
    · rw [if_neg hij] at hx
      rw [Array.getElem?_setIfInBounds_ne (by omega)]
      exact h6 j x hx
def opCells (o : Op3) : List Value := [.int .i64 o.kind, .int .i64 o.a, .int .i64 o.b]
/-- The slice reads as these operations. -/
def OpSl (w : World) (A : Option Addr) (n c : Nat) (l : List Op3) : Prop :=
  l.length = n ∧ n ≤ c ∧ c ≤ maxLen ∧ (A = none → n = 0 ∧ c = 0) ∧
    ∀ a, A = some a → ∃ g off cur, a = ⟨g, off, none⟩ ∧ w.heap[g]? = some (.cells cur 41 (0, 0)) ∧ ∀ (i : Nat) (o : Op3), l[i]? = some o → ∀ j, j < 3 → cur[off + i * 3 + j]? = (opCells o)[j]?
theorem OpSl.only {F : Nat → Prop} {w w' : World} {A : Option Addr} {n c : Nat} {l : List Op3} (h : OpSl w A n c l) (ho : Only F w w') (hF : ∀ k cur, w.heap[k]? = some (.cells cur 41 (0, 0)) → ¬ F k) : OpSl w' A n c l := by
  obtain ⟨h1, h2, h3, h4, h5⟩ := h
  refine ⟨h1, h2, h3, h4, fun a ha => ?_⟩
  obtain ⟨g, off, cur, e, hb, hc⟩ := h5 a ha
  exact ⟨g, off, cur, e, ho.keep hb (hF g cur hb), hc⟩
theorem OpSl.nil (w : World) : OpSl w none 0 0 [] := ⟨rfl, Nat.le_refl _, by unfold maxLen; omega, fun _ => ⟨rfl, rfl⟩, fun a h => by cases h⟩
theorem OpSl.head {w : World} {A : Option Addr} {n c : Nat} {o : Op3} {l : List Op3} (h : OpSl w A n c (o :: l)) :
    ∃ g off, A = some ⟨g, off, none⟩ ∧ g < w.heap.size ∧ w.cell? ⟨g, off, none⟩ = some (.int .i64 o.kind) ∧ w.cell? ⟨g, off + 1, none⟩ = some (.int .i64 o.a) ∧ w.cell? ⟨g, off + 2, none⟩ = some (.int .i64 o.b) ∧
      OpSl w (if c = 1 then A else some ⟨g, off + 3, none⟩) (n - 1) (c - 1) l := by
  obtain ⟨h1, h2, h3, h4, h5⟩ := h
  simp only [List.length_cons] at h1
  cases A with
  | none => have := (h4 rfl).1; omega
  | some a =>
    obtain ⟨g, off, cur, rfl, hb, hc⟩ := h5 a rfl
    have hc0 := hc 0 o rfl
    refine ⟨g, off, rfl, lt_of_heap hb, (blk_cell hb _).trans (hc0 0 (by omega)), (blk_cell hb _).trans (hc0 1 (by omega)), (blk_cell hb _).trans (hc0 2 (by omega)), by omega, by omega, by omega, ?_, ?_⟩
    · intro e
      split at e
      · cases e
      · cases e
    · intro a ha
      by_cases hcc : c = 1
      · rw [if_pos hcc] at ha
        obtain rfl := Option.some.inj ha
        refine ⟨g, off, cur, rfl, hb, fun i x hx => ?_⟩
        have := (List.getElem?_eq_some_iff.1 hx).1
        omega
      · rw [if_neg hcc] at ha
        obtain rfl := Option.some.inj ha
        refine ⟨g, off + 3, cur, rfl, hb, fun i x hx j hj => ?_⟩
        rw [show off + 3 + i * 3 + j = off + (i + 1) * 3 + j by omega]
        exact hc (i + 1) x (by simpa using hx) j hj
/-- The map reads as this. -/
def MapIs (w : World) (m : Nat) (h : Int → Option Int) : Prop :=
  ∃ l : List (Value × Value), KMap w m l ∧ (∀ x ∈ l, IsKey (.int .i64) x.1) ∧ (l.map (·.1)).Nodup ∧ ∀ a, kget (.int .i64 a) l = (h a).map (Value.int .i64)
theorem MapIs.only {F : Nat → Prop} {w w' : World} {m : Nat} {h : Int → Option Int} (hm : MapIs w m h) (ho : Only F w w') (hF : ¬ F m) : MapIs w' m h := by
  obtain ⟨l, h1, h2⟩ := hm
  exact ⟨l, h1.only ho hF, h2⟩
theorem MapIs.lt {w : World} {m : Nat} {h : Int → Option Int} (hm : MapIs w m h) : m < w.heap.size := let ⟨_, h1, _⟩ := hm; h1.lt
theorem MapIs.ne {w : World} {m g : Nat} {h : Int → Option Int} {t : TypeId} {cs : Array Value} {f : Nat × Nat} (hm : MapIs w m h) (hg : w.heap[g]? = some (.cells cs t f)) : g ≠ m := let ⟨_, h1, _⟩ := hm; h1.ne_cells hg
theorem MapIs.new (w : World) : MapIs (w.alloc (.map #[] 0)) w.heap.size (fun _ => none) := ⟨[], KMap.new w, by simp, by simp, fun a => rfl⟩
theorem MapIs.congr {w : World} {m : Nat} {h h' : Int → Option Int} (hm : MapIs w m h) (e : ∀ a, h a = h' a) : MapIs w m h' := by
  obtain rfl : h = h' := funext e
  exact hm
theorem kget_kput (k v : Value) : ∀ (l : List (Value × Value)) (x : Value), (x = k → kget x (kput k v l) = some v) ∧ (x ≠ k → kget x (kput k v l) = kget x l)
  | [], x => ⟨fun h => by subst h; simp [kput, kget], fun h => by simp [kput, kget, Ne.symm h]⟩
  | (a, u) :: r, x => by
    have ih := kget_kput k v r x
    by_cases ha : a = k
    · subst ha
      exact ⟨fun h => by subst h; simp [kput, kget], fun h => by simp [kput, kget, Ne.symm h]⟩
    · refine ⟨fun h => ?_, fun h => ?_⟩
      · subst h
        simp only [kput, if_neg ha, kget]
        exact ih.1 rfl
      · by_cases hx : a = x
        · subst hx; simp [kput, kget, ha]
        · simp only [kput, if_neg ha, kget, if_neg hx]; exact ih.2 h
theorem kput_keys (k v : Value) : ∀ (l : List (Value × Value)) (x : Value), x ∈ (kput k v l).map (·.1) ↔ x = k ∨ x ∈ l.map (·.1)
  | [], x => by simp [kput]
  | (a, u) :: r, x => by
    have ih := kput_keys k v r x
    by_cases ha : a = k
    · subst ha; simp [kput]
    · simp only [kput, if_neg ha, List.map_cons, List.mem_cons]
      rw [ih]
      constructor
      · rintro (h | h | h)
        · exact .inr (.inl h)
        · exact .inl h
        · exact .inr (.inr h)
      · rintro (h | h | h)
        · exact .inr (.inl h)
        · exact .inl h
        · exact .inr (.inr h)
theorem kput_nodup (k v : Value) : ∀ {l : List (Value × Value)}, (l.map (·.1)).Nodup → ((kput k v l).map (·.1)).Nodup
  | [], _ => by simp [kput]
  | (a, u) :: r, h => by
    simp only [List.map_cons, List.nodup_cons] at h
    by_cases ha : a = k
    · subst ha; simp only [kput, if_true, List.map_cons, List.nodup_cons]; exact h
    · simp only [kput, if_neg ha, List.map_cons, List.nodup_cons]
      refine ⟨fun hm => ?_, kput_nodup k v h.2⟩
      rcases (kput_keys k v r a).1 hm with h1 | h1
      · exact ha h1
      · exact h.1 h1
theorem kget_not {x : Value} : ∀ {l : List (Value × Value)}, x ∉ l.map (·.1) → kget x l = none
  | [], _ => rfl
  | (a, u) :: r, h => by
    simp only [List.map_cons, List.mem_cons, not_or] at h
    simp only [kget, if_neg (Ne.symm h.1)]
    exact kget_not h.2
theorem kget_kdel (k : Value) : ∀ {l : List (Value × Value)}, (l.map (·.1)).Nodup → ∀ x : Value, (x = k → kget x (kdel k l) = none) ∧ (x ≠ k → kget x (kdel k l) = kget x l)
  | [], _, x => ⟨fun _ => rfl, fun _ => rfl⟩
  | (a, u) :: r, h, x => by
    simp only [List.map_cons, List.nodup_cons] at h
    have ih := kget_kdel k h.2 x
    by_cases ha : a = k
    · subst ha
      refine ⟨fun hx => ?_, fun hx => ?_⟩
      · subst hx; simp only [kdel, if_true]; exact kget_not h.1
      · simp [kdel, kget, Ne.symm hx]
    · refine ⟨fun hx => ?_, fun hx => ?_⟩
      · subst hx
        simp only [kdel, if_neg ha, kget]
        exact ih.1 rfl
      · by_cases hq : a = x
        · subst hq; simp [kdel, kget, ha]
        · simp only [kdel, if_neg ha, kget, if_neg hq]; exact ih.2 hx
theorem kdel_sub (k : Value) : ∀ (l : List (Value × Value)), List.Sublist (kdel k l) l
  | [] => List.Sublist.refl _
  | (a, u) :: r => by
    by_cases ha : a = k
    · simp only [kdel, if_pos ha]; exact List.sublist_cons_self _ _
    · simp only [kdel, if_neg ha]; exact (kdel_sub k r).cons_cons _
theorem MapIs.put {w : World} {m : Nat} {h : Int → Option Int} (hm : MapIs w m h) (a v : Int) :
    ∃ w', (Instr.mapUpdate 24 (.map (some m)) (.int .i64 a) (.int .i64 v)).run Try.prog w = .ok () w' ∧ MapIs w' m (fun x => if x = a then some v else h x) ∧ Only (· = m) w w' := by
  obtain ⟨l, h1, h2, h3, h4⟩ := hm
  obtain ⟨o, hr, hk⟩ := run_mapUpdate_k (P := Try.prog) (t := 24) (kt := 3) (et := 3) (d := .int .i64) (k := .int .i64 a) (v := .int .i64 v) Try.underlying24 Try.underlying3 rfl h1 h2
  refine ⟨_, hr, ⟨_, hk, fun x hx => ?_, kput_nodup _ _ h3, fun x => ?_⟩, Only.putObj (S := (· = m)) (Only.refl _ w) (fun _ => rfl) o⟩
  · have hx1 : x.1 ∈ (kput (.int .i64 a) (.int .i64 v) l).map (·.1) := List.mem_map_of_mem hx
    rcases (kput_keys _ _ _ _).1 hx1 with e | e
    · rw [e]; rfl
    · obtain ⟨y, hy, e⟩ := List.mem_map.1 e
      rw [← e]; exact h2 y hy
  · by_cases hx : x = a
    · subst hx; rw [(kget_kput _ _ _ _).1 rfl]; simp
    · rw [(kget_kput _ _ _ _).2 (by simpa using hx), h4]; simp [hx]
theorem MapIs.del {w : World} {m : Nat} {h : Int → Option Int} (hm : MapIs w m h) (a : Int) :
    ∃ w', (∀ ty, (Builtin.delete_ #[24, 3] ty #[.map (some m), .int .i64 a]).run Try.prog w = .ok (.tuple #[]) w') ∧ MapIs w' m (fun x => if x = a then none else h x) ∧ Only (· = m) w w' := by
  obtain ⟨l, h1, h2, h3, h4⟩ := hm
  obtain ⟨o, hr, hk⟩ := run_delete_k (P := Try.prog) (t := 24) (kt := 3) (et := 3) (d := .int .i64) (k := .int .i64 a) Try.underlying24 Try.underlying3 rfl h1 h2 0
  refine ⟨_, fun ty => ?_, ⟨_, hk, fun x hx => h2 x ((kdel_sub _ _).subset hx), List.Nodup.sublist ((kdel_sub _ _).map _) h3, fun x => ?_⟩, Only.putObj (S := (· = m)) (Only.refl _ w) (fun _ => rfl) o⟩
  · exact hr
  · by_cases hx : x = a
    · subst hx; rw [(kget_kdel _ h3 _).1 rfl]; simp
    · rw [(kget_kdel _ h3 _).2 (by simpa using hx), h4]; simp [hx]
theorem MapIs.look {w : World} {m : Nat} {h : Int → Option Int} (hm : MapIs w m h) (a : Int) (c : Bool) :
    (Instr.lookup 24 (.map (some m)) (.int .i64 a) c).run Try.prog w = .ok (if c then .tuple #[.int .i64 ((h a).getD 0), .bool (h a).isSome] else .int .i64 ((h a).getD 0)) w := by
  obtain ⟨l, h1, h2, h3, h4⟩ := hm
  rw [run_lookup_k (P := Try.prog) (t := 24) (kt := 3) (et := 3) (d := .int .i64) (k := .int .i64 a) Try.underlying24 Try.underlying3 rfl (z := .int .i64 0) zero3 h1 h2 c, h4]
  cases h a <;> rfl

/-! ### the world -/
structure BR where
  A : Option Addr
  c : Nat
def pc (y : BR × Pipe) : Value × Value := (.slice y.1.A y.2.l.length y.1.c, .int .i64 y.2.size)
def tc (y : BR × Thr) : Value × Value := (.slice y.1.A y.2.left.length y.1.c, .int .i32 y.2.has)
structure TMem where
  p : Nat
  m : Nat
  base : Nat
  wr : BR
  vp : Value
  vt : Value
  ps : List (BR × Pipe)
  ts : List (BR × Thr)
  locks : Int
  holds : Int → Option Int
  words : List Int
def TMem.wd (M : TMem) : Wd := ⟨M.locks, M.holds, M.words, M.ps.map (·.2), M.ts.map (·.2)⟩
def TOwns (M : TMem) (k : Nat) : Prop := k = M.p ∨ k = M.m ∨ RowOf M.wr.A k ∨ M.vp.ownBlock = some k ∨ M.vt.ownBlock = some k ∨ ∃ y ∈ M.ps, RowOf y.1.A k
def worldCells (M : TMem) : Array Value := #[.bool true, .int .i64 M.locks, .map (some M.m), .slice M.wr.A M.words.length M.wr.c, M.vp, M.vt]
structure TAt (w : World) (M : TMem) : Prop where
  blk : w.heap[M.p]? = some (.cells (worldCells M) 29 (0, 0))
  holds : MapIs w M.m M.holds
  words : Sl w 21 M.wr.A M.words.length M.wr.c (i32s M.words)
  pipes : OwnF w M.base 77 pc M.vp M.ps
  tasks : OwnF w M.base 74 tc M.vt M.ts
  pl : ∀ y ∈ M.ps, Sl w 21 y.1.A y.2.l.length y.1.c (i32s y.2.l)
  tl : ∀ y ∈ M.ts, OpSl w y.1.A y.2.left.length y.1.c y.2.left
  apart0 : ∀ y ∈ M.ps, ∀ k, RowOf M.wr.A k → ¬ RowOf y.1.A k
  apart : ∀ (i j : Nat) (y y' : BR × Pipe), i ≠ j → M.ps[i]? = some y → M.ps[j]? = some y' → ∀ k, RowOf y.1.A k → ¬ RowOf y'.1.A k
  lo : M.base ≤ w.heap.size
  own : ∀ k, TOwns M k → M.base ≤ k
  fit : FitW M.wd
/-- What a call may turn: blocks from base on, of the kinds that a world of tasks is made of. -/
def TSide (base : Nat) (w : World) (k : Nat) : Prop := base ≤ k ∧ ∀ cs t f, w.heap[k]? = some (.cells cs t f) → t = 29 ∨ t = 21 ∨ t = 77 ∨ t = 74
theorem TSide.trans {base : Nat} {a b c : World} (h : Only (TSide base a) a b) (k : Only (TSide base b) b c) : Only (TSide base a) a c := by
  refine ⟨k.os.trans h.os, k.tape.trans h.tape, k.output.trans h.output, Nat.le_trans h.size k.size, fun i hi hs => ?_⟩
  have e := h.block i hi hs
  exact (k.block i (Nat.lt_of_lt_of_le hi h.size) (fun q => hs ⟨q.1, fun cs t f hc => q.2 cs t f (e.trans hc)⟩)).trans e
end Go.Proofs.Ytgdjbmfpbihopaa
