/-
  OWN WORDS, OVER ANY PROGRAM: a slice of one-cell elements whose row is known as a whole ('Sl'), cut, and appended to, whatever is appended. No conditions.
-/
import Derived.Test.YtffockkdiimneaaLib
import Derived.Maps.AppendAt
import Derived.ArgAppend
import Derived.Laws.IdiomCopy
import Derived.RegionTactic
namespace Go.Proofs.Ytffockkdiimneaa
open Go.RowKit

/-- The slice (A, n, c) reads as xs; if it is not nil, its row is a block of element type e, none of it frozen, long enough for its capacity. -/
def Sl (w : World) (e : TypeId) (A : Option Addr) (n c : Nat) (xs : List Value) : Prop :=
  xs.length = n ∧ ((A = none ∧ n = 0 ∧ c = 0) ∨ ∃ g off cur, A = some ⟨g, off, none⟩ ∧ w.heap[g]? = some (.cells cur e (0, 0)) ∧ n ≤ c ∧ off + c ≤ cur.size ∧ c ≤ maxLen ∧ ∀ (i : Nat) (x : Value), xs[i]? = some x → cur[off + i]? = some x)
/-- k is the row's block. -/
def RowOf (A : Option Addr) (k : Nat) : Prop := ∃ a, A = some a ∧ a.block = k

section
variable {w w' : World} {e : TypeId} {A : Option Addr} {n c : Nat} {xs : List Value}
theorem Sl.nil (w : World) (e : TypeId) : Sl w e none 0 0 [] := ⟨rfl, .inl ⟨rfl, rfl, rfl⟩⟩
theorem Sl.len (h : Sl w e A n c xs) : xs.length = n := h.1
theorem Sl.le (h : Sl w e A n c xs) : n ≤ c := by
  rcases h.2 with ⟨_, rfl, rfl⟩ | ⟨_, _, _, _, _, h1, _⟩
  · exact Nat.le_refl _
  · exact h1
theorem Sl.capLe (h : Sl w e A n c xs) : c ≤ maxLen := by
  rcases h.2 with ⟨_, _, rfl⟩ | ⟨_, _, _, _, _, _, _, h1, _⟩
  · exact Nat.zero_le _
  · exact h1
theorem Sl.lt (h : Sl w e A n c xs) {k : Nat} (hk : RowOf A k) : k < w.heap.size := by
  obtain ⟨a, rfl, rfl⟩ := hk
  rcases h.2 with ⟨h1, _⟩ | ⟨g, off, cur, h1, h2, _⟩
  · cases h1
  · obtain rfl := Option.some.inj h1; exact lt_of_heap h2
theorem Sl.type (h : Sl w e A n c xs) {k : Nat} (hk : RowOf A k) : ∃ cur, w.heap[k]? = some (.cells cur e (0, 0)) := by
  obtain ⟨a, rfl, rfl⟩ := hk
  rcases h.2 with ⟨h1, _⟩ | ⟨g, off, cur, h1, h2, _⟩
  · cases h1
  · obtain rfl := Option.some.inj h1; exact ⟨cur, h2⟩
theorem Sl.of_block (h : Sl w e A n c xs) (hb : ∀ k, RowOf A k → w'.heap[k]? = w.heap[k]?) : Sl w' e A n c xs := by
  refine ⟨h.1, ?_⟩
  rcases h.2 with h1 | ⟨g, off, cur, h1, h2, h3⟩
  · exact .inl h1
  · exact .inr ⟨g, off, cur, h1, (hb g ⟨_, h1, rfl⟩).trans h2, h3⟩
theorem Sl.only {F : Nat → Prop} (h : Sl w e A n c xs) (ho : Only F w w') (hF : ∀ k, RowOf A k → ¬ F k) : Sl w' e A n c xs := h.of_block fun k hk => ho.block k (h.lt hk) (hF k hk)
theorem Sl.alloc (h : Sl w e A n c xs) (o : Obj) : Sl (w.alloc o) e A n c xs := h.of_block fun k hk => Below.heap_alloc w o k (h.lt hk)
/-- A cell of it. -/
theorem Sl.cell (h : Sl w e A n c xs) {i : Nat} {x : Value} (hx : xs[i]? = some x) : ∃ g off, A = some ⟨g, off, none⟩ ∧ g < w.heap.size ∧ w.cell? ⟨g, off + i, none⟩ = some x := by
  have hi := (List.getElem?_eq_some_iff.1 hx).1
  rcases h.2 with ⟨_, h1, _⟩ | ⟨g, off, cur, h1, h2, _, _, _, h3⟩
  · have := h.1; omega
  · exact ⟨g, off, h1, lt_of_heap h2, (blk_cell h2 _).trans (h3 i x hx)⟩
theorem Sl.take (h : Sl w e A n c xs) {m : Nat} (hm : m ≤ n) : Sl w e A m c (xs.take m) := by
  refine ⟨by rw [List.length_take, h.1]; omega, ?_⟩
  rcases h.2 with ⟨h1, h2, h3⟩ | ⟨g, off, cur, h1, h2, h3, h4, h5, h6⟩
  · exact .inl ⟨h1, by omega, h3⟩
  · refine .inr ⟨g, off, cur, h1, h2, by omega, h4, h5, fun i x hx => h6 i x ?_⟩
    rw [List.getElem?_take] at hx
    split at hx
    · exact hx
    · cases hx
theorem Sl.cut (h : Sl w e A n c xs) {m : Nat} (hm : m ≤ n) : Sl w e (if c = m then A else A.map (·.add m)) (n - m) (c - m) (xs.drop m) := by
  have hle := h.le
  refine ⟨by rw [List.length_drop, h.1], ?_⟩
  rcases h.2 with ⟨h1, h2, h3⟩ | ⟨g, off, cur, h1, h2, h3, h4, h5, h6⟩
  · subst h1 h2 h3
    obtain rfl : m = 0 := by omega
    exact .inl ⟨rfl, rfl, rfl⟩
  · subst h1
    by_cases hc : c = m
    · rw [if_pos hc]
      refine .inr ⟨g, off, cur, rfl, h2, by omega, by omega, by omega, fun i x hx => ?_⟩
      have := (List.getElem?_eq_some_iff.1 hx).1
      rw [List.length_drop, h.1] at this
      omega
    · rw [if_neg hc]
      refine .inr ⟨g, off + m, cur, by simp [Addr.add_lit], h2, by omega, by omega, by omega, fun i x hx => ?_⟩
      rw [List.getElem?_drop] at hx
      rw [Nat.add_assoc]
      exact h6 _ x hx
theorem rowOf_cut {m : Nat} {k : Nat} (h : RowOf (if c = m then A else A.map (·.add m)) k) : RowOf A k := by
  split at h
  · exact h
  · obtain ⟨a, ha, rfl⟩ := h
    cases A with
    | none => cases ha
    | some b =>
      simp at ha
      subst ha
      refine ⟨b, rfl, ?_⟩
      unfold Addr.add
      split <;> rfl
end

/-- What is appended: it can be read, nil or not. -/
def Src (w : World) (A : Option Addr) (ys : List Value) : Prop := 0 < ys.length → ∃ b off, A = some ⟨b, off, none⟩ ∧ ∀ (i : Nat) (u : Value), ys[i]? = some u → w.cell? ⟨b, off + i, none⟩ = some u
theorem Sl.src {w : World} {e : TypeId} {A : Option Addr} {n c : Nat} {xs : List Value} (h : Sl w e A n c xs) : Src w A xs := fun h0 => by
  rcases h.2 with ⟨_, h1, _⟩ | ⟨g, off, cur, h1, h2, _, _, _, h3⟩
  · have := h.1; omega
  · exact ⟨g, off, h1, fun i u hu => (blk_cell h2 _).trans (h3 i u hu)⟩

theorem setCells_blk {e : TypeId} (g : Nat) : ∀ (vs : List Value) (o : Nat) (w : World) (cur : Array Value), w.heap[g]? = some (.cells cur e (0, 0)) → o + vs.length ≤ cur.size →
    ∃ cur', (w.setCells g o vs).heap[g]? = some (.cells cur' e (0, 0)) ∧ cur'.size = cur.size ∧ (∀ j, j < o → cur'[j]? = cur[j]?) ∧ ∀ (i : Nat) (x : Value), vs[i]? = some x → cur'[o + i]? = some x
  | [], o, w, cur, h, _ => ⟨cur, h, rfl, fun _ _ => rfl, fun i x hx => by simp at hx⟩
  | v :: r, o, w, cur, h, hl => by
    simp only [List.length_cons] at hl
    obtain ⟨cur', h1, h2, h3, h4⟩ := setCells_blk g r (o + 1) (w.setCell ⟨g, o, none⟩ v) (cur.setIfInBounds o v) (blk_set h o v) (by simp; omega)
    refine ⟨cur', h1, by simpa using h2, fun j hj => ?_, fun i x hx => ?_⟩
    · rw [h3 j (by omega), Array.getElem?_setIfInBounds_ne (by omega)]
    · cases i with
      | zero =>
        simp at hx
        subst hx
        rw [Nat.add_zero, h3 o (by omega), Array.getElem?_setIfInBounds_self_of_lt (by omega)]
      | succ i =>
        rw [show o + (i + 1) = o + 1 + i by omega]
        exact h4 i x (by simpa using hx)
theorem setCells_only (g : Nat) : ∀ (vs : List Value) (o : Nat) (w : World), Only (· = g) w (w.setCells g o vs)
  | [], _, w => Only.refl _ _
  | v :: r, o, w => Only.trans (Only.setCell (S := (· = g)) (Only.refl _ w) (fun _ => rfl) v) (setCells_only g r (o + 1) _)

section
variable {P : Program} (w : World)
/-- 'append(xs, ys...)'. -/
theorem run_append_sl (t ty e : TypeId) (i : TypeInfo) (z : Value) (bytes : Nat) (ht : P.underlying t = some (.slice e)) (hi : P.info? e = some i) (hz : i.zero = some z)
    (hsize : i.size = 1) (hby : i.bytes = bytes) (hzs : z.cells.size = 1)
    (A : Option Addr) (n c : Nat) (xs : List Value) (hx : Sl w e A n c xs) (B : Option Addr) (m d : Nat) (ys : List Value) (hm : ys.length = m) (hy : Src w B ys) (hnil : B = none → m = 0) (h1 : ∀ u ∈ ys, u.oneCell' = true)
    (h63 : n + m ≤ maxLen) (hbytes : (n + m) * bytes ≤ 140737488355328) :
    ∃ A' c' w', (Builtin.append_ #[t, t] ty #[.slice A n c, .slice B m d]).run P w = .ok (.slice A' (n + m) c') w' ∧ Sl w' e A' (n + m) c' (xs ++ ys) ∧ Only (RowOf A) w w' ∧ (∀ k, RowOf A' k → RowOf A k ∨ w.heap.size ≤ k) := by
  rcases Nat.eq_zero_or_pos m with h0 | h0
  · subst h0
    have hys : ys = [] := List.eq_nil_of_length_eq_zero hm
    subst hys
    refine ⟨A, c, w, ?_, by simpa using hx, Only.refl _ _, fun k hk => .inl hk⟩
    have hle := hx.le
    rcases hx.2 with ⟨rfl, rfl, rfl⟩ | ⟨g, off, cur, rfl, _⟩
    · cases B with
      | none => simp [Builtin.append_, run_underlying ht, sizeOf, typeInfo, hi, Builtin.lenOf, Builtin.firstCells]
      | some b => simp [Builtin.append_, run_underlying ht, sizeOf, typeInfo, hi, Builtin.lenOf, Builtin.firstCells, loadCells, loadCellsFrom]
    · cases B with
      | none => simp [Builtin.append_, run_underlying ht, sizeOf, typeInfo, hi, Builtin.lenOf, Builtin.firstCells, hle, storeCells]
      | some b => simp [Builtin.append_, run_underlying ht, sizeOf, typeInfo, hi, Builtin.lenOf, Builtin.firstCells, loadCells, loadCellsFrom, hle, storeCells]
  · obtain ⟨b, bo, rfl, hcells⟩ := hy (by omega)
    have hnews : ∀ j u, ys[j]? = some u → w.cell? ((⟨b, bo, none⟩ : Addr).add j) = some u := fun j u hu => by rw [Addr.add_lit]; exact hcells j u hu
    rcases hx.2 with ⟨rfl, rfl, rfl⟩ | ⟨g, off, cur, rfl, hg, hnc, hsz, hcm, hat⟩
    · obtain ⟨v', w', hrun, h2, h3, _, _⟩ := run_append_own_at (P := P) w w.heap.size t ty e i z 1 bytes ht hi hz hsize hby hzs (by decide) (.slice none 0 0) 0 [] (World.ownsRow_nil _ _ _ _) ⟨b, bo, none⟩ m d ys (by simpa using hm) hnews h1 h63 hbytes (Nat.le_refl _)
      obtain ⟨hlen, h4 | ⟨g, cap, cur, rfl, hb, hh, hnc, hcm, hsz, htake⟩⟩ := h2
      · omega
      · have hxs : xs = [] := List.eq_nil_of_length_eq_zero hx.1
        subst hxs
        refine ⟨some ⟨g, 0, none⟩, cap, w', hrun, ⟨by simpa using hlen, .inr ⟨g, 0, cur, rfl, hh, hnc, by omega, hcm, fun j u hu => ?_⟩⟩, (Only.refl _ w).of_grown h3 (fun k hk => by simp [Value.ownBlock] at hk), fun k hk => .inr ?_⟩
        · have hj := (List.getElem?_eq_some_iff.1 hu).1
          have h5 : (cur.toList.take ((0 + m) * 1))[j]? = some u := by rw [htake]; exact hu
          rw [List.getElem?_take_of_lt (by simp at hj; omega)] at h5
          simpa using h5
        · obtain ⟨a, ha, rfl⟩ := hk
          obtain rfl := Option.some.inj ha
          exact hb
    · by_cases hroom : n + m ≤ c
      · have hrun := run_append_room_cells (P := P) w t ty e i ht hi g off n c ⟨b, bo, none⟩ m d ys (by rw [hsize]; omega) hnews h1 hroom
          (fun j hj => by rw [hsize, Nat.mul_one, blk_cell hg, Array.getElem?_eq_getElem (by omega)]; rfl) (fun j hj => blk_frozen hg _)
        rw [hsize, Nat.mul_one] at hrun
        obtain ⟨cur', q1, q2, q3, q4⟩ := setCells_blk g ys (off + n) w cur hg (by omega)
        refine ⟨some ⟨g, off, none⟩, c, _, hrun, ⟨by rw [List.length_append, hx.1, hm], .inr ⟨g, off, cur', rfl, q1, hroom, by omega, hcm, fun j u hu => ?_⟩⟩, (setCells_only g ys (off + n) w).mono (fun k _ hk => ⟨_, rfl, hk.symm⟩), fun k hk => .inl hk⟩
        rw [List.getElem?_append] at hu
        split at hu
        · rename_i hj
          rw [q3 _ (by have := hx.1; omega)]
          exact hat j u hu
        · rename_i hj
          have hxl := hx.1
          have := q4 (j - xs.length) u hu
          rw [show off + n + (j - xs.length) = off + j by omega] at this
          exact this
      · obtain ⟨v', w', hrun, h2, h3⟩ := run_append_arg_grows (P := P) w t ty e i z 1 bytes ht hi hz hsize hby hzs (by decide) ⟨g, off, none⟩ n c xs (by rw [hx.1]; omega)
          (fun j u hu => by rw [Addr.add_lit, blk_cell hg]; exact hat j u hu) ⟨b, bo, none⟩ m d ys (by simpa using hm) hnews (by omega) h63 hbytes
        obtain ⟨hlen, h4 | ⟨g', cap, cur', rfl, hb, hh, hnc', hcm', hsz', htake⟩⟩ := h2
        · omega
        · refine ⟨some ⟨g', 0, none⟩, cap, w', hrun, ⟨by simpa using hlen, .inr ⟨g', 0, cur', rfl, hh, hnc', by omega, hcm', fun j u hu => ?_⟩⟩, (Only.refl _ w).of_grown h3 (fun k hk => by cases hk), fun k hk => .inr ?_⟩
          · have hj := (List.getElem?_eq_some_iff.1 hu).1
            have h5 : (cur'.toList.take ((n + m) * 1))[j]? = some u := by rw [htake]; exact hu
            rw [List.getElem?_take_of_lt (by have hl2 : (xs ++ ys).length = n + m := by rw [hlen, Nat.mul_one]
                                             omega)] at h5
            simpa using h5
          · obtain ⟨a, ha, rfl⟩ := hk
            obtain rfl := Option.some.inj ha
            exact hb

theorem wp_append_sl {o : Oper} {a : Act} {K : Act → World → Prop} {Q : Exit → Act → World → Prop} (s x : Operand) (t : TypeId)
    (ho : o.op = .call { callee := .builtin .append, args := #[s, x], argTypes := #[t, t] })
    (e : TypeId) (i : TypeInfo) (z : Value) (bytes : Nat) (ht : P.underlying t = some (.slice e)) (hi : P.info? e = some i) (hz : i.zero = some z) (hsize : i.size = 1) (hby : i.bytes = bytes) (hzs : z.cells.size = 1)
    (A : Option Addr) (n c : Nat) (xs : List Value) (hs : a.eval s = .slice A n c) (hx : Sl w e A n c xs) (B : Option Addr) (m d : Nat) (ys : List Value) (hxx : a.eval x = .slice B m d) (hm : ys.length = m) (hy : Src w B ys) (hnil : B = none → m = 0) (h1 : ∀ u ∈ ys, u.oneCell' = true)
    (h63 : n + m ≤ maxLen) (hbytes : (n + m) * bytes ≤ 140737488355328)
    (h : ∀ A' c' w', Sl w' e A' (n + m) c' (xs ++ ys) → Only (RowOf A) w w' → (∀ k, RowOf A' k → RowOf A k ∨ w.heap.size ≤ k) → K (a.put o.dst (.slice A' (n + m) c')) w') : o.wp P a w K Q := by
  obtain ⟨A', c', w', hrun, h2, h3, h4⟩ := run_append_sl (P := P) w t o.type e i z bytes ht hi hz hsize hby hzs A n c xs hx B m d ys hm hy hnil h1 h63 hbytes
  unfold Oper.wp execOp
  simp only [ho, resolve, invoke, builtin, Sem.run_bind, Sem.run_pure, Result.andThen_ok, List.map_toArray, List.map_cons, List.map_nil, hs, hxx, hrun]
  exact h A' c' w' h2 h3 h4

/-- In a plain region. -/
theorem wpList_append_sl {ops : Array Oper} {rest : List Oper} {o : Oper} {a : Act} {Q : Exit → Act → World → Prop} (hgd : o.guard = none) (s x : Operand) (t : TypeId)
    (ho : o.op = .call { callee := .builtin .append, args := #[s, x], argTypes := #[t, t] })
    (e : TypeId) (i : TypeInfo) (z : Value) (bytes : Nat) (ht : P.underlying t = some (.slice e)) (hi : P.info? e = some i) (hz : i.zero = some z) (hsize : i.size = 1) (hby : i.bytes = bytes) (hzs : z.cells.size = 1)
    (A : Option Addr) (n c : Nat) (xs : List Value) (hs : a.eval s = .slice A n c) (hx : Sl w e A n c xs) (B : Option Addr) (m d : Nat) (ys : List Value) (hxx : a.eval x = .slice B m d) (hm : ys.length = m) (hy : Src w B ys) (hnil : B = none → m = 0) (h1 : ∀ u ∈ ys, u.oneCell' = true)
    (h63 : n + m ≤ maxLen) (hbytes : (n + m) * bytes ≤ 140737488355328)
    (h : ∀ A' c' w', Sl w' e A' (n + m) c' (xs ++ ys) → Only (RowOf A) w w' → (∀ k, RowOf A' k → RowOf A k ∨ w.heap.size ≤ k) → wpList P ops Q rest (a.put o.dst (.slice A' (n + m) c')) w') : wpList P ops Q (o :: rest) a w :=
  wpList_plain hgd fun _ hK => wp_append_sl w s x t ho e i z bytes ht hi hz hsize hby hzs A n c xs hs hx B m d ys hxx hm hy hnil h1 h63 hbytes fun A' c' w' h2 h3 h4 => hK _ _ (h A' c' w' h2 h3 h4)

/-- In a region that draws its order. -/
theorem step_append_sl {ops : Array Oper} {o : Oper} {a : Act} {K : Act → World → Prop} {Q : Exit → Act → World → Prop} {E : Prop} (hgd : o.guard = none) (s x : Operand) (t : TypeId)
    (ho : o.op = .call { callee := .builtin .append, args := #[s, x], argTypes := #[t, t] })
    (e : TypeId) (i : TypeInfo) (z : Value) (bytes : Nat) (ht : P.underlying t = some (.slice e)) (hi : P.info? e = some i) (hz : i.zero = some z) (hsize : i.size = 1) (hby : i.bytes = bytes) (hzs : z.cells.size = 1)
    (A : Option Addr) (n c : Nat) (xs : List Value) (hs : a.eval s = .slice A n c) (hx : Sl w e A n c xs) (B : Option Addr) (m d : Nat) (ys : List Value) (hxx : a.eval x = .slice B m d) (hm : ys.length = m) (hy : Src w B ys) (hnil : B = none → m = 0) (h1 : ∀ u ∈ ys, u.oneCell' = true)
    (h63 : n + m ≤ maxLen) (hbytes : (n + m) * bytes ≤ 140737488355328)
    (h : ∀ A' c' w', Sl w' e A' (n + m) c' (xs ++ ys) → Only (RowOf A) w w' → (∀ k, RowOf A' k → RowOf A k ∨ w.heap.size ≤ k) → K (a.put o.dst (.slice A' (n + m) c')) w') :
    if Region.wanted o (yielded ops a.tmps) = true then Oper.wp P o a w K Q else E := by
  have hw : Region.wanted o (yielded ops a.tmps) = true := by simp [Region.wanted, hgd]
  rw [if_pos hw]
  exact wp_append_sl w s x t ho e i z bytes ht hi hz hsize hby hzs A n c xs hs hx B m d ys hxx hm hy hnil h1 h63 hbytes h
end
end Go.Proofs.Ytffockkdiimneaa
