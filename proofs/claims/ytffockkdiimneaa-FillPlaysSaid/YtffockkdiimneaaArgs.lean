/-
  OWN WORDS, OVER ANY PROGRAM: how an argument that came in lies in memory (slices of numbers, of bools, of strings, of structs, of slices), and the last step of a law's row where the walk left all old memory as it was. No conditions.
-/
import Derived.Test.YtffockkdiimneaaLib
import Derived.Deep.Slices
import Derived.Deep.Fields
import Derived.ChangeOld
import Derived.Lib.Hide
namespace Go.Proofs.Ytffockkdiimneaa
open Go.RowKit Go.ChangeShapes Go.WideShapes Go.Deep

theorem list_choose {α : Type} {R : Nat → α → Prop} : ∀ (n : Nat), (∀ i, i < n → ∃ x, R i x) → ∃ l : List α, l.length = n ∧ ∀ i x, l[i]? = some x → R i x
  | 0, _ => ⟨[], rfl, fun i x h => by simp at h⟩
  | n + 1, h => by
    obtain ⟨l, hl, hr⟩ := list_choose n (fun i hi => h i (by omega))
    obtain ⟨x, hx⟩ := h n (by omega)
    refine ⟨l ++ [x], by simp [hl], fun i y hy => ?_⟩
    rw [List.getElem?_append] at hy
    split at hy
    · exact hr i y hy
    · have hi : i = n := by
        have := (List.getElem?_eq_some_iff.1 hy).1
        simp at this; omega
      subst hi
      simp [hl] at hy
      subst hy
      exact hx

/-- These cells read as data of type t. -/
def Tr {H : Type} (enc : TypeId × Value → H) (P : Program) (w : World) (t : TypeId) (cs : List Value) : Prop := ∃ fuel x, DataW.trod enc P w 0 (fun _ => true) true fuel t cs = some x

/-- The slice's head: where its cells lie, if there are any. -/
def Lies (w : World) (A : Option Addr) (n size : Nat) (R : Nat → List Value → Prop) : Prop :=
  0 < n → ∃ b off, A = some ⟨b, off, none⟩ ∧ b < w.heap.size ∧ ∀ i, i < n → ∃ cs, cs.length = size ∧ (∀ j, j < size → w.cell? ⟨b, off + (i * size + j), none⟩ = cs[j]?) ∧ R i cs

section
variable {H : Type} {enc : TypeId × Value → H} {P : Program} {w : World}
theorem open_arr {t e : TypeId} {v : Value} {size : Nat} (ht : P.underlying t = some (.slice e)) (hsz : P.cellsOf e = size) (h0 : 0 < size) (h : Tr enc P w t [v]) :
    ∃ A n c, v = .slice A n c ∧ n ≤ c ∧ c ≤ maxLen ∧ (A = none → n = 0 ∧ c = 0) ∧ Lies w A n size fun _ cs => Tr enc P w e cs := by
  obtain ⟨fuel, x, h⟩ := h
  rcases open_slice ht h with ⟨h1, _⟩ | ⟨a, len, cap, m, n, D, Pl, h1, _, hl, hm, hmm, _, hi⟩
  · simp only [List.cons.injEq, and_true] at h1
    exact ⟨none, 0, 0, h1, Nat.le_refl _, by simp, fun _ => ⟨rfl, rfl⟩, fun h => absurd h (by omega)⟩
  · simp only [List.cons.injEq, and_true] at h1
    refine ⟨some a, len, cap, h1, hl, hm, (fun h => nomatch h), fun hn => ?_⟩
    simp only [if_true] at hmm
    subst hmm
    have hget : ∀ i, i < len → ∃ cs, cs.length = size ∧ (∀ j, j < size → w.cell? ((a.add (i * size)).add j) = cs[j]?) ∧ Tr enc P w e cs := by
      intro i him
      obtain ⟨cs', hc, ht'⟩ := hi i (by omega)
      rw [hsz] at hc
      obtain ⟨_, hcl, hat⟩ := World.cells?_some hc
      exact ⟨cs', hcl, hat, _, _, ht'⟩
    obtain ⟨cs0, hl0, hc0, _⟩ := hget 0 hn
    have hcell : w.cell? a = some (cs0[0]'(by omega)) := by
      have := hc0 0 h0
      rw [List.getElem?_eq_getElem (by omega)] at this
      simpa [Addr.add] using this
    obtain ⟨b, off, spot⟩ := a
    have hspot : spot = none := by simpa using World.cell?_spot hcell
    subst hspot
    refine ⟨b, off, rfl, World.block_lt_of_cell? _ _ hcell, fun i hi' => ?_⟩
    obtain ⟨cs, e1, e2, e3⟩ := hget i hi'
    refine ⟨cs, e1, fun j hj => ?_, e3⟩
    have := e2 j hj
    rw [Addr.add_lit, Addr.add_lit] at this
    rw [← this, Nat.add_assoc]

/-- A slice of numbers that came in. -/
def IntsArg (k : IntKind) (w : World) (A : Option Addr) (n : Nat) (l : List Int) : Prop :=
  l.length = n ∧ (∀ x ∈ l, (Lit.int k x).wf = true) ∧ (0 < n → ∃ b off, A = some ⟨b, off, none⟩ ∧ b < w.heap.size ∧ ∀ i x, l[i]? = some x → w.cell? ⟨b, off + i, none⟩ = some (.int k x))
theorem open_ints' {t e : TypeId} {k : IntKind} {v : Value} (ht : P.underlying t = some (.slice e)) (he : P.underlying e = some (.int k)) (hsz : P.cellsOf e = 1) (h : Tr enc P w t [v]) :
    ∃ A n c l, v = .slice A n c ∧ n ≤ c ∧ c ≤ maxLen ∧ (A = none → n = 0 ∧ c = 0) ∧ IntsArg k w A n l := by
  obtain ⟨A, n, c, hv, hnc, hc, hA, hL⟩ := open_arr ht hsz (by omega) h
  rcases Nat.eq_zero_or_pos n with h0 | h0
  · subst h0
    exact ⟨A, 0, c, [], hv, hnc, hc, hA, rfl, by simp, fun h => absurd h (by omega)⟩
  · obtain ⟨b, off, hAs, hb, hi⟩ := hL h0
    have : ∀ i, i < n → ∃ z : Int, w.cell? ⟨b, off + i, none⟩ = some (.int k z) ∧ (Lit.int k z).wf = true := by
      intro i hin
      obtain ⟨cs, h1, h2, fuel, x, h3⟩ := hi i hin
      obtain ⟨z, rfl, _, hw⟩ := DataW.trod_int he h3
      exact ⟨z, by simpa using h2 0 (by omega), hw⟩
    obtain ⟨l, hl, hr⟩ := list_choose n this
    refine ⟨A, n, c, l, hv, hnc, hc, hA, hl, fun x hx => ?_, fun _ => ⟨b, off, hAs, hb, fun i x hx => (hr i x hx).1⟩⟩
    obtain ⟨i, hi⟩ := List.mem_iff_getElem?.1 hx
    exact (hr i x hi).2
theorem IntsArg.kept {k : IntKind} {w w' : World} {A : Option Addr} {n : Nat} {l : List Int} (h : IntsArg k w A n l) (hb : Below w.heap.size w w') : IntsArg k w' A n l :=
  ⟨h.1, h.2.1, fun h0 => by
    obtain ⟨b, off, h1, h2, h3⟩ := h.2.2 h0
    exact ⟨b, off, h1, Nat.lt_of_lt_of_le h2 hb.size, fun i x hx => (hb.cell (p := ⟨b, off + i, none⟩) h2).trans (h3 i x hx)⟩⟩

/-- A slice of bools that came in. -/
def BoolsArg (w : World) (A : Option Addr) (n : Nat) (l : List Bool) : Prop :=
  l.length = n ∧ (0 < n → ∃ b off, A = some ⟨b, off, none⟩ ∧ b < w.heap.size ∧ ∀ i x, l[i]? = some x → w.cell? ⟨b, off + i, none⟩ = some (.bool x))
theorem open_bools' {t e : TypeId} {v : Value} (ht : P.underlying t = some (.slice e)) (he : P.underlying e = some .bool) (hsz : P.cellsOf e = 1) (h : Tr enc P w t [v]) :
    ∃ A n c l, v = .slice A n c ∧ n ≤ c ∧ c ≤ maxLen ∧ (A = none → n = 0 ∧ c = 0) ∧ BoolsArg w A n l := by
  obtain ⟨A, n, c, hv, hnc, hc, hA, hL⟩ := open_arr ht hsz (by omega) h
  rcases Nat.eq_zero_or_pos n with h0 | h0
  · subst h0
    exact ⟨A, 0, c, [], hv, hnc, hc, hA, rfl, fun h => absurd h (by omega)⟩
  · obtain ⟨b, off, hAs, hb, hi⟩ := hL h0
    have : ∀ i, i < n → ∃ z : Bool, w.cell? ⟨b, off + i, none⟩ = some (.bool z) := by
      intro i hin
      obtain ⟨cs, h1, h2, fuel, x, h3⟩ := hi i hin
      obtain ⟨z, rfl, _⟩ := DataW.trod_bool he h3
      exact ⟨z, by simpa using h2 0 (by omega)⟩
    obtain ⟨l, hl, hr⟩ := list_choose n this
    exact ⟨A, n, c, l, hv, hnc, hc, hA, hl, fun _ => ⟨b, off, hAs, hb, fun i x hx => hr i x hx⟩⟩
theorem BoolsArg.kept {w w' : World} {A : Option Addr} {n : Nat} {l : List Bool} (h : BoolsArg w A n l) (hb : Below w.heap.size w w') : BoolsArg w' A n l :=
  ⟨h.1, fun h0 => by
    obtain ⟨b, off, h1, h2, h3⟩ := h.2 h0
    exact ⟨b, off, h1, Nat.lt_of_lt_of_le h2 hb.size, fun i x hx => (hb.cell (p := ⟨b, off + i, none⟩) h2).trans (h3 i x hx)⟩⟩

/-- A slice of structs that came in: 'cell' gives, for each element, its cells. -/
def StructsArg {α : Type} (cells : α → List Value) (size : Nat) (w : World) (A : Option Addr) (n : Nat) (l : List α) : Prop :=
  l.length = n ∧ (0 < n → ∃ b off, A = some ⟨b, off, none⟩ ∧ b < w.heap.size ∧ ∀ i x, l[i]? = some x → ∀ j, j < size → w.cell? ⟨b, off + (i * size + j), none⟩ = (cells x)[j]?)
theorem open_structs' {α : Type} {cells : α → List Value} {R : World → α → Prop} {t e : TypeId} {size : Nat} {v : Value} (ht : P.underlying t = some (.slice e)) (hsz : P.cellsOf e = size) (h0 : 0 < size)
    (hel : ∀ cs, Tr enc P w e cs → ∃ x, cs = cells x ∧ R w x) (h : Tr enc P w t [v]) :
    ∃ A n c l, v = .slice A n c ∧ n ≤ c ∧ c ≤ maxLen ∧ (A = none → n = 0 ∧ c = 0) ∧ StructsArg cells size w A n l ∧ ∀ x ∈ l, R w x := by
  obtain ⟨A, n, c, hv, hnc, hc, hA, hL⟩ := open_arr ht hsz h0 h
  rcases Nat.eq_zero_or_pos n with h1 | h1
  · subst h1
    exact ⟨A, 0, c, [], hv, hnc, hc, hA, ⟨rfl, fun h => absurd h (by omega)⟩, by simp⟩
  · obtain ⟨b, off, hAs, hb, hi⟩ := hL h1
    have : ∀ i, i < n → ∃ z : α, (∀ j, j < size → w.cell? ⟨b, off + (i * size + j), none⟩ = (cells z)[j]?) ∧ R w z := by
      intro i hin
      obtain ⟨cs, h1, h2, h3⟩ := hi i hin
      obtain ⟨z, rfl, hz⟩ := hel cs h3
      exact ⟨z, h2, hz⟩
    obtain ⟨l, hl, hr⟩ := list_choose n this
    refine ⟨A, n, c, l, hv, hnc, hc, hA, ⟨hl, fun _ => ⟨b, off, hAs, hb, fun i x hx => (hr i x hx).1⟩⟩, fun x hx => ?_⟩
    obtain ⟨i, hi⟩ := List.mem_iff_getElem?.1 hx
    exact (hr i x hi).2
theorem StructsArg.kept {α : Type} {cells : α → List Value} {size : Nat} {w w' : World} {A : Option Addr} {n : Nat} {l : List α} (h : StructsArg cells size w A n l) (hb : Below w.heap.size w w') : StructsArg cells size w' A n l :=
  ⟨h.1, fun h0 => by
    obtain ⟨b, off, h1, h2, h3⟩ := h.2 h0
    exact ⟨b, off, h1, Nat.lt_of_lt_of_le h2 hb.size, fun i x hx j hj => (hb.cell (p := ⟨b, off + (i * size + j), none⟩) h2).trans (h3 i x hx j hj)⟩⟩

theorem tr_int {t : TypeId} {k : IntKind} {cs : List Value} (ht : P.underlying t = some (.int k)) (h : Tr enc P w t cs) : ∃ z, cs = [.int k z] ∧ (Lit.int k z).wf = true := by
  obtain ⟨fuel, x, h⟩ := h
  obtain ⟨z, rfl, _, hw⟩ := DataW.trod_int ht h
  exact ⟨z, rfl, hw⟩
theorem tr_bool {t : TypeId} {cs : List Value} (ht : P.underlying t = some .bool) (h : Tr enc P w t cs) : ∃ z, cs = [.bool z] := by
  obtain ⟨fuel, x, h⟩ := h
  obtain ⟨z, rfl, _⟩ := DataW.trod_bool ht h
  exact ⟨z, rfl⟩
theorem tr_string {t : TypeId} {cs : List Value} (ht : P.underlying t = some .string) (h : Tr enc P w t cs) : ∃ z : ByteArray, cs = [.string z] ∧ z.size ≤ maxLen := by
  obtain ⟨fuel, x, h⟩ := h
  obtain ⟨z, rfl, _, hw⟩ := DataW.trod_string ht h
  exact ⟨z, rfl, hw⟩
/-- A struct's cells, field by field. -/
theorem tr_struct {t : TypeId} {fs : Array Field} {cs : List Value} (ht : P.underlying t = some (.struct fs)) (h : Tr enc P w t cs) :
    cs.length = P.cellsOf t ∧ ∀ (i : Nat) (f : Field), fs[i]? = some f → Tr enc P w f.type ((cs.drop f.offset).take (P.cellsOf f.type)) := by
  obtain ⟨fuel, x, h⟩ := h
  obtain ⟨xs, n, _, _, h1, h2, h3⟩ := DataW.trod_struct ht h
  refine ⟨h1, fun i f hf => ?_⟩
  have hi : i < xs.length := by rw [h2]; exact (Array.getElem?_eq_some_iff.1 hf).1
  have := h3 i f hf
  rw [List.getElem?_eq_getElem hi] at this
  exact ⟨n, _, this⟩
theorem tr_field {t : TypeId} {fs : Array Field} {cs : List Value} (ht : P.underlying t = some (.struct fs)) (h : Tr enc P w t cs) (i T o k : Nat) (hf : (fs[i]?).map (fun f => (f.type, f.offset)) = some (T, o)) (hk : P.cellsOf T = k) :
    Tr enc P w T ((cs.drop o).take k) := by
  obtain ⟨f, h1, h2⟩ := Option.map_eq_some_iff.1 hf
  obtain ⟨rfl, rfl⟩ := Prod.mk.inj h2
  rw [← hk]
  exact (tr_struct ht h).2 i f h1
end
theorem and_mask (x : Int) (m : Nat) (hm : m < 9223372036854775808) : ∃ y : Nat, bits .and .i64 x (m : Int) = (y : Int) ∧ y ≤ m := by
  refine ⟨(BitVec.ofInt 64 x &&& BitVec.ofInt 64 (m : Int)).toNat, ?_, ?_⟩
  · have h : (BitVec.ofInt 64 x &&& BitVec.ofInt 64 (m : Int)).toNat ≤ m := by
      rw [BitVec.toNat_and, BitVec.ofInt_natCast, BitVec.toNat_ofNat, Nat.mod_eq_of_lt (a := m) (by omega)]
      exact Nat.and_le_right
    show IntKind.i64.wrap (((BitVec.ofInt 64 x &&& BitVec.ofInt 64 (m : Int)).toNat : Nat) : Int) = _
    rw [IntKind.wrap_i64]
    omega
  · rw [BitVec.toNat_and, BitVec.ofInt_natCast, BitVec.toNat_ofNat, Nat.mod_eq_of_lt (a := m) (by omega)]
    exact Nat.and_le_right
theorem slice_one {v : Value} (h : ∃ A n c, v = .slice A n c) : v.cells.toList = [v] := by obtain ⟨A, n, c, rfl⟩ := h; rfl
theorem wf_i64 {z : Int} (h : (Lit.int .i64 z).wf = true) : -9223372036854775808 ≤ z ∧ z ≤ 9223372036854775807 := by simpa [Lit.wf, IntKind.min, IntKind.max, IntKind.signed, IntKind.bits] using h
theorem wf_u8 {z : Int} (h : (Lit.int .u8 z).wf = true) : 0 ≤ z ∧ z ≤ 255 := by simpa [Lit.wf, IntKind.min, IntKind.max, IntKind.signed, IntKind.bits] using h
end Go.Proofs.Ytffockkdiimneaa
