/-
  Bytes that can be read, and an argument that is a slice of slices of bytes. No conditions.
-/
import Derived.Test.YtffockkdiimneaaDesks
import Derived.Test.YtffockkdiimneaaArgs
import Derived.Laws.IdiomStrings
import Derived.Laws.BytesArg
namespace Go.Proofs.Ytffockkdiimneaa
open Go.RowKit Go.ChangeShapes Go.WideShapes Go.Deep

/-- Bytes that can be read. -/
structure Bts (w : World) (A : Option Addr) (n c : Nat) (l : List UInt8) : Prop where
  len : l.length = n
  le : n ≤ c
  cap : c ≤ maxLen
  nil : A = none → n = 0 ∧ c = 0
  src : 0 < n → ∃ b off, A = some ⟨b, off, none⟩ ∧ b < w.heap.size ∧ ∀ (i : Nat) (u : Value), (bytes l)[i]? = some u → w.cell? ⟨b, off + i, none⟩ = some u
theorem Bts.only {F : Nat → Prop} {w w' : World} {A : Option Addr} {n c : Nat} {l : List UInt8} (h : Bts w A n c l) (ho : Only F w w') (hF : ∀ k, k < w.heap.size → ¬ F k) : Bts w' A n c l :=
  ⟨h.len, h.le, h.cap, h.nil, fun h0 => by
    obtain ⟨b, off, h1, h2, h3⟩ := h.src h0
    exact ⟨b, off, h1, Nat.lt_of_lt_of_le h2 ho.size, fun i u hu => (ho.cell (p := ⟨b, off + i, none⟩) h2 (hF b h2)).trans (h3 i u hu)⟩⟩
theorem Bts.take {w : World} {A : Option Addr} {n c : Nat} {l : List UInt8} (h : Bts w A n c l) {m : Nat} (hm : m ≤ n) : Bts w A m c (l.take m) :=
  ⟨by rw [List.length_take, h.len]; omega, Nat.le_trans hm h.le, h.cap, fun e => ⟨by have := (h.nil e).1; omega, (h.nil e).2⟩, fun h0 => by
    obtain ⟨b, off, h1, h2, h3⟩ := h.src (by omega)
    refine ⟨b, off, h1, h2, fun i u hu => h3 i u ?_⟩
    rw [← bytes_take, List.getElem?_take] at hu
    split at hu
    · exact hu
    · cases hu⟩
theorem Bts.toSrc {w : World} {A : Option Addr} {n c : Nat} {l : List UInt8} (h : Bts w A n c l) : Src w A (bytes l) := fun h0 => by
  rw [bytes_len, h.len] at h0
  obtain ⟨b, off, h1, _, h3⟩ := h.src h0
  exact ⟨b, off, h1, h3⟩
theorem Bts.of_arg {w : World} {A : Option Addr} {n c : Nat} {l : List Int} (hnc : n ≤ c) (hcm : c ≤ maxLen) (hnl : A = none → n = 0 ∧ c = 0) (h : IntsArg .u8 w A n l) : Bts w A n c (l.map fun z => UInt8.ofNat z.toNat) := by
  obtain ⟨h1, h2, h3⟩ := h
  refine ⟨by simp [h1], hnc, hcm, hnl, fun h0 => ?_⟩
  obtain ⟨b, off, e1, e2, e3⟩ := h3 h0
  refine ⟨b, off, e1, e2, fun i u hu => ?_⟩
  simp only [bytes, List.map_map, List.getElem?_map, Option.map_eq_some_iff] at hu
  obtain ⟨z, hz, rfl⟩ := hu
  rw [e3 i z hz]
  have hw := wf_u8 (h2 z (List.mem_of_getElem? hz))
  simp only [Function.comp, byte, UInt8.toNat_ofNat']
  congr 2
  omega
/-- 'string(b)'. -/
theorem Bts.conv {w : World} {A : Option Addr} {n c : Nat} {l : List UInt8} (h : Bts w A n c l) {src dst e : TypeId} (hs : Try.prog.underlying src = some (.slice e)) (he : Try.prog.underlying e = some (.int .u8)) (hd : Try.prog.underlying dst = some .string) :
    (convert src dst (.slice A n c)).run Try.prog w = .ok (.string ⟨l.toArray⟩) w := by
  have hl := h.len
  subst hl
  cases A with
  | none =>
    have h0 := (h.nil rfl).1
    have : l = [] := List.eq_nil_of_length_eq_zero h0
    subst this
    exact run_convert_bytes_nil w src e hs he _ c dst hd
  | some a =>
    by_cases h0 : 0 < l.length
    · obtain ⟨b, off, h1, h2, h3⟩ := h.src h0
      obtain rfl := Option.some.inj h1
      refine run_convert_bytes_back w src dst e _ c l hs he hd fun j hj => ?_
      rw [Addr.add_lit]
      exact h3 j _ (by simp [bytes, byte, List.getElem?_eq_getElem hj])
    · refine run_convert_bytes_back w src dst e _ c l hs he hd fun j hj => by omega

theorem tr_slice_one {H : Type} {enc : TypeId × Value → H} {P : Program} {w : World} {t e : TypeId} {cs : List Value} (ht : P.underlying t = some (.slice e)) (h : Tr enc P w t cs) : ∃ v, cs = [v] := by
  obtain ⟨fuel, x, h⟩ := h
  rcases open_slice ht h with ⟨h1, _⟩ | ⟨a, len, cap, m, n, D, Pl, h1, _⟩
  · exact ⟨_, h1⟩
  · exact ⟨_, h1⟩
/-- An argument that is a slice of slices of bytes: its elements. -/
def bbCells (x : Option Addr × Nat × Nat × List UInt8) : List Value := [.slice x.1 x.2.1 x.2.2.1]
def BbAt (w : World) (x : Option Addr × Nat × Nat × List UInt8) : Prop := Bts w x.1 x.2.1 x.2.2.1 x.2.2.2
theorem open_bb {H : Type} {enc : TypeId × Value → H} {w : World} {v : Value} (h : Tr enc Try.prog w 38 [v]) :
    ∃ A n c l, v = .slice A n c ∧ n ≤ c ∧ c ≤ maxLen ∧ (A = none → n = 0 ∧ c = 0) ∧ StructsArg bbCells 1 w A n l ∧ ∀ x ∈ l, BbAt w x := by
  refine open_structs' (cells := bbCells) (R := BbAt) Try.underlying38 (by kernel_rfl) (by omega) (fun cs hcs => ?_) h
  obtain ⟨v, rfl⟩ := tr_slice_one Try.underlying22 hcs
  obtain ⟨A, n, c, l, rfl, hnc, hcm, hnl, arg⟩ := open_ints' (k := .u8) Try.underlying22 Try.underlying5 (by kernel_rfl) hcs
  exact ⟨(A, n, c, _), rfl, Bts.of_arg hnc hcm hnl arg⟩
end Go.Proofs.Ytffockkdiimneaa
