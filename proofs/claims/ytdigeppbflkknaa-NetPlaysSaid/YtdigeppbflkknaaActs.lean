/-
  An argument that is a slice of acts, opened to its cells; the inner loop's facts. No conditions.
-/
import Derived.Test.YtdigeppbflkknaaBoth
import Derived.Test.YtdigeppbflkknaaArgs
namespace Go.Proofs.Ytdigeppbflkknaa
open Go.RowKit Go.ChangeShapes Go.WideShapes Go.Deep
set_option linter.unusedVariables false

structure ActV where
  K : Int
  k : Int
  s : Int
  m : Int
  A : Option Addr
  n : Nat
  c : Nat
  l : List UInt8
def actCells (x : ActV) : List Value := [.int .i64 x.K, .int .i64 x.k, .int .i64 x.s, .int .i64 x.m, .slice x.A x.n x.c]
def ActOk (w : World) (x : ActV) : Prop := Bts w x.A x.n x.c x.l
theorem cells46 : Try.prog.cellsOf 46 = 5 := by kernel_rfl
theorem cells3 : Try.prog.cellsOf 3 = 1 := by kernel_rfl
theorem cells22 : Try.prog.cellsOf 22 = 1 := by kernel_rfl
theorem slice_only {H : Type} {enc : TypeId × Value → H} {P : Program} {w : World} {t e : TypeId} {cs : List Value} (ht : P.underlying t = some (.slice e)) (h : Tr enc P w t cs) : ∃ v, cs = [v] := by
  obtain ⟨fuel, x, h⟩ := h
  rcases open_slice ht h with ⟨h1, _⟩ | ⟨a, len, cap, m, n, D, Pl, h1, _⟩
  · exact ⟨_, h1⟩
  · exact ⟨_, h1⟩
theorem open_acts {H : Type} {enc : TypeId × Value → H} {w : World} {v : Value} (h : Tr enc Try.prog w 39 [v]) :
    ∃ A n c l, v = .slice A n c ∧ n ≤ c ∧ c ≤ maxLen ∧ (A = none → n = 0 ∧ c = 0) ∧ StructsArg actCells 5 w A n l ∧ ∀ x ∈ l, ActOk w x := by
  refine open_structs' (cells := actCells) (R := ActOk) Try.underlying39 cells46 (by omega) (fun cs hcs => ?_) h
  have h1 := (tr_struct Try.underlying46 hcs).1
  rw [cells46] at h1
  obtain ⟨x, e1, w1⟩ := tr_int Try.underlying3 (tr_field Try.underlying46 hcs 0 3 0 1 rfl cells3)
  obtain ⟨y, e2, w2⟩ := tr_int Try.underlying3 (tr_field Try.underlying46 hcs 1 3 1 1 rfl cells3)
  obtain ⟨z, e3, w3⟩ := tr_int Try.underlying3 (tr_field Try.underlying46 hcs 2 3 2 1 rfl cells3)
  obtain ⟨u, e4, w4⟩ := tr_int Try.underlying3 (tr_field Try.underlying46 hcs 3 3 3 1 rfl cells3)
  have h5 := tr_field Try.underlying46 hcs 4 22 4 1 rfl cells22
  obtain ⟨v, hv⟩ := slice_only Try.underlying22 h5
  rw [hv] at h5
  obtain ⟨A, n, c, l, rfl, hnc, hcm, hnl, arg⟩ := open_ints' (k := .u8) Try.underlying22 Try.underlying5 (by kernel_rfl) h5
  match cs, h1 with
  | [c0, c1, c2, c3, c4], _ =>
    simp at e1 e2 e3 e4 hv
    subst e1 e2 e3 e4 hv
    exact ⟨⟨x, y, z, u, A, n, c, _⟩, rfl, Bts.of_arg hnc hcm hnl arg⟩
theorem MRel.box {w wr : World} {p q : Nat} {xs xs' : List Wire} (h : MRel w p q xs' xs wr) : True := trivial
/-- The two, both fresh. -/
theorem mrel_new {w w1 : World} {N : NMem} (hn : NetAt w1 N []) (hq : Quiet w w1) (ho : ∀ k, NOwns N k → w.heap.size ≤ k) : MRel w N.p w1.heap.size [] [] (w1.alloc (.cells #[.slice none 0 0] 44)) := by
  have hq2 : Quiet w1 (w1.alloc (.cells #[.slice none 0 0] 44)) := (Only.refl _ _).alloc _
  exact ⟨N, .slice none 0 0, [], ⟨rfl, hn.quiet hq2, ⟨blk_new _ _, World.ownsRow_nil _ _ _ _, ⟨Nat.le_refl _, hq.size⟩, hq.trans hq2, by simp, by simp, by simp⟩, ho, fun k ⟨y, hy, _⟩ => by simp at hy, by simp [wires]⟩, rfl⟩
theorem AtBox.c0 {w : World} {g : Nat} {K k s m : Int} {A : Option Addr} {n c : Nat} (h : AtBox w g K k s m A n c) : w.cell? ⟨g, 0, none⟩ = some (.int .i64 K) := blk_cell h 0
theorem AtBox.c1 {w : World} {g : Nat} {K k s m : Int} {A : Option Addr} {n c : Nat} (h : AtBox w g K k s m A n c) : w.cell? ⟨g, 1, none⟩ = some (.int .i64 k) := blk_cell h 1
theorem AtBox.c2 {w : World} {g : Nat} {K k s m : Int} {A : Option Addr} {n c : Nat} (h : AtBox w g K k s m A n c) : w.cell? ⟨g, 2, none⟩ = some (.int .i64 s) := blk_cell h 2
theorem AtBox.c3 {w : World} {g : Nat} {K k s m : Int} {A : Option Addr} {n c : Nat} (h : AtBox w g K k s m A n c) : w.cell? ⟨g, 3, none⟩ = some (.int .i64 m) := blk_cell h 3
theorem AtBox.c4 {w : World} {g : Nat} {K k s m : Int} {A : Option Addr} {n c : Nat} (h : AtBox w g K k s m A n c) : w.cell? ⟨g, 4, none⟩ = some (.slice A n c) := blk_cell h 4
end Go.Proofs.Ytdigeppbflkknaa
