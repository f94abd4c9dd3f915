/-
  How a net of the program's lies in memory. No conditions.
-/
import Derived.Test.YtdigeppbflkknaaNobody
import Derived.Test.YtdigeppbflkknaaSlices
import Derived.Test.YtdigeppbflkknaaModel
namespace Go.Proofs.Ytdigeppbflkknaa
open Go.RowKit

def byte (b : UInt8) : Value := .int .u8 (b.toNat : Int)
def bytes (l : List UInt8) : List Value := l.map byte
theorem bytes_len (l : List UInt8) : (bytes l).length = l.length := by simp [bytes]
theorem bytes_one (l : List UInt8) : ∀ u ∈ bytes l, u.oneCell' = true := by
  intro u hu
  obtain ⟨b, _, rfl⟩ := List.mem_map.1 hu
  rfl
def ptr (a : Nat) : Value := .pointer (some ⟨a, 0, none⟩)
/-- Where a wire lies: its block, and the two slices of what waits. -/
structure WMem where
  blk : Nat
  a0 : Option Addr
  c0 : Nat
  a1 : Option Addr
  c1 : Nat
def WMem.row (m : WMem) (b : Bool) : Option Addr := if b then m.a1 else m.a0
def wireCells (m : WMem) (x : Wire) : Array Value := #[.slice m.a0 x.q0.length m.c0, .bool x.s0, .slice m.a1 x.q1.length m.c1, .bool x.s1, .bool x.lost]
structure WireAt (w : World) (m : WMem) (x : Wire) : Prop where
  blk : w.heap[m.blk]? = some (.cells (wireCells m x) 65 (0, 0))
  sl0 : Sl w 5 m.a0 x.q0.length m.c0 (bytes x.q0)
  sl1 : Sl w 5 m.a1 x.q1.length m.c1 (bytes x.q1)
  small : x.q0.length ≤ 1048576 ∧ x.q1.length ≤ 1048576
  apart : ∀ k, RowOf m.a0 k → ¬ RowOf m.a1 k

theorem Try.info5 : (Try.prog.info? 5).map (fun i => (i.zero, i.size, i.bytes)) = some (some (.int .u8 0), 1, 1) := by kernel_rfl

theorem WireAt.nb0 {w : World} {m : WMem} {x : Wire} (h : WireAt w m x) : ¬ RowOf m.a0 m.blk := fun hr => by
  obtain ⟨cur, hc⟩ := h.sl0.type hr
  exact blk_ne hc h.blk (by decide) rfl
theorem WireAt.nb1 {w : World} {m : WMem} {x : Wire} (h : WireAt w m x) : ¬ RowOf m.a1 m.blk := fun hr => by
  obtain ⟨cur, hc⟩ := h.sl1.type hr
  exact blk_ne hc h.blk (by decide) rfl
theorem WireAt.only {F : Nat → Prop} {w w' : World} {m : WMem} {x : Wire} (h : WireAt w m x) (ho : Only F w w') (hb : ¬ F m.blk) (h0 : ∀ k, RowOf m.a0 k → ¬ F k) (h1 : ∀ k, RowOf m.a1 k → ¬ F k) : WireAt w' m x :=
  ⟨ho.keep h.blk hb, h.sl0.only ho h0, h.sl1.only ho h1, h.small, h.apart⟩
theorem WireAt.quiet {w w' : World} {m : WMem} {x : Wire} (h : WireAt w m x) (ho : Quiet w w') : WireAt w' m x := h.only ho (fun x => x) (fun _ _ x => x) (fun _ _ x => x)
/-- Bytes put behind what waits for side 1. -/
theorem put_end1 {w W w' : World} {m : WMem} {x : Wire} {A' : Option Addr} {c' : Nat} {l : List UInt8} (hw : WireAt w m x) (hq : Quiet w W) (hon : Only (RowOf m.a1) W w')
    (hsl : Sl w' 5 A' (x.q1.length + l.length) c' (bytes x.q1 ++ bytes l)) (hrow : ∀ k, RowOf A' k → RowOf m.a1 k ∨ W.heap.size ≤ k) (hroom : (l.length : Int) ≤ 1048576 - x.q1.length) :
    WireAt (w'.setCell ⟨m.blk, 2, none⟩ (.slice A' (x.q1.length + l.length) c')) { m with a1 := A', c1 := c' } { x with q1 := x.q1 ++ l } ∧
      Only (fun k => k = m.blk ∨ RowOf m.a1 k) w (w'.setCell ⟨m.blk, 2, none⟩ (.slice A' (x.q1.length + l.length) c')) ∧ ∀ k, RowOf A' k → RowOf m.a1 k ∨ w.heap.size ≤ k := by
  have hw2 := hw.quiet hq
  have hb := hon.keep hw2.blk hw2.nb1
  have hne : ∀ k, RowOf A' k → k ≠ m.blk := fun k hk e => by
    obtain ⟨cur, hc⟩ := hsl.type hk
    subst e
    exact blk_ne hc hb (by decide) rfl
  have hoth := hw2.sl0.only hon (fun k hk => hw.apart k hk)
  have ho : Only (fun k => k = m.blk ∨ RowOf m.a1 k) w (w'.setCell ⟨m.blk, 2, none⟩ (.slice A' (x.q1.length + l.length) c')) :=
    Only.setCell (S := fun k => k = m.blk ∨ RowOf m.a1 k) ((hq.mono (fun _ _ x => x.elim)).trans (hon.mono (fun _ _ x => .inr x))) (fun _ => .inl rfl) _
  have hset : Only (· = m.blk) w' (w'.setCell ⟨m.blk, 2, none⟩ (.slice A' (x.q1.length + l.length) c')) := Only.setCell (S := (· = m.blk)) (Only.refl _ _) (fun _ => rfl) _
  refine ⟨⟨?_, ?_, ?_, ?_, ?_⟩, ho, fun k hk => (hrow k hk).imp id (fun h => by have := hq.size; omega)⟩
  · have := blk_set hb 2 (.slice A' (x.q1.length + l.length) c')
    simpa [wireCells] using this
  · exact hoth.only hset (fun k hk e => by subst e; exact hw2.nb0 hk)
  · simpa [bytes] using hsl.only hset (fun k hk => hne k hk)
  · have := hw.small; simp; omega
  · intro k hk hk'
    rcases hrow k hk' with h | h
    · exact hw.apart k hk h
    · have := hw2.sl0.lt hk; omega
/-- Bytes put behind what waits for side 0. -/
theorem put_end0 {w W w' : World} {m : WMem} {x : Wire} {A' : Option Addr} {c' : Nat} {l : List UInt8} (hw : WireAt w m x) (hq : Quiet w W) (hon : Only (RowOf m.a0) W w')
    (hsl : Sl w' 5 A' (x.q0.length + l.length) c' (bytes x.q0 ++ bytes l)) (hrow : ∀ k, RowOf A' k → RowOf m.a0 k ∨ W.heap.size ≤ k) (hroom : (l.length : Int) ≤ 1048576 - x.q0.length) :
    WireAt (w'.setCell ⟨m.blk, 0, none⟩ (.slice A' (x.q0.length + l.length) c')) { m with a0 := A', c0 := c' } { x with q0 := x.q0 ++ l } ∧
      Only (fun k => k = m.blk ∨ RowOf m.a0 k) w (w'.setCell ⟨m.blk, 0, none⟩ (.slice A' (x.q0.length + l.length) c')) ∧ ∀ k, RowOf A' k → RowOf m.a0 k ∨ w.heap.size ≤ k := by
  have hw2 := hw.quiet hq
  have hb := hon.keep hw2.blk hw2.nb0
  have hne : ∀ k, RowOf A' k → k ≠ m.blk := fun k hk e => by
    obtain ⟨cur, hc⟩ := hsl.type hk
    subst e
    exact blk_ne hc hb (by decide) rfl
  have hoth := hw2.sl1.only hon (fun k hk => fun h => hw.apart k h hk)
  have ho : Only (fun k => k = m.blk ∨ RowOf m.a0 k) w (w'.setCell ⟨m.blk, 0, none⟩ (.slice A' (x.q0.length + l.length) c')) :=
    Only.setCell (S := fun k => k = m.blk ∨ RowOf m.a0 k) ((hq.mono (fun _ _ x => x.elim)).trans (hon.mono (fun _ _ x => .inr x))) (fun _ => .inl rfl) _
  have hset : Only (· = m.blk) w' (w'.setCell ⟨m.blk, 0, none⟩ (.slice A' (x.q0.length + l.length) c')) := Only.setCell (S := (· = m.blk)) (Only.refl _ _) (fun _ => rfl) _
  refine ⟨⟨?_, ?_, ?_, ?_, ?_⟩, ho, fun k hk => (hrow k hk).imp id (fun h => by have := hq.size; omega)⟩
  · have := blk_set hb 0 (.slice A' (x.q0.length + l.length) c')
    simpa [wireCells] using this
  · simpa [bytes] using hsl.only hset (fun k hk => hne k hk)
  · exact hoth.only hset (fun k hk e => by subst e; exact hw2.nb1 hk)
  · have := hw.small; simp; omega
  · intro k hk hk'
    rcases hrow k hk with h | h
    · exact hw.apart k h hk'
    · have := hw2.sl1.lt hk'; omega
end Go.Proofs.Ytdigeppbflkknaa
