/-
  What the program's Take does to a net that lies in memory. No conditions.
-/
import Derived.Test.YtdigeppbflkknaaWords
import Derived.Deep.QuietTactic
import Derived.BigQuiet
import Derived.Lib.Hide
import Derived.Deep.RegionLaw
namespace Go.Proofs.Ytdigeppbflkknaa
open Go.RowKit

/-- The first bytes of what waits for side 0 are gone. -/
theorem cut_end0 {w W : World} {m : WMem} {x : Wire} {k0 : Nat} (hw : WireAt w m x) (hk : k0 ≤ x.q0.length) (hq : Quiet w W) :
    WireAt (W.setCell ⟨m.blk, 0, none⟩ (.slice (if m.c0 = k0 then m.a0 else m.a0.map (·.add k0)) (x.q0.length - k0) (m.c0 - k0))) { m with a0 := if m.c0 = k0 then m.a0 else m.a0.map (·.add k0), c0 := m.c0 - k0 } { x with q0 := x.q0.drop k0 } := by
  have hw2 := hw.quiet hq
  have hset : Only (· = m.blk) W (W.setCell ⟨m.blk, 0, none⟩ (.slice (if m.c0 = k0 then m.a0 else m.a0.map (·.add k0)) (x.q0.length - k0) (m.c0 - k0))) := Only.setCell (S := (· = m.blk)) (Only.refl _ _) (fun _ => rfl) _
  have hc := hw2.sl0.cut hk
  have hb := blk_set hw2.blk 0 (.slice (if m.c0 = k0 then m.a0 else m.a0.map (·.add k0)) (x.q0.length - k0) (m.c0 - k0))
  refine ⟨by simpa [wireCells] using hb, ?_, ?_, ?_, ?_⟩
  · simpa [bytes] using hc.only hset (fun k hk e => by subst e; exact hw2.nb0 (rowOf_cut hk))
  · exact hw2.sl1.only hset (fun k hk e => by subst e; exact hw2.nb1 hk)
  · have := hw.small; simp; omega
  · exact fun k hk => hw.apart k (rowOf_cut hk)
/-- The first bytes of what waits for side 1 are gone. -/
theorem cut_end1 {w W : World} {m : WMem} {x : Wire} {k0 : Nat} (hw : WireAt w m x) (hk : k0 ≤ x.q1.length) (hq : Quiet w W) :
    WireAt (W.setCell ⟨m.blk, 2, none⟩ (.slice (if m.c1 = k0 then m.a1 else m.a1.map (·.add k0)) (x.q1.length - k0) (m.c1 - k0))) { m with a1 := if m.c1 = k0 then m.a1 else m.a1.map (·.add k0), c1 := m.c1 - k0 } { x with q1 := x.q1.drop k0 } := by
  have hw2 := hw.quiet hq
  have hset : Only (· = m.blk) W (W.setCell ⟨m.blk, 2, none⟩ (.slice (if m.c1 = k0 then m.a1 else m.a1.map (·.add k0)) (x.q1.length - k0) (m.c1 - k0))) := Only.setCell (S := (· = m.blk)) (Only.refl _ _) (fun _ => rfl) _
  have hc := hw2.sl1.cut hk
  have hb := blk_set hw2.blk 2 (.slice (if m.c1 = k0 then m.a1 else m.a1.map (·.add k0)) (x.q1.length - k0) (m.c1 - k0))
  refine ⟨by simpa [wireCells] using hb, ?_, ?_, ?_, ?_⟩
  · exact hw2.sl0.only hset (fun k hk e => by subst e; exact hw2.nb0 hk)
  · simpa [bytes] using hc.only hset (fun k hk e => by subst e; exact hw2.nb1 (rowOf_cut hk))
  · have := hw.small; simp; omega
  · exact fun k hk h => hw.apart k hk (rowOf_cut h)
theorem Only.beyond {S T : Nat → Prop} {a b c : World} (h : Only S a b) (k : Only T b c) (hT : ∀ i, T i → a.heap.size ≤ i) : Only S a c :=
  ⟨k.os.trans h.os, k.tape.trans h.tape, k.output.trans h.output, Nat.le_trans h.size k.size, fun i hi hs => (k.block i (Nat.lt_of_lt_of_le hi h.size) (fun ht => by have := hT i ht; omega)).trans (h.block i hi hs)⟩
theorem blk_new' (w : World) (o : Obj) {g : Nat} (h : g = w.heap.size) : (w.alloc o).heap[g]? = some o := h ▸ blk_new w o
theorem blk_drew {w : World} {g : Nat} {x : Option Obj} (h : w.heap[g]? = x) : w.drew.heap[g]? = x := h
theorem blk_drewN {w : World} {n g : Nat} {x : Option Obj} (h : w.heap[g]? = x) : (w.drewN n).heap[g]? = x := h
theorem Sl.empty {w : World} {e : TypeId} {g : Nat} {cur : Array Value} (h : w.heap[g]? = some (.cells cur e (0, 0))) : Sl w e (some ⟨g, 0, none⟩) 0 0 [] := ⟨rfl, .inr ⟨g, 0, cur, rfl, h, Nat.le_refl _, by omega, Nat.zero_le _, fun i x hx => by simp at hx⟩⟩
theorem bytes_take (l : List UInt8) (k : Nat) : (bytes l).take k = bytes (l.take k) := by simp [bytes]
theorem none_len {w : World} {e : TypeId} {n c : Nat} {xs : List Value} {A : Option Addr} (h : Sl w e A n c xs) {k : Nat} (hk : k ≤ n) : A = none → k = 0 := fun e => by
  rcases h.2 with ⟨_, h1, _⟩ | ⟨g, off, cur, h1, _⟩
  · omega
  · rw [e] at h1; cases h1
/-- Behind the making of what is taken. -/
theorem take_after {w W w' : World} {m : WMem} {x : Wire} {side : Int} {kk j : Nat} {v : Value} (hw : WireAt w m x) (hv : w.cell? ⟨m.blk, j, none⟩ = some v) (hfz : w.frozen? ⟨m.blk, j, none⟩ = false) (hq : Quiet w W)
    (hb0 : W.cell? ⟨w.heap.size, 0, none⟩ = some (.int .i64 side)) (hb1 : W.cell? ⟨w.heap.size + 1, 0, none⟩ = some (.int .i64 kk)) (hb2 : W.cell? ⟨w.heap.size + 1 + 1, 0, none⟩ = some (.slice none 0 0)) (hf2 : W.frozen? ⟨w.heap.size + 1 + 1, 0, none⟩ = false) (hs : w.heap.size + 1 + 1 + 1 < W.heap.size)
    (hon : Only (RowOf (some ⟨w.heap.size + 1 + 1 + 1, 0, none⟩)) W w') :
    Quiet w w' ∧ w'.cell? ⟨w.heap.size, 0, none⟩ = some (.int .i64 side) ∧ w'.cell? ⟨w.heap.size + 1, 0, none⟩ = some (.int .i64 kk) ∧ w'.cell? ⟨w.heap.size + 1 + 1, 0, none⟩ = some (.slice none 0 0) ∧ w'.frozen? ⟨w.heap.size + 1 + 1, 0, none⟩ = false ∧ w.heap.size + 1 + 1 + 1 < w'.heap.size ∧
      w'.cell? ⟨m.blk, j, none⟩ = some v ∧ w'.frozen? ⟨m.blk, j, none⟩ = false ∧ m.blk < w'.heap.size := by
  have hne : ∀ k, RowOf (some ⟨w.heap.size + 1 + 1 + 1, 0, none⟩) k → k = w.heap.size + 1 + 1 + 1 := fun k ⟨a, h, e⟩ => by obtain rfl := Option.some.inj h; exact e.symm
  have hwl := lt_of_heap hw.blk
  have q : Quiet w w' := hq.beyond hon fun k h => by have := hne k h; omega
  refine ⟨q, (hon.cell (by simp; omega) (fun h => by have := hne _ h; simp at this; omega)).trans hb0, (hon.cell (by simp; omega) (fun h => by have := hne _ h; simp at this)).trans hb1, (hon.cell (by simp; omega) (fun h => by have := hne _ h; simp at this)).trans hb2,
    (hon.frozen (by simp; omega) (fun h => by have := hne _ h; simp at this)).trans hf2, by have := hon.size; omega, (q.cell hwl (fun h => h)).trans hv, (q.frozen hwl (fun h => h)).trans hfz, by have := hon.size; omega⟩
/-- What is taken lies behind, and the wire is cut. -/
theorem take_end0 {w w' : World} {m : WMem} {x : Wire} {kk n c c' : Nat} {A' a : Option Addr} {u v : Value} (hw : WireAt w m x) (hk : kk ≤ x.q0.length) (q : Quiet w w') (hs : w.heap.size + 1 + 1 < w'.heap.size)
    (hsl : Sl w' 5 A' kk c' (bytes (x.q0.take kk))) (hrow : ∀ k, RowOf A' k → w.heap.size + 1 + 1 + 1 ≤ k) (ha : a = if m.c0 = kk then m.a0 else m.a0.map (·.add kk)) (hc : c = m.c0 - kk) (hn : n = x.q0.length - kk) {z : Value} (hz : w'.cell? ⟨w.heap.size + 1 + 1, 0, none⟩ = some z) :
    Sl (((w'.setCell ⟨w.heap.size + 1 + 1, 0, none⟩ u).setCell ⟨m.blk, 0, none⟩ (.slice a n c)).setCell ⟨w.heap.size + 1 + 1, 0, none⟩ v) 5 A' kk c' (bytes (x.q0.take kk)) ∧ (∀ k, RowOf A' k → w.heap.size ≤ k) ∧
      WireAt (((w'.setCell ⟨w.heap.size + 1 + 1, 0, none⟩ u).setCell ⟨m.blk, 0, none⟩ (.slice a n c)).setCell ⟨w.heap.size + 1 + 1, 0, none⟩ v) { m with a0 := a, c0 := c } { x with q0 := x.q0.drop kk } ∧
      Only (fun k => k = m.blk) w (((w'.setCell ⟨w.heap.size + 1 + 1, 0, none⟩ u).setCell ⟨m.blk, 0, none⟩ (.slice a n c)).setCell ⟨w.heap.size + 1 + 1, 0, none⟩ v) ∧
      (((w'.setCell ⟨w.heap.size + 1 + 1, 0, none⟩ u).setCell ⟨m.blk, 0, none⟩ (.slice a n c)).setCell ⟨w.heap.size + 1 + 1, 0, none⟩ v).cell? ⟨w.heap.size + 1 + 1, 0, none⟩ = some v := by
  subst ha hc hn
  have hwl := lt_of_heap hw.blk
  have hb2 : m.blk < w.heap.size + 1 + 1 := by omega
  have q1 : Quiet w (w'.setCell ⟨w.heap.size + 1 + 1, 0, none⟩ u) := Only.setCell q (fun h => by simp at h; omega) u
  have hcut := cut_end0 hw hk q1
  have hF : Only (fun k => k = m.blk ∨ k = w.heap.size + 1 + 1) w' (((w'.setCell ⟨w.heap.size + 1 + 1, 0, none⟩ u).setCell ⟨m.blk, 0, none⟩ (.slice (if m.c0 = kk then m.a0 else m.a0.map (·.add kk)) (x.q0.length - kk) (m.c0 - kk))).setCell ⟨w.heap.size + 1 + 1, 0, none⟩ v) := by
    refine Only.setCell (S := fun k => k = m.blk ∨ k = w.heap.size + 1 + 1) (Only.setCell (S := fun k => k = m.blk ∨ k = w.heap.size + 1 + 1) (Only.setCell (S := fun k => k = m.blk ∨ k = w.heap.size + 1 + 1) (Only.refl _ _) (fun _ => .inr rfl) _) (fun _ => .inl rfl) _) (fun _ => .inr rfl) _
  have hL : Only (fun k => k = w.heap.size + 1 + 1) ((w'.setCell ⟨w.heap.size + 1 + 1, 0, none⟩ u).setCell ⟨m.blk, 0, none⟩ (.slice (if m.c0 = kk then m.a0 else m.a0.map (·.add kk)) (x.q0.length - kk) (m.c0 - kk))) _ := Only.setCell (S := fun k => k = w.heap.size + 1 + 1) (p := ⟨w.heap.size + 1 + 1, 0, none⟩) (Only.refl _ _) (fun _ => rfl) v
  refine ⟨hsl.only hF (fun k hk h => ?_), fun k hk => by have := hrow k hk; omega, hcut.only hL (fun h => by simp at h; omega) (fun k hk h => ?_) (fun k hk h => ?_), ?_, by go_simp⟩
  · have := hrow k hk; omega
  · have := hw.sl0.lt (k := k) (rowOf_cut hk); omega
  · have := hw.sl1.lt (k := k) hk; omega
  · exact Only.setCell (S := fun k => k = m.blk) (Only.setCell (S := fun k => k = m.blk) (q1.mono (fun _ _ h => h.elim)) (fun _ => rfl) _) (fun h => by simp at h; omega) _
/-- What is taken lies behind, and the wire is cut. -/
theorem take_end1 {w w' : World} {m : WMem} {x : Wire} {kk n c c' : Nat} {A' a : Option Addr} {u v : Value} (hw : WireAt w m x) (hk : kk ≤ x.q1.length) (q : Quiet w w') (hs : w.heap.size + 1 + 1 < w'.heap.size)
    (hsl : Sl w' 5 A' kk c' (bytes (x.q1.take kk))) (hrow : ∀ k, RowOf A' k → w.heap.size + 1 + 1 + 1 ≤ k) (ha : a = if m.c1 = kk then m.a1 else m.a1.map (·.add kk)) (hc : c = m.c1 - kk) (hn : n = x.q1.length - kk) {z : Value} (hz : w'.cell? ⟨w.heap.size + 1 + 1, 0, none⟩ = some z) :
    Sl (((w'.setCell ⟨w.heap.size + 1 + 1, 0, none⟩ u).setCell ⟨m.blk, 2, none⟩ (.slice a n c)).setCell ⟨w.heap.size + 1 + 1, 0, none⟩ v) 5 A' kk c' (bytes (x.q1.take kk)) ∧ (∀ k, RowOf A' k → w.heap.size ≤ k) ∧
      WireAt (((w'.setCell ⟨w.heap.size + 1 + 1, 0, none⟩ u).setCell ⟨m.blk, 2, none⟩ (.slice a n c)).setCell ⟨w.heap.size + 1 + 1, 0, none⟩ v) { m with a1 := a, c1 := c } { x with q1 := x.q1.drop kk } ∧
      Only (fun k => k = m.blk) w (((w'.setCell ⟨w.heap.size + 1 + 1, 0, none⟩ u).setCell ⟨m.blk, 2, none⟩ (.slice a n c)).setCell ⟨w.heap.size + 1 + 1, 0, none⟩ v) ∧
      (((w'.setCell ⟨w.heap.size + 1 + 1, 0, none⟩ u).setCell ⟨m.blk, 2, none⟩ (.slice a n c)).setCell ⟨w.heap.size + 1 + 1, 0, none⟩ v).cell? ⟨w.heap.size + 1 + 1, 0, none⟩ = some v := by
  subst ha hc hn
  have hwl := lt_of_heap hw.blk
  have hb2 : m.blk < w.heap.size + 1 + 1 := by omega
  have q1 : Quiet w (w'.setCell ⟨w.heap.size + 1 + 1, 0, none⟩ u) := Only.setCell q (fun h => by simp at h; omega) u
  have hcut := cut_end1 hw hk q1
  have hF : Only (fun k => k = m.blk ∨ k = w.heap.size + 1 + 1) w' (((w'.setCell ⟨w.heap.size + 1 + 1, 0, none⟩ u).setCell ⟨m.blk, 2, none⟩ (.slice (if m.c1 = kk then m.a1 else m.a1.map (·.add kk)) (x.q1.length - kk) (m.c1 - kk))).setCell ⟨w.heap.size + 1 + 1, 0, none⟩ v) := by
    refine Only.setCell (S := fun k => k = m.blk ∨ k = w.heap.size + 1 + 1) (Only.setCell (S := fun k => k = m.blk ∨ k = w.heap.size + 1 + 1) (Only.setCell (S := fun k => k = m.blk ∨ k = w.heap.size + 1 + 1) (Only.refl _ _) (fun _ => .inr rfl) _) (fun _ => .inl rfl) _) (fun _ => .inr rfl) _
  have hL : Only (fun k => k = w.heap.size + 1 + 1) ((w'.setCell ⟨w.heap.size + 1 + 1, 0, none⟩ u).setCell ⟨m.blk, 2, none⟩ (.slice (if m.c1 = kk then m.a1 else m.a1.map (·.add kk)) (x.q1.length - kk) (m.c1 - kk))) _ := Only.setCell (S := fun k => k = w.heap.size + 1 + 1) (p := ⟨w.heap.size + 1 + 1, 0, none⟩) (Only.refl _ _) (fun _ => rfl) v
  refine ⟨hsl.only hF (fun k hk h => ?_), fun k hk => by have := hrow k hk; omega, hcut.only hL (fun h => by simp at h; omega) (fun k hk h => ?_) (fun k hk h => ?_), ?_, by go_simp⟩
  · have := hrow k hk; omega
  · have := hw.sl0.lt (k := k) hk; omega
  · have := hw.sl1.lt (k := k) (rowOf_cut hk); omega
  · exact Only.setCell (S := fun k => k = m.blk) (Only.setCell (S := fun k => k = m.blk) (q1.mono (fun _ _ h => h.elim)) (fun _ => rfl) _) (fun h => by simp at h; omega) _
set_option maxHeartbeats 16000000 in
theorem take0_lost (p ga oa n ca i : Nat) (m : WMem) (x : Wire) (w : World)
    (hp : w.heap[p]? = some (.cells #[.bool true, .slice (some ⟨ga, oa, none⟩) n ca] 26 (0, 0))) (hg : ga < w.heap.size) (hel : w.cell? ⟨ga, oa + i, none⟩ = some (ptr m.blk)) (hi : i < n) (hn : n ≤ 256) (hw : WireAt w m x)
    (most : Int) (hm : 0 ≤ most) (hlost : x.lost = true) :
    Calls Try.prog 8 #[.pointer (some ⟨p, 0, none⟩), .int .i64 ((i : Int) + 1), .int .i64 0, .int .i64 most] w fun e w' => e = .returned (.tuple #[.slice none 0 0, .int .i64 20]) ∧ Quiet w w' := by
  have hp0 : w.cell? ⟨p, 0, none⟩ = some (.bool true) := blk_cell hp 0
  have hp1 : w.cell? ⟨p, 1, none⟩ = some (.slice (some ⟨ga, oa, none⟩) n ca) := blk_cell hp 1
  have hps := lt_of_heap hp
  have w0 : w.cell? ⟨m.blk, 0, none⟩ = some (.slice m.a0 x.q0.length m.c0) := blk_cell hw.blk 0
  have w1 : w.cell? ⟨m.blk, 1, none⟩ = some (.bool x.s0) := blk_cell hw.blk 1
  have w2 : w.cell? ⟨m.blk, 2, none⟩ = some (.slice m.a1 x.q1.length m.c1) := blk_cell hw.blk 2
  have w3 : w.cell? ⟨m.blk, 3, none⟩ = some (.bool x.s1) := blk_cell hw.blk 3
  have w4 : w.cell? ⟨m.blk, 4, none⟩ = some (.bool x.lost) := blk_cell hw.blk 4
  rw [hlost] at w4
  have wl := lt_of_heap hw.blk
  have hq0 := hw.small.1
  have hq1 := hw.small.2
  have HP := Lib.hid hp; clear hp
  have HW := Lib.hid hw; clear hw
  unfold ptr at hel
  have g1 : ga < w.heap.size + 1 := by omega
  have p1 : p < w.heap.size + 1 := by omega
  have b1 : m.blk < w.heap.size + 1 := by omega
  have g2 : ga < w.heap.size + 1 + 1 := by omega
  have p2 : p < w.heap.size + 1 + 1 := by omega
  have b2 : m.blk < w.heap.size + 1 + 1 := by omega
  have g3 : ga < w.heap.size + 1 + 1 + 1 := by omega
  have p3 : p < w.heap.size + 1 + 1 + 1 := by omega
  have b3 : m.blk < w.heap.size + 1 + 1 + 1 := by omega
  have g4 : ga < w.heap.size + 1 + 1 + 1 + 1 := by omega
  have b4 : m.blk < w.heap.size + 1 + 1 + 1 + 1 := by omega
  have HL := Lib.hid hlost; clear hlost
  go_enter Try.func8, Try.ntmps8
  go_wp2
  exact bodyPost_ret (v := .tuple #[.slice none 0 0, .int .i64 20]) (by simp [results, Try.results8, go_sem]) rfl ⟨rfl, (by repeat (first | exact Only.refl _ _ | refine Only.drewN ?_ _ | refine Only.drew ?_ | refine Only.alloc ?_ _ | refine Only.setCell ?_ (fun h => by simp at h) _))⟩
set_option maxHeartbeats 16000000 in
theorem take0_ok (p ga oa n ca i : Nat) (m : WMem) (x : Wire) (w : World)
    (hp : w.heap[p]? = some (.cells #[.bool true, .slice (some ⟨ga, oa, none⟩) n ca] 26 (0, 0))) (hg : ga < w.heap.size) (hel : w.cell? ⟨ga, oa + i, none⟩ = some (ptr m.blk)) (hi : i < n) (hn : n ≤ 256) (hw : WireAt w m x)
    (most : Int) (hm : 0 ≤ most) (hlost : x.lost = false) (hle : most ≤ x.q0.length) :
    Calls Try.prog 8 #[.pointer (some ⟨p, 0, none⟩), .int .i64 ((i : Int) + 1), .int .i64 0, .int .i64 most] w fun e w' => ∃ A' c', e = .returned (.tuple #[.slice A' (most.toNat) c', .int .i64 0]) ∧ Sl w' 5 A' (most.toNat) c' (bytes (x.q0.take (most.toNat))) ∧ (∀ k, RowOf A' k → w.heap.size ≤ k) ∧ WireAt w' { m with a0 := if m.c0 = most.toNat then m.a0 else m.a0.map (·.add (most.toNat)), c0 := m.c0 - most.toNat } { x with q0 := x.q0.drop (most.toNat) } ∧ Only (fun k => k = m.blk) w w' := by
  have hp0 : w.cell? ⟨p, 0, none⟩ = some (.bool true) := blk_cell hp 0
  have hp1 : w.cell? ⟨p, 1, none⟩ = some (.slice (some ⟨ga, oa, none⟩) n ca) := blk_cell hp 1
  have hps := lt_of_heap hp
  have w0 : w.cell? ⟨m.blk, 0, none⟩ = some (.slice m.a0 x.q0.length m.c0) := blk_cell hw.blk 0
  have w1 : w.cell? ⟨m.blk, 1, none⟩ = some (.bool x.s0) := blk_cell hw.blk 1
  have w2 : w.cell? ⟨m.blk, 2, none⟩ = some (.slice m.a1 x.q1.length m.c1) := blk_cell hw.blk 2
  have w3 : w.cell? ⟨m.blk, 3, none⟩ = some (.bool x.s1) := blk_cell hw.blk 3
  have w4 : w.cell? ⟨m.blk, 4, none⟩ = some (.bool x.lost) := blk_cell hw.blk 4
  rw [hlost] at w4
  have wf := blk_frozen hw.blk 0
  have hle2 := hw.sl0.le
  have hcap := hw.sl0.capLe
  unfold maxLen at hcap
  have wl := lt_of_heap hw.blk
  have hq0 := hw.small.1
  have hq1 := hw.small.2
  have HP := Lib.hid hp; clear hp
  have HW := Lib.hid hw; clear hw
  unfold ptr at hel
  have g1 : ga < w.heap.size + 1 := by omega
  have p1 : p < w.heap.size + 1 := by omega
  have b1 : m.blk < w.heap.size + 1 := by omega
  have g2 : ga < w.heap.size + 1 + 1 := by omega
  have p2 : p < w.heap.size + 1 + 1 := by omega
  have b2 : m.blk < w.heap.size + 1 + 1 := by omega
  have g3 : ga < w.heap.size + 1 + 1 + 1 := by omega
  have p3 : p < w.heap.size + 1 + 1 + 1 := by omega
  have b3 : m.blk < w.heap.size + 1 + 1 + 1 := by omega
  have g4 : ga < w.heap.size + 1 + 1 + 1 + 1 := by omega
  have b4 : m.blk < w.heap.size + 1 + 1 + 1 + 1 := by omega
  have HL := Lib.hid hlost; clear hlost
  obtain ⟨i0, hi0, hz0, hz1, hz2⟩ := info_parts Try.info5
  obtain ⟨kk, rfl⟩ : ∃ kk : Nat, most = (kk : Int) := ⟨most.toNat, by omega⟩
  have hkk : kk ≤ x.q0.length := by omega
  simp only [Int.toNat_natCast]
  go_enter Try.func8, Try.ntmps8
  go_wp2
  have hkc : kk ≤ m.c0 := by omega
  go_quiet (fail)
  go_wp2
  go_region
  all_goals
    go_wp2
  go_region_law (refine step_append_sl _ rfl (.tmp 19) (.tmp 25) 22 rfl 5 i0 (.int .u8 0) 1 Try.underlying22 hi0 hz0 hz1 hz2 rfl (some ⟨w.heap.size + 1 + 1 + 1, 0, none⟩) 0 0 [] rfl (Sl.empty (cur := #[]) (by repeat (first | exact blk_new' _ _ (by simp) | refine blk_drew ?_))) m.a0 kk m.c0 (bytes (x.q0.take kk)) rfl (by rw [bytes_len, List.length_take]; omega) (by rw [← bytes_take]; exact ((HW.out.sl0.take hkk).only (F := fun _ => False) (by repeat (first | exact Only.refl _ _ | refine Only.drewN ?_ _ | refine Only.drew ?_ | refine Only.alloc ?_ _ | refine Only.setCell ?_ (fun h => by first | (simp at h; done) | (simp at h; omega) | omega) _)) (fun _ _ h => h)).src) (none_len HW.out.sl0 hkk) (bytes_one _) (by unfold maxLen; omega) (by omega) ?_; intro A' c' w' hsl' hon' hrow'; obtain ⟨q', e0, e1, e2, e3, e4, e5, e6, e7⟩ := take_after (side := 0) (kk := kk) HW.out w0 wf (by repeat (first | exact Only.refl _ _ | refine Only.drewN ?_ _ | refine Only.drew ?_ | refine Only.alloc ?_ _ | refine Only.setCell ?_ (fun h => by first | (simp at h; done) | (simp at h; omega) | omega) _)) (by go_simp) (by go_simp) (by go_simp) (by go_simp) (by go_simp) hon'; have e8 : w.heap.size + 1 < w'.heap.size := (by omega); have e9 : w.heap.size + 1 + 1 < w'.heap.size := (by omega); have e10 : w.heap.size < w'.heap.size := (by omega))
  all_goals
    replace hsl' := Lib.hid hsl'
    replace hrow' := Lib.hid hrow'
    replace hon' := Lib.hid hon'
    replace q' := Lib.hid q'
    go_wp2
    go_region
    all_goals
      go_wp2
      all_goals
        obtain ⟨r1, r2, r3, r4, r5⟩ := take_end0 (u := .slice A' kk c') (v := .slice A' kk c') HW.out hkk q'.out e9 (by simpa using hsl'.out) (fun k hk => by
          rcases hrow'.out k hk with ⟨a, h, e⟩ | h
          · obtain rfl := Option.some.inj h; simp at e; omega
          · simp at h; omega) rfl rfl rfl e2
        clear hsl' hrow' hon'
        first
        | (have hcc : m.c0 = kk := by assumption
           rw [if_pos hcc, hcc, Nat.sub_self] at r1 r3 r4 r5
           exact bodyPost_ret (v := .tuple #[.slice A' kk c', .int .i64 0]) (by simp [results, Try.results8, go_sem, r5]) rfl ⟨_, _, rfl, r1.of_block (fun _ _ => rfl), r2, r3.quiet (Only.drew (Only.refl _ _)), Only.drew r4⟩)
        | (have hcc : ¬ m.c0 = kk := by assumption
           rw [if_neg hcc] at r1 r3 r4 r5
           exact bodyPost_ret (v := .tuple #[.slice A' kk c', .int .i64 0]) (by simp [results, Try.results8, go_sem, r5]) rfl ⟨_, _, rfl, r1.of_block (fun _ _ => rfl), r2, r3.quiet (Only.drew (Only.refl _ _)), Only.drew r4⟩)
set_option maxHeartbeats 16000000 in
theorem take0_all (p ga oa n ca i : Nat) (m : WMem) (x : Wire) (w : World)
    (hp : w.heap[p]? = some (.cells #[.bool true, .slice (some ⟨ga, oa, none⟩) n ca] 26 (0, 0))) (hg : ga < w.heap.size) (hel : w.cell? ⟨ga, oa + i, none⟩ = some (ptr m.blk)) (hi : i < n) (hn : n ≤ 256) (hw : WireAt w m x)
    (most : Int) (hm : 0 ≤ most) (hlost : x.lost = false) (hle : (x.q0.length : Int) < most) :
    Calls Try.prog 8 #[.pointer (some ⟨p, 0, none⟩), .int .i64 ((i : Int) + 1), .int .i64 0, .int .i64 most] w fun e w' => ∃ A' c', e = .returned (.tuple #[.slice A' (x.q0.length) c', .int .i64 0]) ∧ Sl w' 5 A' (x.q0.length) c' (bytes (x.q0.take (x.q0.length))) ∧ (∀ k, RowOf A' k → w.heap.size ≤ k) ∧ WireAt w' { m with a0 := if m.c0 = x.q0.length then m.a0 else m.a0.map (·.add (x.q0.length)), c0 := m.c0 - x.q0.length } { x with q0 := x.q0.drop (x.q0.length) } ∧ Only (fun k => k = m.blk) w w' := by
  have hp0 : w.cell? ⟨p, 0, none⟩ = some (.bool true) := blk_cell hp 0
  have hp1 : w.cell? ⟨p, 1, none⟩ = some (.slice (some ⟨ga, oa, none⟩) n ca) := blk_cell hp 1
  have hps := lt_of_heap hp
  have w0 : w.cell? ⟨m.blk, 0, none⟩ = some (.slice m.a0 x.q0.length m.c0) := blk_cell hw.blk 0
  have w1 : w.cell? ⟨m.blk, 1, none⟩ = some (.bool x.s0) := blk_cell hw.blk 1
  have w2 : w.cell? ⟨m.blk, 2, none⟩ = some (.slice m.a1 x.q1.length m.c1) := blk_cell hw.blk 2
  have w3 : w.cell? ⟨m.blk, 3, none⟩ = some (.bool x.s1) := blk_cell hw.blk 3
  have w4 : w.cell? ⟨m.blk, 4, none⟩ = some (.bool x.lost) := blk_cell hw.blk 4
  rw [hlost] at w4
  have wf := blk_frozen hw.blk 0
  have hle2 := hw.sl0.le
  have hcap := hw.sl0.capLe
  unfold maxLen at hcap
  have wl := lt_of_heap hw.blk
  have hq0 := hw.small.1
  have hq1 := hw.small.2
  have HP := Lib.hid hp; clear hp
  have HW := Lib.hid hw; clear hw
  unfold ptr at hel
  have g1 : ga < w.heap.size + 1 := by omega
  have p1 : p < w.heap.size + 1 := by omega
  have b1 : m.blk < w.heap.size + 1 := by omega
  have g2 : ga < w.heap.size + 1 + 1 := by omega
  have p2 : p < w.heap.size + 1 + 1 := by omega
  have b2 : m.blk < w.heap.size + 1 + 1 := by omega
  have g3 : ga < w.heap.size + 1 + 1 + 1 := by omega
  have p3 : p < w.heap.size + 1 + 1 + 1 := by omega
  have b3 : m.blk < w.heap.size + 1 + 1 + 1 := by omega
  have g4 : ga < w.heap.size + 1 + 1 + 1 + 1 := by omega
  have b4 : m.blk < w.heap.size + 1 + 1 + 1 + 1 := by omega
  have HL := Lib.hid hlost; clear hlost
  obtain ⟨i0, hi0, hz0, hz1, hz2⟩ := info_parts Try.info5
  obtain ⟨kk, hkk0⟩ : ∃ kk : Nat, kk = x.q0.length := ⟨_, rfl⟩
  rw [← hkk0] at w0 hle hq0 hle2 ⊢
  have hkk : kk ≤ x.q0.length := Nat.le_of_eq hkk0
  have HK := Lib.hid hkk0; clear hkk0
  go_enter Try.func8, Try.ntmps8
  go_wp2
  have hkc : kk ≤ m.c0 := by omega
  go_quiet (fail)
  go_wp2
  go_region
  all_goals
    go_wp2
  go_region_law (refine step_append_sl _ rfl (.tmp 19) (.tmp 25) 22 rfl 5 i0 (.int .u8 0) 1 Try.underlying22 hi0 hz0 hz1 hz2 rfl (some ⟨w.heap.size + 1 + 1 + 1, 0, none⟩) 0 0 [] rfl (Sl.empty (cur := #[]) (by repeat (first | exact blk_new' _ _ (by simp) | refine blk_drew ?_))) m.a0 kk m.c0 (bytes (x.q0.take kk)) rfl (by rw [bytes_len, List.length_take]; omega) (by rw [← bytes_take]; exact ((HW.out.sl0.take hkk).only (F := fun _ => False) (by repeat (first | exact Only.refl _ _ | refine Only.drewN ?_ _ | refine Only.drew ?_ | refine Only.alloc ?_ _ | refine Only.setCell ?_ (fun h => by first | (simp at h; done) | (simp at h; omega) | omega) _)) (fun _ _ h => h)).src) (none_len HW.out.sl0 hkk) (bytes_one _) (by unfold maxLen; omega) (by omega) ?_; intro A' c' w' hsl' hon' hrow'; obtain ⟨q', e0, e1, e2, e3, e4, e5, e6, e7⟩ := take_after (side := 0) (kk := kk) HW.out w0 wf (by repeat (first | exact Only.refl _ _ | refine Only.drewN ?_ _ | refine Only.drew ?_ | refine Only.alloc ?_ _ | refine Only.setCell ?_ (fun h => by first | (simp at h; done) | (simp at h; omega) | omega) _)) (by go_simp) (by go_simp) (by go_simp) (by go_simp) (by go_simp) hon'; have e8 : w.heap.size + 1 < w'.heap.size := (by omega); have e9 : w.heap.size + 1 + 1 < w'.heap.size := (by omega); have e10 : w.heap.size < w'.heap.size := (by omega))
  all_goals
    replace hsl' := Lib.hid hsl'
    replace hrow' := Lib.hid hrow'
    replace hon' := Lib.hid hon'
    replace q' := Lib.hid q'
    go_wp2
    go_region
    all_goals
      go_wp2
      all_goals
        obtain ⟨r1, r2, r3, r4, r5⟩ := take_end0 (n := 0) (u := .slice A' kk c') (v := .slice A' kk c') HW.out hkk q'.out e9 (by simpa using hsl'.out) (fun k hk => by
          rcases hrow'.out k hk with ⟨a, h, e⟩ | h
          · obtain rfl := Option.some.inj h; simp at e; omega
          · simp at h; omega) rfl rfl (by have := HK.out; omega) e2
        clear hsl' hrow' hon'
        first
        | (have hcc : m.c0 = kk := by assumption
           rw [if_pos hcc, hcc, Nat.sub_self] at r1 r3 r4 r5
           exact bodyPost_ret (v := .tuple #[.slice A' kk c', .int .i64 0]) (by simp [results, Try.results8, go_sem, r5]) rfl ⟨_, _, rfl, r1.of_block (fun _ _ => rfl), r2, r3.quiet (Only.drew (Only.refl _ _)), Only.drew r4⟩)
        | (have hcc : ¬ m.c0 = kk := by assumption
           rw [if_neg hcc] at r1 r3 r4 r5
           exact bodyPost_ret (v := .tuple #[.slice A' kk c', .int .i64 0]) (by simp [results, Try.results8, go_sem, r5]) rfl ⟨_, _, rfl, r1.of_block (fun _ _ => rfl), r2, r3.quiet (Only.drew (Only.refl _ _)), Only.drew r4⟩)
set_option maxHeartbeats 16000000 in
theorem take1_lost (p ga oa n ca i : Nat) (m : WMem) (x : Wire) (w : World)
    (hp : w.heap[p]? = some (.cells #[.bool true, .slice (some ⟨ga, oa, none⟩) n ca] 26 (0, 0))) (hg : ga < w.heap.size) (hel : w.cell? ⟨ga, oa + i, none⟩ = some (ptr m.blk)) (hi : i < n) (hn : n ≤ 256) (hw : WireAt w m x)
    (most : Int) (hm : 0 ≤ most) (hlost : x.lost = true) :
    Calls Try.prog 8 #[.pointer (some ⟨p, 0, none⟩), .int .i64 ((i : Int) + 1), .int .i64 1, .int .i64 most] w fun e w' => e = .returned (.tuple #[.slice none 0 0, .int .i64 20]) ∧ Quiet w w' := by
  have hp0 : w.cell? ⟨p, 0, none⟩ = some (.bool true) := blk_cell hp 0
  have hp1 : w.cell? ⟨p, 1, none⟩ = some (.slice (some ⟨ga, oa, none⟩) n ca) := blk_cell hp 1
  have hps := lt_of_heap hp
  have w0 : w.cell? ⟨m.blk, 0, none⟩ = some (.slice m.a0 x.q0.length m.c0) := blk_cell hw.blk 0
  have w1 : w.cell? ⟨m.blk, 1, none⟩ = some (.bool x.s0) := blk_cell hw.blk 1
  have w2 : w.cell? ⟨m.blk, 2, none⟩ = some (.slice m.a1 x.q1.length m.c1) := blk_cell hw.blk 2
  have w3 : w.cell? ⟨m.blk, 3, none⟩ = some (.bool x.s1) := blk_cell hw.blk 3
  have w4 : w.cell? ⟨m.blk, 4, none⟩ = some (.bool x.lost) := blk_cell hw.blk 4
  rw [hlost] at w4
  have wl := lt_of_heap hw.blk
  have hq0 := hw.small.1
  have hq1 := hw.small.2
  have HP := Lib.hid hp; clear hp
  have HW := Lib.hid hw; clear hw
  unfold ptr at hel
  have g1 : ga < w.heap.size + 1 := by omega
  have p1 : p < w.heap.size + 1 := by omega
  have b1 : m.blk < w.heap.size + 1 := by omega
  have g2 : ga < w.heap.size + 1 + 1 := by omega
  have p2 : p < w.heap.size + 1 + 1 := by omega
  have b2 : m.blk < w.heap.size + 1 + 1 := by omega
  have g3 : ga < w.heap.size + 1 + 1 + 1 := by omega
  have p3 : p < w.heap.size + 1 + 1 + 1 := by omega
  have b3 : m.blk < w.heap.size + 1 + 1 + 1 := by omega
  have g4 : ga < w.heap.size + 1 + 1 + 1 + 1 := by omega
  have b4 : m.blk < w.heap.size + 1 + 1 + 1 + 1 := by omega
  have HL := Lib.hid hlost; clear hlost
  go_enter Try.func8, Try.ntmps8
  go_wp2
  exact bodyPost_ret (v := .tuple #[.slice none 0 0, .int .i64 20]) (by simp [results, Try.results8, go_sem]) rfl ⟨rfl, (by repeat (first | exact Only.refl _ _ | refine Only.drewN ?_ _ | refine Only.drew ?_ | refine Only.alloc ?_ _ | refine Only.setCell ?_ (fun h => by simp at h) _))⟩
set_option maxHeartbeats 16000000 in
theorem take1_ok (p ga oa n ca i : Nat) (m : WMem) (x : Wire) (w : World)
    (hp : w.heap[p]? = some (.cells #[.bool true, .slice (some ⟨ga, oa, none⟩) n ca] 26 (0, 0))) (hg : ga < w.heap.size) (hel : w.cell? ⟨ga, oa + i, none⟩ = some (ptr m.blk)) (hi : i < n) (hn : n ≤ 256) (hw : WireAt w m x)
    (most : Int) (hm : 0 ≤ most) (hlost : x.lost = false) (hle : most ≤ x.q1.length) :
    Calls Try.prog 8 #[.pointer (some ⟨p, 0, none⟩), .int .i64 ((i : Int) + 1), .int .i64 1, .int .i64 most] w fun e w' => ∃ A' c', e = .returned (.tuple #[.slice A' (most.toNat) c', .int .i64 0]) ∧ Sl w' 5 A' (most.toNat) c' (bytes (x.q1.take (most.toNat))) ∧ (∀ k, RowOf A' k → w.heap.size ≤ k) ∧ WireAt w' { m with a1 := if m.c1 = most.toNat then m.a1 else m.a1.map (·.add (most.toNat)), c1 := m.c1 - most.toNat } { x with q1 := x.q1.drop (most.toNat) } ∧ Only (fun k => k = m.blk) w w' := by
  have hp0 : w.cell? ⟨p, 0, none⟩ = some (.bool true) := blk_cell hp 0
  have hp1 : w.cell? ⟨p, 1, none⟩ = some (.slice (some ⟨ga, oa, none⟩) n ca) := blk_cell hp 1
  have hps := lt_of_heap hp
  have w0 : w.cell? ⟨m.blk, 0, none⟩ = some (.slice m.a0 x.q0.length m.c0) := blk_cell hw.blk 0
  have w1 : w.cell? ⟨m.blk, 1, none⟩ = some (.bool x.s0) := blk_cell hw.blk 1
  have w2 : w.cell? ⟨m.blk, 2, none⟩ = some (.slice m.a1 x.q1.length m.c1) := blk_cell hw.blk 2
  have w3 : w.cell? ⟨m.blk, 3, none⟩ = some (.bool x.s1) := blk_cell hw.blk 3
  have w4 : w.cell? ⟨m.blk, 4, none⟩ = some (.bool x.lost) := blk_cell hw.blk 4
  rw [hlost] at w4
  have wf := blk_frozen hw.blk 2
  have hle2 := hw.sl1.le
  have hcap := hw.sl1.capLe
  unfold maxLen at hcap
  have wl := lt_of_heap hw.blk
  have hq0 := hw.small.1
  have hq1 := hw.small.2
  have HP := Lib.hid hp; clear hp
  have HW := Lib.hid hw; clear hw
  unfold ptr at hel
  have g1 : ga < w.heap.size + 1 := by omega
  have p1 : p < w.heap.size + 1 := by omega
  have b1 : m.blk < w.heap.size + 1 := by omega
  have g2 : ga < w.heap.size + 1 + 1 := by omega
  have p2 : p < w.heap.size + 1 + 1 := by omega
  have b2 : m.blk < w.heap.size + 1 + 1 := by omega
  have g3 : ga < w.heap.size + 1 + 1 + 1 := by omega
  have p3 : p < w.heap.size + 1 + 1 + 1 := by omega
  have b3 : m.blk < w.heap.size + 1 + 1 + 1 := by omega
  have g4 : ga < w.heap.size + 1 + 1 + 1 + 1 := by omega
  have b4 : m.blk < w.heap.size + 1 + 1 + 1 + 1 := by omega
  have HL := Lib.hid hlost; clear hlost
  obtain ⟨i0, hi0, hz0, hz1, hz2⟩ := info_parts Try.info5
  obtain ⟨kk, rfl⟩ : ∃ kk : Nat, most = (kk : Int) := ⟨most.toNat, by omega⟩
  have hkk : kk ≤ x.q1.length := by omega
  simp only [Int.toNat_natCast]
  go_enter Try.func8, Try.ntmps8
  go_wp2
  have hkc : kk ≤ m.c1 := by omega
  go_quiet (fail)
  go_wp2
  go_region
  all_goals
    go_wp2
  go_region_law (refine step_append_sl _ rfl (.tmp 19) (.tmp 25) 22 rfl 5 i0 (.int .u8 0) 1 Try.underlying22 hi0 hz0 hz1 hz2 rfl (some ⟨w.heap.size + 1 + 1 + 1, 0, none⟩) 0 0 [] rfl (Sl.empty (cur := #[]) (by repeat (first | exact blk_new' _ _ (by simp) | refine blk_drew ?_))) m.a1 kk m.c1 (bytes (x.q1.take kk)) rfl (by rw [bytes_len, List.length_take]; omega) (by rw [← bytes_take]; exact ((HW.out.sl1.take hkk).only (F := fun _ => False) (by repeat (first | exact Only.refl _ _ | refine Only.drewN ?_ _ | refine Only.drew ?_ | refine Only.alloc ?_ _ | refine Only.setCell ?_ (fun h => by first | (simp at h; done) | (simp at h; omega) | omega) _)) (fun _ _ h => h)).src) (none_len HW.out.sl1 hkk) (bytes_one _) (by unfold maxLen; omega) (by omega) ?_; intro A' c' w' hsl' hon' hrow'; obtain ⟨q', e0, e1, e2, e3, e4, e5, e6, e7⟩ := take_after (side := 1) (kk := kk) HW.out w2 wf (by repeat (first | exact Only.refl _ _ | refine Only.drewN ?_ _ | refine Only.drew ?_ | refine Only.alloc ?_ _ | refine Only.setCell ?_ (fun h => by first | (simp at h; done) | (simp at h; omega) | omega) _)) (by go_simp) (by go_simp) (by go_simp) (by go_simp) (by go_simp) hon'; have e8 : w.heap.size + 1 < w'.heap.size := (by omega); have e9 : w.heap.size + 1 + 1 < w'.heap.size := (by omega); have e10 : w.heap.size < w'.heap.size := (by omega))
  all_goals
    replace hsl' := Lib.hid hsl'
    replace hrow' := Lib.hid hrow'
    replace hon' := Lib.hid hon'
    replace q' := Lib.hid q'
    go_wp2
    go_region
    all_goals
      go_wp2
      all_goals
        obtain ⟨r1, r2, r3, r4, r5⟩ := take_end1 (u := .slice A' kk c') (v := .slice A' kk c') HW.out hkk q'.out e9 (by simpa using hsl'.out) (fun k hk => by
          rcases hrow'.out k hk with ⟨a, h, e⟩ | h
          · obtain rfl := Option.some.inj h; simp at e; omega
          · simp at h; omega) rfl rfl rfl e2
        clear hsl' hrow' hon'
        first
        | (have hcc : m.c1 = kk := by assumption
           rw [if_pos hcc, hcc, Nat.sub_self] at r1 r3 r4 r5
           exact bodyPost_ret (v := .tuple #[.slice A' kk c', .int .i64 0]) (by simp [results, Try.results8, go_sem, r5]) rfl ⟨_, _, rfl, r1.of_block (fun _ _ => rfl), r2, r3.quiet (Only.drew (Only.refl _ _)), Only.drew r4⟩)
        | (have hcc : ¬ m.c1 = kk := by assumption
           rw [if_neg hcc] at r1 r3 r4 r5
           exact bodyPost_ret (v := .tuple #[.slice A' kk c', .int .i64 0]) (by simp [results, Try.results8, go_sem, r5]) rfl ⟨_, _, rfl, r1.of_block (fun _ _ => rfl), r2, r3.quiet (Only.drew (Only.refl _ _)), Only.drew r4⟩)
set_option maxHeartbeats 16000000 in
theorem take1_all (p ga oa n ca i : Nat) (m : WMem) (x : Wire) (w : World)
    (hp : w.heap[p]? = some (.cells #[.bool true, .slice (some ⟨ga, oa, none⟩) n ca] 26 (0, 0))) (hg : ga < w.heap.size) (hel : w.cell? ⟨ga, oa + i, none⟩ = some (ptr m.blk)) (hi : i < n) (hn : n ≤ 256) (hw : WireAt w m x)
    (most : Int) (hm : 0 ≤ most) (hlost : x.lost = false) (hle : (x.q1.length : Int) < most) :
    Calls Try.prog 8 #[.pointer (some ⟨p, 0, none⟩), .int .i64 ((i : Int) + 1), .int .i64 1, .int .i64 most] w fun e w' => ∃ A' c', e = .returned (.tuple #[.slice A' (x.q1.length) c', .int .i64 0]) ∧ Sl w' 5 A' (x.q1.length) c' (bytes (x.q1.take (x.q1.length))) ∧ (∀ k, RowOf A' k → w.heap.size ≤ k) ∧ WireAt w' { m with a1 := if m.c1 = x.q1.length then m.a1 else m.a1.map (·.add (x.q1.length)), c1 := m.c1 - x.q1.length } { x with q1 := x.q1.drop (x.q1.length) } ∧ Only (fun k => k = m.blk) w w' := by
  have hp0 : w.cell? ⟨p, 0, none⟩ = some (.bool true) := blk_cell hp 0
  have hp1 : w.cell? ⟨p, 1, none⟩ = some (.slice (some ⟨ga, oa, none⟩) n ca) := blk_cell hp 1
  have hps := lt_of_heap hp
  have w0 : w.cell? ⟨m.blk, 0, none⟩ = some (.slice m.a0 x.q0.length m.c0) := blk_cell hw.blk 0
  have w1 : w.cell? ⟨m.blk, 1, none⟩ = some (.bool x.s0) := blk_cell hw.blk 1
  have w2 : w.cell? ⟨m.blk, 2, none⟩ = some (.slice m.a1 x.q1.length m.c1) := blk_cell hw.blk 2
  have w3 : w.cell? ⟨m.blk, 3, none⟩ = some (.bool x.s1) := blk_cell hw.blk 3
  have w4 : w.cell? ⟨m.blk, 4, none⟩ = some (.bool x.lost) := blk_cell hw.blk 4
  rw [hlost] at w4
  have wf := blk_frozen hw.blk 2
  have hle2 := hw.sl1.le
  have hcap := hw.sl1.capLe
  unfold maxLen at hcap
  have wl := lt_of_heap hw.blk
  have hq0 := hw.small.1
  have hq1 := hw.small.2
  have HP := Lib.hid hp; clear hp
  have HW := Lib.hid hw; clear hw
  unfold ptr at hel
  have g1 : ga < w.heap.size + 1 := by omega
  have p1 : p < w.heap.size + 1 := by omega
  have b1 : m.blk < w.heap.size + 1 := by omega
  have g2 : ga < w.heap.size + 1 + 1 := by omega
  have p2 : p < w.heap.size + 1 + 1 := by omega
  have b2 : m.blk < w.heap.size + 1 + 1 := by omega
  have g3 : ga < w.heap.size + 1 + 1 + 1 := by omega
  have p3 : p < w.heap.size + 1 + 1 + 1 := by omega
  have b3 : m.blk < w.heap.size + 1 + 1 + 1 := by omega
  have g4 : ga < w.heap.size + 1 + 1 + 1 + 1 := by omega
  have b4 : m.blk < w.heap.size + 1 + 1 + 1 + 1 := by omega
  have HL := Lib.hid hlost; clear hlost
  obtain ⟨i0, hi0, hz0, hz1, hz2⟩ := info_parts Try.info5
  obtain ⟨kk, hkk0⟩ : ∃ kk : Nat, kk = x.q1.length := ⟨_, rfl⟩
  rw [← hkk0] at w2 hle hq1 hle2 ⊢
  have hkk : kk ≤ x.q1.length := Nat.le_of_eq hkk0
  have HK := Lib.hid hkk0; clear hkk0
  go_enter Try.func8, Try.ntmps8
  go_wp2
  have hkc : kk ≤ m.c1 := by omega
  go_quiet (fail)
  go_wp2
  go_region
  all_goals
    go_wp2
  go_region_law (refine step_append_sl _ rfl (.tmp 19) (.tmp 25) 22 rfl 5 i0 (.int .u8 0) 1 Try.underlying22 hi0 hz0 hz1 hz2 rfl (some ⟨w.heap.size + 1 + 1 + 1, 0, none⟩) 0 0 [] rfl (Sl.empty (cur := #[]) (by repeat (first | exact blk_new' _ _ (by simp) | refine blk_drew ?_))) m.a1 kk m.c1 (bytes (x.q1.take kk)) rfl (by rw [bytes_len, List.length_take]; omega) (by rw [← bytes_take]; exact ((HW.out.sl1.take hkk).only (F := fun _ => False) (by repeat (first | exact Only.refl _ _ | refine Only.drewN ?_ _ | refine Only.drew ?_ | refine Only.alloc ?_ _ | refine Only.setCell ?_ (fun h => by first | (simp at h; done) | (simp at h; omega) | omega) _)) (fun _ _ h => h)).src) (none_len HW.out.sl1 hkk) (bytes_one _) (by unfold maxLen; omega) (by omega) ?_; intro A' c' w' hsl' hon' hrow'; obtain ⟨q', e0, e1, e2, e3, e4, e5, e6, e7⟩ := take_after (side := 1) (kk := kk) HW.out w2 wf (by repeat (first | exact Only.refl _ _ | refine Only.drewN ?_ _ | refine Only.drew ?_ | refine Only.alloc ?_ _ | refine Only.setCell ?_ (fun h => by first | (simp at h; done) | (simp at h; omega) | omega) _)) (by go_simp) (by go_simp) (by go_simp) (by go_simp) (by go_simp) hon'; have e8 : w.heap.size + 1 < w'.heap.size := (by omega); have e9 : w.heap.size + 1 + 1 < w'.heap.size := (by omega); have e10 : w.heap.size < w'.heap.size := (by omega))
  all_goals
    replace hsl' := Lib.hid hsl'
    replace hrow' := Lib.hid hrow'
    replace hon' := Lib.hid hon'
    replace q' := Lib.hid q'
    go_wp2
    go_region
    all_goals
      go_wp2
      all_goals
        obtain ⟨r1, r2, r3, r4, r5⟩ := take_end1 (n := 0) (u := .slice A' kk c') (v := .slice A' kk c') HW.out hkk q'.out e9 (by simpa using hsl'.out) (fun k hk => by
          rcases hrow'.out k hk with ⟨a, h, e⟩ | h
          · obtain rfl := Option.some.inj h; simp at e; omega
          · simp at h; omega) rfl rfl (by have := HK.out; omega) e2
        clear hsl' hrow' hon'
        first
        | (have hcc : m.c1 = kk := by assumption
           rw [if_pos hcc, hcc, Nat.sub_self] at r1 r3 r4 r5
           exact bodyPost_ret (v := .tuple #[.slice A' kk c', .int .i64 0]) (by simp [results, Try.results8, go_sem, r5]) rfl ⟨_, _, rfl, r1.of_block (fun _ _ => rfl), r2, r3.quiet (Only.drew (Only.refl _ _)), Only.drew r4⟩)
        | (have hcc : ¬ m.c1 = kk := by assumption
           rw [if_neg hcc] at r1 r3 r4 r5
           exact bodyPost_ret (v := .tuple #[.slice A' kk c', .int .i64 0]) (by simp [results, Try.results8, go_sem, r5]) rfl ⟨_, _, rfl, r1.of_block (fun _ _ => rfl), r2, r3.quiet (Only.drew (Only.refl _ _)), Only.drew r4⟩)
end Go.Proofs.Ytdigeppbflkknaa
