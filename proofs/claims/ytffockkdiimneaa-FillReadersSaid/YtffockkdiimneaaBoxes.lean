/-
  FillReaders' memory: a desk, the boxes of its pointer and of a fill's number, and two boxes of slices of bytes (what each reader has; what was put behind), with the four rows of them. No conditions.
-/
import Derived.Test.YtffockkdiimneaaRel
import Derived.Test.YtffockkdiimneaaLost
namespace Go.Proofs.Ytffockkdiimneaa
open Go.RowKit
set_option linter.unusedVariables false
set_option linter.unusedSimpArgs false

structure BRow where
  A : Option Addr
  c : Nat
structure RMem where
  D : DMem
  r : Fin 4 → BRow
def rsl (M : RMem) (L : Fin 4 → List UInt8) (j : Fin 4) : Value := .slice (M.r j).A (L j).length (M.r j).c
structure RAt (w : World) (p b7 b8 b11 b16 : Nat) (M : RMem) (d : Desk) (L : Fin 4 → List UInt8) (wr : World) : Prop where
  hp : M.D.p = p
  desk : DeskAt wr M.D d
  below : Below w.heap.size w wr
  own : ∀ k, DOwns M.D k → w.heap.size ≤ k
  bd : wr.heap[b7]? = some (.cells #[.pointer (some ⟨p, 0, none⟩)] 24 (0, 0))
  bi : wr.heap[b8]? = some (.cells #[.int .i64 1] 3 (0, 0))
  got : wr.heap[b11]? = some (.cells #[rsl M L 0, rsl M L 1, rsl M L 2] 40 (0, 0))
  all : wr.heap[b16]? = some (.cells #[rsl M L 3] 22 (0, 0))
  lo : w.heap.size ≤ b7 ∧ w.heap.size ≤ b8 ∧ w.heap.size ≤ b11 ∧ w.heap.size ≤ b16
  sl : ∀ j, Sl wr 5 (M.r j).A (L j).length (M.r j).c (bytes (L j))
  apart : ∀ i j, i ≠ j → ∀ k, RowOf (M.r i).A k → ¬ RowOf (M.r j).A k
  desk_apart : ∀ j k, RowOf (M.r j).A k → ¬ DOwns M.D k
  rown : ∀ j k, RowOf (M.r j).A k → w.heap.size ≤ k
section
variable {w wr w' : World} {p b7 b8 b11 b16 : Nat} {M : RMem} {d : Desk} {L : Fin 4 → List UInt8}
theorem RAt.notRow (h : RAt w p b7 b8 b11 b16 M d L wr) {b : Nat} {cs : Array Value} {t : TypeId} (hb : wr.heap[b]? = some (.cells cs t (0, 0))) (ht : 5 ≠ t) (j : Fin 4) : ¬ RowOf (M.r j).A b := fun hk => by
  obtain ⟨cur, hc⟩ := (h.sl j).type hk
  exact blk_ne hc hb ht rfl
theorem RAt.notOwned (h : RAt w p b7 b8 b11 b16 M d L wr) {b : Nat} {cs : Array Value} {t : TypeId} (hb : wr.heap[b]? = some (.cells cs t (0, 0))) (h1 : t ≠ 48) (h2 : t ≠ 69) (h3 : t ≠ 5) : ¬ DOwns M.D b := fun hk => h.desk.owns_ne hb h1 h2 h3 hk rfl
theorem RAt.step (h : RAt w p b7 b8 b11 b16 M d L wr) {D' : DMem} {d' : Desk} (hn : DeskAt w' D' d') (hs : DStep wr w' M.D D') : RAt w p b7 b8 b11 b16 { M with D := D' } d' L w' :=
  ⟨hs.same.trans h.hp, hn, h.below.trans (hs.only.below h.below.size h.own), fun k hk => (hs.grow k hk).elim (h.own k) (fun x => Nat.le_trans h.below.size x),
    hs.keep h.desk h.bd (by decide) (by decide) (by decide), hs.keep h.desk h.bi (by decide) (by decide) (by decide), hs.keep h.desk h.got (by decide) (by decide) (by decide), hs.keep h.desk h.all (by decide) (by decide) (by decide), h.lo,
    fun j => (h.sl j).only hs.only (fun k hk => h.desk_apart j k hk), h.apart,
    fun j k hk hk' => (hs.grow k hk').elim (h.desk_apart j k hk) (fun x => by have := (h.sl j).lt hk; omega), h.rown⟩
theorem RAt.quiet (h : RAt w p b7 b8 b11 b16 M d L wr) (hq : Quiet wr w') : RAt w p b7 b8 b11 b16 M d L w' :=
  ⟨h.hp, h.desk.quiet hq, h.below.trans (hq.below h.below.size (fun _ x => x.elim)), h.own, hq.keep h.bd (fun x => x), hq.keep h.bi (fun x => x), hq.keep h.got (fun x => x), hq.keep h.all (fun x => x), h.lo, fun j => (h.sl j).only hq (fun _ _ x => x), h.apart, h.desk_apart, h.rown⟩
def putR (f : Fin 4 → BRow) (j : Fin 4) (r : BRow) : Fin 4 → BRow := fun i => if i = j then r else f i
def putL (f : Fin 4 → List UInt8) (j : Fin 4) (r : List UInt8) : Fin 4 → List UInt8 := fun i => if i = j then r else f i
def boxOf (b11 b16 : Nat) (j : Fin 4) : Nat := if j.1 < 3 then b11 else b16
theorem RAt.bts (h : RAt w p b7 b8 b11 b16 M d L wr) {A : Option Addr} {n c : Nat} {l : List UInt8} (hb : Bts w A n c l) : Bts wr A n c l := hb.only (Only.of_below h.below) (fun k hk hk' => by omega)
theorem RAt.rowBts (h : RAt w p b7 b8 b11 b16 M d L wr) (j : Fin 4) : Bts wr (M.r j).A (L j).length (M.r j).c (L j) := (h.sl j).toBts
/-- Bytes put behind one of the four, and its box told so. -/
theorem RAt.put (h : RAt w p b7 b8 b11 b16 M d L wr) (j : Fin 4) {w1 : World} {ys : List UInt8} {A' : Option Addr} {n' c' : Nat} (hn : n' = (L j).length + ys.length) (hsl : Sl w1 5 A' n' c' (bytes (L j) ++ bytes ys))
    (hon : Only (RowOf (M.r j).A) wr w1) (hrow : ∀ k, RowOf A' k → RowOf (M.r j).A k ∨ wr.heap.size ≤ k) :
    RAt w p b7 b8 b11 b16 { M with r := putR M.r j ⟨A', c'⟩ } d (putL L j (L j ++ ys)) (w1.setCell ⟨boxOf b11 b16 j, j.1 % 3, none⟩ (.slice A' n' c')) := by
  have hlen : (L j ++ ys).length = n' := by simp [hn]
  have hw1 := h.below.trans (hon.below h.below.size (h.rown j))
  have hd1 := hon.keep h.bd (h.notRow h.bd (by decide) j)
  have hi1 := hon.keep h.bi (h.notRow h.bi (by decide) j)
  have ha1 := hon.keep h.all (h.notRow h.all (by decide) j)
  have hg1 := hon.keep h.got (h.notRow h.got (by decide) j)
  have hbt : ∃ cs t, w1.heap[boxOf b11 b16 j]? = some (.cells cs t (0, 0)) ∧ t ≠ 24 ∧ t ≠ 3 ∧ t ≠ 5 ∧ t ≠ 48 ∧ t ≠ 69 := by
    unfold boxOf
    split
    · exact ⟨_, _, hg1, by decide, by decide, by decide, by decide, by decide⟩
    · exact ⟨_, _, ha1, by decide, by decide, by decide, by decide, by decide⟩
  obtain ⟨cs, t, hcs, t1, t2, t3, t4, t5⟩ := hbt
  have hblo : w.heap.size ≤ boxOf b11 b16 j := by
    unfold boxOf
    split
    · exact h.lo.2.2.1
    · exact h.lo.2.2.2
  have hset : Only (· = boxOf b11 b16 j) w1 (w1.setCell ⟨boxOf b11 b16 j, j.1 % 3, none⟩ (.slice A' n' c')) := Only.setCell (S := (· = boxOf b11 b16 j)) (p := ⟨boxOf b11 b16 j, j.1 % 3, none⟩) (Only.refl _ _) (fun _ => rfl) _
  have hrows : ∀ (i : Fin 4) (k : Nat), RowOf (putR M.r j ⟨A', c'⟩ i).A k → (i = j ∧ RowOf A' k) ∨ (i ≠ j ∧ RowOf (M.r i).A k) := fun i k hk => by
    unfold putR at hk
    split at hk
    · exact .inl ⟨by assumption, hk⟩
    · exact .inr ⟨by assumption, hk⟩
  have hnb : ∀ (i : Fin 4) (k : Nat), RowOf (putR M.r j ⟨A', c'⟩ i).A k → k ≠ boxOf b11 b16 j := fun i k hk e => by
    rcases hrows i k hk with ⟨_, hk⟩ | ⟨hij, hk⟩
    · obtain ⟨cur, hc⟩ := hsl.type hk
      subst e
      exact blk_ne hc hcs t3.symm rfl
    · obtain ⟨cur, hc⟩ := ((h.sl i).only hon (fun k hk => h.apart i j hij k hk)).type hk
      subst e
      exact blk_ne hc hcs t3.symm rfl
  have hnetw : DeskAt w1 M.D d := h.desk.only hon (fun k hk hk' => h.desk_apart j k hk' hk)
  have far : ∀ {b : Nat} {cs' : Array Value} {t' : TypeId}, w1.heap[b]? = some (.cells cs' t' (0, 0)) → t' ≠ t → (w1.setCell ⟨boxOf b11 b16 j, j.1 % 3, none⟩ (.slice A' n' c')).heap[b]? = some (.cells cs' t' (0, 0)) := fun hb ht => blk_far hb (blk_ne hb hcs ht) _
  refine ⟨h.hp, hnetw.only hset (fun k hk e => hnetw.owns_ne hcs t4 t5 t3 hk e), hw1.trans (hset.below hw1.size (fun k e => e ▸ hblo)), h.own, far hd1 t1.symm, far hi1 t2.symm, ?_, ?_, h.lo, fun i => ?_, fun i i' hii k hk hk' => ?_, fun i k hk hk' => ?_, fun i k hk => ?_⟩
  · by_cases hj : j.1 < 3
    · have e : boxOf b11 b16 j = b11 := by unfold boxOf; rw [if_pos hj]
      rw [e]
      have := blk_set hg1 (j.1 % 3) (.slice A' n' c')
      rw [this]
      congr 2
      rcases (show j = 0 ∨ j = 1 ∨ j = 2 by omega) with rfl | rfl | rfl <;> first | (simp [rsl, putR, putL, hn]; done) | (simp [rsl, putR, putL, hn]; rfl)
    · have e : boxOf b11 b16 j = b16 := by unfold boxOf; rw [if_neg hj]
      rw [e, blk_far hg1 (show b11 ≠ b16 from blk_ne hg1 ha1 (by decide)) _]
      obtain rfl : j = 3 := by omega
      simp [rsl, putR, putL]
  · by_cases hj : j.1 < 3
    · have e : boxOf b11 b16 j = b11 := by unfold boxOf; rw [if_pos hj]
      rw [e, blk_far ha1 (show b16 ≠ b11 from blk_ne ha1 hg1 (by decide)) _]
      rcases (show j = 0 ∨ j = 1 ∨ j = 2 by omega) with rfl | rfl | rfl <;> simp [rsl, putR, putL]
    · have e : boxOf b11 b16 j = b16 := by unfold boxOf; rw [if_neg hj]
      rw [e]
      obtain rfl : j = 3 := by omega
      have := blk_set ha1 ((3 : Fin 4).1 % 3) (.slice A' n' c')
      rw [this]
      congr 2
      first | (simp [rsl, putR, putL, hn]; done) | (simp [rsl, putR, putL, hn]; rfl)
  · by_cases hij : i = j
    · subst hij
      have := hsl.only hset (fun k hk => hnb i k (by simpa [putR] using hk))
      simpa [putR, putL, bytes, hn] using this
    · have := ((h.sl i).only hon (fun k hk => h.apart i j hij k hk)).only hset (fun k hk => hnb i k (by simpa [putR, hij] using hk))
      simpa [putR, putL, hij] using this
  · rcases hrows i k hk with ⟨e1, hk1⟩ | ⟨hij, hk1⟩
    · rcases hrows i' k hk' with ⟨e2, _⟩ | ⟨hij', hk2⟩
      · exact hii (e1.trans e2.symm)
      · rcases hrow k hk1 with hk3 | hk3
        · exact h.apart j i' (fun e => hij' e.symm) k hk3 hk2
        · have := (h.sl i').lt hk2; omega
    · rcases hrows i' k hk' with ⟨e2, hk2⟩ | ⟨hij', hk2⟩
      · rcases hrow k hk2 with hk3 | hk3
        · exact h.apart i j hij k hk1 hk3
        · have := (h.sl i).lt hk1; omega
      · exact h.apart i i' hii k hk1 hk2
  · rcases hrows i k hk with ⟨e1, hk1⟩ | ⟨hij, hk1⟩
    · rcases hrow k hk1 with hk3 | hk3
      · exact h.desk_apart j k hk3 hk'
      · have := h.desk.lt hk'; omega
    · exact h.desk_apart i k hk1 hk'
  · rcases hrows i k hk with ⟨e1, hk1⟩ | ⟨hij, hk1⟩
    · rcases hrow k hk1 with hk3 | hk3
      · exact h.rown j k hk3
      · have := h.below.size; omega
    · exact h.rown i k hk1
end
end Go.Proofs.Ytffockkdiimneaa
