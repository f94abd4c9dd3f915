/-
  NetOrder's memory: a net, two boxes of two slices of bytes, and the four rows of them. No conditions.
-/
import Derived.Test.YtdigeppbflkknaaLost
import Derived.Test.YtdigeppbflkknaaOrderModel
namespace Go.Proofs.Ytdigeppbflkknaa
open Go.RowKit

structure BRow where
  A : Option Addr
  c : Nat
structure OMem where
  N : NMem
  r : Fin 4 → BRow
def boxCells (M : OMem) (L : Fin 4 → List UInt8) (i j : Fin 4) : Array Value := #[.slice (M.r i).A (L i).length (M.r i).c, .slice (M.r j).A (L j).length (M.r j).c]
structure OAt (w : World) (p b8 b9 : Nat) (M : OMem) (xs : List Wire) (L : Fin 4 → List UInt8) (wr : World) : Prop where
  p : M.N.p = p
  net : NetAt wr M.N xs
  below : Below w.heap.size w wr
  own : ∀ k, NOwns M.N k → w.heap.size ≤ k
  all : wr.heap[b8]? = some (.cells (boxCells M L 0 1) 56 (0, 0))
  got : wr.heap[b9]? = some (.cells (boxCells M L 2 3) 56 (0, 0))
  ne : b8 ≠ b9
  lo : w.heap.size ≤ b8 ∧ w.heap.size ≤ b9
  sl : ∀ j, Sl wr 5 (M.r j).A (L j).length (M.r j).c (bytes (L j))
  apart : ∀ i j, i ≠ j → ∀ k, RowOf (M.r i).A k → ¬ RowOf (M.r j).A k
  net_apart : ∀ j k, RowOf (M.r j).A k → ¬ NOwns M.N k
  rown : ∀ j k, RowOf (M.r j).A k → w.heap.size ≤ k

theorem NetAt.kind {w : World} {N : NMem} {xs : List Wire} (h : NetAt w N xs) {k : Nat} (hk : NOwns N k) : ∃ cur e, w.heap[k]? = some (.cells cur e (0, 0)) ∧ e ≠ 56 := by
  rcases hk with rfl | hk | ⟨m, hm, hk⟩
  · exact ⟨_, _, h.net, by decide⟩
  · obtain ⟨cur, hc⟩ := h.row.type hk
    exact ⟨_, _, hc, by decide⟩
  · obtain ⟨i, hi, rfl⟩ := List.getElem_of_mem hm
    obtain ⟨m', x, h1, h2, h3⟩ := h.there (by rw [← h.len]; exact hi)
    rw [List.getElem?_eq_getElem hi] at h1
    obtain rfl := Option.some.inj h1
    obtain ⟨cur, e, hc, he⟩ := h3.kind hk
    exact ⟨_, _, hc, by rcases he with rfl | rfl <;> decide⟩

section
variable {w wr w' : World} {p b8 b9 : Nat} {M : OMem} {xs : List Wire} {L : Fin 4 → List UInt8}
theorem OAt.notOwned (h : OAt w p b8 b9 M xs L wr) {b : Nat} {cs : Array Value} (hb : wr.heap[b]? = some (.cells cs 56 (0, 0))) : ¬ NOwns M.N b := fun hk => by
  obtain ⟨cur, e, hc, he⟩ := h.net.kind hk
  exact blk_ne hc hb he rfl
theorem OAt.notRow (h : OAt w p b8 b9 M xs L wr) {b : Nat} {cs : Array Value} (hb : wr.heap[b]? = some (.cells cs 56 (0, 0))) (j : Fin 4) : ¬ RowOf (M.r j).A b := fun hk => by
  obtain ⟨cur, hc⟩ := (h.sl j).type hk
  exact blk_ne hc hb (by decide) rfl
theorem OAt.netStep (h : OAt w p b8 b9 M xs L wr) {N' : NMem} {xs' : List Wire} (hn : NetAt w' N' xs') (hs : NStep wr w' M.N N') : OAt w p b8 b9 { M with N := N' } xs' L w' :=
  ⟨hs.same.trans h.p, hn, h.below.trans (hs.only.below h.below.size h.own), fun k hk => (hs.grow k hk).elim (h.own k) (fun x => Nat.le_trans h.below.size x),
    hs.only.keep h.all (h.notOwned h.all), hs.only.keep h.got (h.notOwned h.got), h.ne, h.lo, fun j => (h.sl j).only hs.only (fun k hk => h.net_apart j k hk), h.apart,
    fun j k hk hk' => (hs.grow k hk').elim (h.net_apart j k hk) (fun x => by have := (h.sl j).lt hk; omega), h.rown⟩
theorem OAt.quiet (h : OAt w p b8 b9 M xs L wr) (hq : Quiet wr w') : OAt w p b8 b9 M xs L w' :=
  ⟨h.p, h.net.quiet hq, h.below.trans (hq.below h.below.size (fun _ x => x.elim)), h.own, hq.keep h.all (fun x => x), hq.keep h.got (fun x => x), h.ne, h.lo, fun j => (h.sl j).only hq (fun _ _ x => x), h.apart, h.net_apart, h.rown⟩
def putR (f : Fin 4 → BRow) (j : Fin 4) (r : BRow) : Fin 4 → BRow := fun i => if i = j then r else f i
def boxOf (b8 b9 : Nat) (j : Fin 4) : Nat := if j.1 < 2 then b8 else b9
/-- Bytes put behind one of the four, and its box told so. -/
theorem OAt.put (h : OAt w p b8 b9 M xs L wr) (j : Fin 4) {w1 : World} {ys : List UInt8} {A' : Option Addr} {n' c' : Nat} (hn : n' = (L j).length + ys.length) (hsl : Sl w1 5 A' n' c' (bytes (L j) ++ bytes ys))
    (hon : Only (RowOf (M.r j).A) wr w1) (hrow : ∀ k, RowOf A' k → RowOf (M.r j).A k ∨ wr.heap.size ≤ k) :
    OAt w p b8 b9 { M with r := putR M.r j ⟨A', c'⟩ } xs (putL L j (L j ++ ys)) (w1.setCell ⟨boxOf b8 b9 j, j.1 % 2, none⟩ (.slice A' n' c')) := by
  have hlen : (L j ++ ys).length = n' := by simp [hn]
  have hw1 := h.below.trans (hon.below h.below.size (h.rown j))
  have ha1 := hon.keep h.all (h.notRow h.all j)
  have hg1 := hon.keep h.got (h.notRow h.got j)
  have hb56 : ∃ cs, w1.heap[boxOf b8 b9 j]? = some (.cells cs 56 (0, 0)) := by
    unfold boxOf
    split
    · exact ⟨_, ha1⟩
    · exact ⟨_, hg1⟩
  have hblo : w.heap.size ≤ boxOf b8 b9 j := by
    unfold boxOf
    split
    · exact h.lo.1
    · exact h.lo.2
  have hset : Only (· = boxOf b8 b9 j) w1 (w1.setCell ⟨boxOf b8 b9 j, j.1 % 2, none⟩ (.slice A' n' c')) := Only.setCell (S := (· = boxOf b8 b9 j)) (p := ⟨boxOf b8 b9 j, j.1 % 2, none⟩) (Only.refl _ _) (fun _ => rfl) _
  have hrows : ∀ (i : Fin 4) (k : Nat), RowOf (putR M.r j ⟨A', c'⟩ i).A k → (i = j ∧ RowOf A' k) ∨ (i ≠ j ∧ RowOf (M.r i).A k) := fun i k hk => by
    unfold putR at hk
    split at hk
    · exact .inl ⟨by assumption, hk⟩
    · exact .inr ⟨by assumption, hk⟩
  have hnb : ∀ (i : Fin 4) (k : Nat), RowOf (putR M.r j ⟨A', c'⟩ i).A k → k ≠ boxOf b8 b9 j := fun i k hk e => by
    obtain ⟨cs, hcs⟩ := hb56
    rcases hrows i k hk with ⟨_, hk⟩ | ⟨hij, hk⟩
    · obtain ⟨cur, hc⟩ := hsl.type hk
      subst e
      exact blk_ne hc hcs (by decide) rfl
    · obtain ⟨cur, hc⟩ := ((h.sl i).only hon (fun k hk => h.apart i j hij k hk)).type hk
      subst e
      exact blk_ne hc hcs (by decide) rfl
  have hnetw : NetAt w1 M.N xs := h.net.only hon (fun k hk hk' => h.net_apart j k hk' hk)
  refine ⟨h.p, hnetw.only hset (fun k hk e => ?_), hw1.trans (hset.below hw1.size (fun k e => e ▸ hblo)), h.own, ?_, ?_, h.ne, h.lo, fun i => ?_, fun i i' hii k hk hk' => ?_, fun i k hk hk' => ?_, fun i k hk => ?_⟩
  · obtain ⟨cs, hcs⟩ := hb56
    obtain ⟨cur, e', hc, he⟩ := hnetw.kind hk
    subst e
    exact blk_ne hc hcs he rfl
  · by_cases hj : j.1 < 2
    · have e : boxOf b8 b9 j = b8 := by unfold boxOf; rw [if_pos hj]
      rw [e]
      have := blk_set ha1 (j.1 % 2) (.slice A' n' c')
      rw [this]
      congr 2
      rcases (show j = 0 ∨ j = 1 by omega) with rfl | rfl <;> first | (simp [boxCells, putR, putL, hn]; done) | (simp [boxCells, putR, putL, hn]; rfl)
    · have e : boxOf b8 b9 j = b9 := by unfold boxOf; rw [if_neg hj]
      rw [e, blk_far ha1 (by simp; exact h.ne) _]
      rcases (show j = 2 ∨ j = 3 by omega) with rfl | rfl <;> simp [boxCells, putR, putL]
  · by_cases hj : j.1 < 2
    · have e : boxOf b8 b9 j = b8 := by unfold boxOf; rw [if_pos hj]
      rw [e, blk_far hg1 (by simp; exact h.ne.symm) _]
      rcases (show j = 0 ∨ j = 1 by omega) with rfl | rfl <;> simp [boxCells, putR, putL]
    · have e : boxOf b8 b9 j = b9 := by unfold boxOf; rw [if_neg hj]
      rw [e]
      have := blk_set hg1 (j.1 % 2) (.slice A' n' c')
      rw [this]
      congr 2
      rcases (show j = 2 ∨ j = 3 by omega) with rfl | rfl <;> first | (simp [boxCells, putR, putL, hn]; done) | (simp [boxCells, putR, putL, hn]; rfl)
  · by_cases hij : i = j
    · subst hij
      have := hsl.only hset (fun k hk => hnb i k (by simpa [putR] using hk))
      simpa [putR, putL, bytes, hn] using this
    · have := ((h.sl i).only hon (fun k hk => h.apart i j hij k hk)).only hset (fun k hk => hnb i k (by simpa [putR, hij] using hk))
      simpa [putR, putL, hij] using this
  · rcases hrows i k hk with ⟨e1, hk1⟩ | ⟨hij, hk1⟩
    · rcases hrows i' k hk' with ⟨e2, _⟩ | ⟨hij', hk2⟩
      · exact hii (e1.trans e2.symm)
      · rcases hrow k hk1 with hk3 | hk3
        · exact h.apart j i' (fun e => hij' e.symm) k hk3 hk2
        · have := (h.sl i').lt hk2; omega
    · rcases hrows i' k hk' with ⟨e2, hk2⟩ | ⟨hij', hk2⟩
      · rcases hrow k hk2 with hk3 | hk3
        · exact h.apart i j hij k hk1 hk3
        · have := (h.sl i).lt hk1; omega
      · exact h.apart i i' hii k hk1 hk2
  · rcases hrows i k hk with ⟨e1, hk1⟩ | ⟨hij, hk1⟩
    · rcases hrow k hk1 with hk3 | hk3
      · exact h.net_apart j k hk3 hk'
      · have := h.net.lt hk'; omega
    · exact h.net_apart i k hk1 hk'
  · rcases hrows i k hk with ⟨e1, hk1⟩ | ⟨hij, hk1⟩
    · rcases hrow k hk1 with hk3 | hk3
      · exact h.rown j k hk3
      · have := h.below.size; omega
    · exact h.rown i k hk1
theorem OAt.cellA (h : OAt w p b8 b9 M xs L wr) {y : Nat} (hy : y < 2) : wr.cell? ⟨b8, y, none⟩ = some (.slice (M.r (jA y)).A (L (jA y)).length (M.r (jA y)).c) := by
  rcases two hy with rfl | rfl
  · exact blk_cell h.all 0
  · exact blk_cell h.all 1
theorem OAt.cellG (h : OAt w p b8 b9 M xs L wr) {y : Nat} (hy : y < 2) : wr.cell? ⟨b9, y, none⟩ = some (.slice (M.r (jG y)).A (L (jG y)).length (M.r (jG y)).c) := by
  rcases two hy with rfl | rfl
  · exact blk_cell h.got 0
  · exact blk_cell h.got 1
theorem OAt.putA (h : OAt w p b8 b9 M xs L wr) {y : Nat} (hy : y < 2) {w1 : World} {ys : List UInt8} {A' : Option Addr} {n' c' : Nat} (hn : n' = (L (jA y)).length + ys.length) (hsl : Sl w1 5 A' n' c' (bytes (L (jA y)) ++ bytes ys))
    (hon : Only (RowOf (M.r (jA y)).A) wr w1) (hrow : ∀ k, RowOf A' k → RowOf (M.r (jA y)).A k ∨ wr.heap.size ≤ k) :
    OAt w p b8 b9 { M with r := putR M.r (jA y) ⟨A', c'⟩ } xs (putL L (jA y) (L (jA y) ++ ys)) (w1.setCell ⟨b8, y, none⟩ (.slice A' n' c')) := by
  have := h.put (jA y) hn hsl hon hrow
  rcases two hy with rfl | rfl
  · exact this
  · exact this
theorem OAt.putG (h : OAt w p b8 b9 M xs L wr) {y : Nat} (hy : y < 2) {w1 : World} {ys : List UInt8} {A' : Option Addr} {n' c' : Nat} (hn : n' = (L (jG y)).length + ys.length) (hsl : Sl w1 5 A' n' c' (bytes (L (jG y)) ++ bytes ys))
    (hon : Only (RowOf (M.r (jG y)).A) wr w1) (hrow : ∀ k, RowOf A' k → RowOf (M.r (jG y)).A k ∨ wr.heap.size ≤ k) :
    OAt w p b8 b9 { M with r := putR M.r (jG y) ⟨A', c'⟩ } xs (putL L (jG y) (L (jG y) ++ ys)) (w1.setCell ⟨b9, y, none⟩ (.slice A' n' c')) := by
  have := h.put (jG y) hn hsl hon hrow
  rcases two hy with rfl | rfl
  · exact this
  · exact this
theorem OAt.bts (h : OAt w p b8 b9 M xs L wr) {A : Option Addr} {n c : Nat} {l : List UInt8} (hb : Bts w A n c l) : Bts wr A n c l := hb.only (Only.of_below h.below) (fun k hk hk' => by omega)
theorem OAt.rowBts (h : OAt w p b8 b9 M xs L wr) (j : Fin 4) : Bts wr (M.r j).A (L j).length (M.r j).c (L j) := by
  have hs := h.sl j
  refine ⟨rfl, hs.le, hs.capLe, fun e => ?_, fun h0 => ?_⟩
  · rcases hs.2 with ⟨_, h5, h6⟩ | ⟨g, off, cur, h5, _⟩
    · exact ⟨h5, h6⟩
    · rw [e] at h5; cases h5
  · obtain ⟨b, off, h5, h6⟩ := hs.src (by rw [bytes_len]; exact h0)
    exact ⟨b, off, h5, hs.lt ⟨_, h5, rfl⟩, h6⟩
def ORel (w : World) (p b8 b9 : Nat) (xs : List Wire) (L : Fin 4 → List UInt8) (wr : World) : Prop := ∃ M, OAt w p b8 b9 M xs L wr
theorem ORel.quiet (h : ORel w p b8 b9 xs L wr) (hq : Quiet wr w') : ORel w p b8 b9 xs L w' := h.imp fun _ h => h.quiet hq
theorem osend (h : ORel w p b8 b9 xs L wr) (k side : Int) {A : Option Addr} {n c : Nat} {l : List UInt8} (hb : Bts wr A n c l) :
    Calls Try.prog 9 #[.pointer (some ⟨p, 0, none⟩), .int .i64 k, .int .i64 side, .slice A n c] wr fun e w' => e = .returned (.int .i64 (sendF xs k side l).1) ∧ ORel w p b8 b9 (sendF xs k side l).2 L w' := by
  obtain ⟨M, h⟩ := h
  have hl := hb.len
  subst hl
  have h2 := h.net
  rw [← h.p]
  refine (send_at h2 k side A c l (Nat.le_trans hb.le hb.cap) (fun W hW => (hb.only hW (fun _ _ x => x)).toSrc) (fun e => (hb.nil e).1)).mono ?_
  rintro e w' ⟨rfl, N', r1, r2⟩
  exact ⟨rfl, _, h.p.symm ▸ h.netStep r1 r2⟩
theorem otake (h : ORel w p b8 b9 xs L wr) (k side most : Int) :
    Calls Try.prog 8 #[.pointer (some ⟨p, 0, none⟩), .int .i64 k, .int .i64 side, .int .i64 most] wr fun e w' => ∃ A c, e = .returned (.tuple #[.slice A (takeF xs k side most).2.1.length c, .int .i64 (takeF xs k side most).1]) ∧
      Bts w' A (takeF xs k side most).2.1.length c (takeF xs k side most).2.1 ∧ ORel w p b8 b9 (takeF xs k side most).2.2 L w' := by
  obtain ⟨M, h⟩ := h
  have h2 := h.net
  rw [← h.p]
  refine (take_at h2 k side most).mono ?_
  rintro e w' ⟨A, c, rfl, r1, r2, N', r3, r4, r5⟩
  refine ⟨A, c, rfl, ⟨rfl, r1.le, r1.capLe, fun e => ?_, fun h0 => ?_⟩, _, h.p.symm ▸ h.netStep r3 r4⟩
  · subst e
    rcases r1.2 with ⟨_, h5, h6⟩ | ⟨g, off, cur, h5, _⟩
    · exact ⟨h5, h6⟩
    · cases h5
  · obtain ⟨b, off, h5, h6⟩ := r1.src (by rw [bytes_len]; exact h0)
    exact ⟨b, off, h5, r1.lt ⟨_, h5, rfl⟩, h6⟩
theorem oshut (h : ORel w p b8 b9 xs L wr) (k side : Int) : Calls Try.prog 10 #[.pointer (some ⟨p, 0, none⟩), .int .i64 k, .int .i64 side] wr fun e w' => e = .returned (.int .i64 (shutF xs k side).1) ∧ ORel w p b8 b9 (shutF xs k side).2 L w' := by
  obtain ⟨M, h⟩ := h
  have h2 := h.net
  rw [← h.p]
  refine (shut_at h2 k side).mono ?_
  rintro e w' ⟨rfl, N', r1, r2⟩
  exact ⟨rfl, _, h.p.symm ▸ h.netStep r1 r2⟩
theorem oreset (h : ORel w p b8 b9 xs L wr) (k : Int) : Calls Try.prog 11 #[.pointer (some ⟨p, 0, none⟩), .int .i64 k] wr fun e w' => e = .returned (.int .i64 (resetF xs k).1) ∧ ORel w p b8 b9 (resetF xs k).2 L w' := by
  obtain ⟨M, h⟩ := h
  have h2 := h.net
  rw [← h.p]
  refine (reset_at h2 k).mono ?_
  rintro e w' ⟨rfl, N', r1, r2⟩
  exact ⟨rfl, _, h.p.symm ▸ h.netStep r1 r2⟩
theorem owaiting (h : ORel w p b8 b9 xs L wr) (k side : Int) : Calls Try.prog 12 #[.pointer (some ⟨p, 0, none⟩), .int .i64 k, .int .i64 side] wr fun e w' => e = .returned (.int .i64 (waitingF xs k side)) ∧ Quiet wr w' := by
  obtain ⟨M, h⟩ := h
  rw [← h.p]
  exact waiting_at h.net k side
theorem oended (h : ORel w p b8 b9 xs L wr) (k side : Int) : Calls Try.prog 13 #[.pointer (some ⟨p, 0, none⟩), .int .i64 k, .int .i64 side] wr fun e w' => e = .returned (.bool (endedF xs k side)) ∧ Quiet wr w' := by
  obtain ⟨M, h⟩ := h
  rw [← h.p]
  exact ended_at h.net k side
end
end Go.Proofs.Ytdigeppbflkknaa
