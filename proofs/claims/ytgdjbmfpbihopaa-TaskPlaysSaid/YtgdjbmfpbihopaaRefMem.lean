/-
  The reference's world of tasks in memory. No conditions.
-/
import Derived.Test.YtgdjbmfpbihopaaWordsMem
namespace Go.Proofs.Ytgdjbmfpbihopaa
open Go.RowKit Go.MapKept
set_option linter.unusedVariables false
set_option linter.unusedSimpArgs false

def i64s (l : List Int) : List Value := l.map (Value.int .i64)
theorem i64s_len (l : List Int) : (i64s l).length = l.length := by simp [i64s]
theorem i64s_at {l : List Int} {i : Nat} {x : Int} (h : l[i]? = some x) : (i64s l)[i]? = some (.int .i64 x) := by simp [i64s, h]
theorem i64s_set (l : List Int) (i : Nat) (x : Int) : (i64s l).set i (.int .i64 x) = i64s (l.set i x) := by simp [i64s, List.map_set]
/-- A row of numbers. -/
structure RRow where
  A : Option Addr
  c : Nat
  l : List Int
def RRow.v (x : RRow) : Value := .slice x.A x.l.length x.c
/-- A task: all its operations, how many are done, what it has. -/
structure RTask where
  A : Option Addr
  c : Nat
  all : List Op3
  next : Nat
  has : Int
def rtc (t : RTask) : List Value := [.slice t.A t.all.length t.c, .int .i64 (t.next : Nat), .int .i64 t.has]
def rtf (ts : List RTask) : List Value := ts.flatMap rtc
theorem rtf_len : ∀ ts : List RTask, (rtf ts).length = ts.length * 3
  | [] => rfl
  | x :: l => by
    have := rtf_len l
    simp only [rtf, List.flatMap_cons, List.length_append, List.length_cons] at this ⊢
    rw [this]
    simp [rtc]
    omega
theorem rtf_at : ∀ {ts : List RTask} {i : Nat} {y : RTask}, ts[i]? = some y → ∀ j, j < 3 → (rtf ts)[i * 3 + j]? = (rtc y)[j]?
  | [], i, y, h, _, _ => by simp at h
  | x :: l, 0, y, h, j, hj => by
    simp only [List.getElem?_cons_zero, Option.some.injEq] at h
    subst h
    rw [Nat.zero_mul, Nat.zero_add]
    simp only [rtf, List.flatMap_cons]
    rw [List.getElem?_append_left (by simp [rtc]; exact hj)]
  | x :: l, i + 1, y, h, j, hj => by
    have := rtf_at (ts := l) (i := i) h j hj
    simp only [rtf, List.flatMap_cons] at this ⊢
    rw [List.getElem?_append_right (by simp [rtc]; omega), show (i + 1) * 3 + j - (rtc x).length = i * 3 + j by simp [rtc]; omega]
    exact this
theorem rtf_app (a b : List RTask) : rtf (a ++ b) = rtf a ++ rtf b := by simp [rtf]
theorem rtf_set : ∀ {ts : List RTask} {i : Nat} {t : RTask}, ts[i]? = some t → ∀ (t' : RTask) (j : Nat) (v : Value), j < 3 → (rtc t).set j v = rtc t' → (rtf ts).set (i * 3 + j) v = rtf (ts.set i t')
  | [], i, t, h, _, _, _, _, _ => by simp at h
  | z :: l, 0, t, h, t', j, v, hj, e => by
    simp only [List.getElem?_cons_zero, Option.some.injEq] at h
    subst h
    rw [Nat.zero_mul, Nat.zero_add]
    simp only [rtf, List.flatMap_cons, List.set_cons_zero]
    rw [List.set_append_left _ _ (by simp [rtc]; exact hj), e]
  | z :: l, i + 1, t, h, t', j, v, hj, e => by
    have := rtf_set (ts := l) (i := i) (by simpa using h) t' j v hj e
    simp only [rtf, List.flatMap_cons, List.set_cons_succ] at this ⊢
    rw [List.set_append_right _ _ (by simp [rtc]; omega), show (i + 1) * 3 + j - (rtc z).length = i * 3 + j by simp [rtc]; omega, this]
/-- The slice reads as these operations, of the reference's kind. -/
def RopSl (w : World) (A : Option Addr) (n c : Nat) (l : List Op3) : Prop :=
  l.length = n ∧ n ≤ c ∧ c ≤ maxLen ∧ (A = none → n = 0 ∧ c = 0) ∧
    ∀ a, A = some a → ∃ g off cur, a = ⟨g, off, none⟩ ∧ w.heap[g]? = some (.cells cur 78 (0, 0)) ∧ ∀ (i : Nat) (o : Op3), l[i]? = some o → ∀ j, j < 3 → cur[off + i * 3 + j]? = (opCells o)[j]?
theorem RopSl.only {F : Nat → Prop} {w w' : World} {A : Option Addr} {n c : Nat} {l : List Op3} (h : RopSl w A n c l) (ho : Only F w w') (hF : ∀ k cur, w.heap[k]? = some (.cells cur 78 (0, 0)) → ¬ F k) : RopSl w' A n c l := by
  obtain ⟨h1, h2, h3, h4, h5⟩ := h
  refine ⟨h1, h2, h3, h4, fun a ha => ?_⟩
  obtain ⟨g, off, cur, e, hb, hc⟩ := h5 a ha
  exact ⟨g, off, cur, e, ho.keep hb (hF g cur hb), hc⟩
theorem RopSl.at {w : World} {A : Option Addr} {n c : Nat} {l : List Op3} (h : RopSl w A n c l) {i : Nat} {o : Op3} (hi : l[i]? = some o) :
    ∃ g off, A = some ⟨g, off, none⟩ ∧ g < w.heap.size ∧ w.cell? ⟨g, off + i * 3, none⟩ = some (.int .i64 o.kind) ∧ w.cell? ⟨g, off + i * 3 + 1, none⟩ = some (.int .i64 o.a) ∧ w.cell? ⟨g, off + i * 3 + 2, none⟩ = some (.int .i64 o.b) := by
  obtain ⟨h1, h2, h3, h4, h5⟩ := h
  have := (List.getElem?_eq_some_iff.1 hi).1
  cases A with
  | none => have := (h4 rfl).1; omega
  | some a =>
    obtain ⟨g, off, cur, rfl, hb, hc⟩ := h5 a rfl
    have hc0 := hc i o hi
    exact ⟨g, off, rfl, lt_of_heap hb, (blk_cell hb _).trans (hc0 0 (by omega)), (blk_cell hb _).trans (hc0 1 (by omega)), (blk_cell hb _).trans (hc0 2 (by omega))⟩
/-- Nobody, or the holder's number and one. -/
def lockV : Option Int → Int
  | none => 0
  | some x => x + 1
structure RMem where
  p : Nat
  base : Nat
  lk : RRow
  wd : RRow
  sz : RRow
  gA : Option Addr
  gc : Nat
  cs : List RRow
  vt : Value
  ts : List RTask
def RMem.rows (M : RMem) : List RRow := M.lk :: M.wd :: M.sz :: M.cs
def rworld (M : RMem) : Array Value := #[M.lk.v, M.wd.v, .slice M.gA M.cs.length M.gc, M.sz.v, M.vt]
def ROwns (M : RMem) (k : Nat) : Prop := k = M.p ∨ (∃ x ∈ M.rows, RowOf x.A k) ∨ RowOf M.gA k ∨ M.vt.ownBlock = some k
structure RAt (w : World) (M : RMem) (W : Wd) : Prop where
  blk : w.heap[M.p]? = some (.cells (rworld M) 67 (0, 0))
  rows : ∀ x ∈ M.rows, Sl w 3 x.A x.l.length x.c (i64s x.l)
  apart : ∀ (i j : Nat) (x y : RRow), i ≠ j → M.rows[i]? = some x → M.rows[j]? = some y → ∀ k, RowOf x.A k → ¬ RowOf y.A k
  chans : Sl w 44 M.gA M.cs.length M.gc (M.cs.map RRow.v)
  tasks : w.ownsRow M.base 69 3 M.vt M.ts.length (rtf M.ts)
  tl : ∀ t ∈ M.ts, RopSl w t.A t.all.length t.c t.all ∧ t.next ≤ t.all.length ∧ t.all.length ≤ 1000
  lo : M.base ≤ w.heap.size
  own : ∀ k, ROwns M k → M.base ≤ k
  locks : W.locks = (M.lk.l.length : Int)
  holds : ∀ (k : Nat) (x : Int), M.lk.l[k]? = some x → x = lockV (W.holds (k : Int)) ∧ ∀ h, W.holds (k : Int) = some h → 0 ≤ h
  words : W.words = M.wd.l
  plen : W.pipes.length = M.cs.length ∧ M.sz.l.length = M.cs.length
  pipes : ∀ (j : Nat) (q : Pipe), W.pipes[j]? = some q → ∃ x, M.cs[j]? = some x ∧ x.l = q.l ∧ M.sz.l[j]? = some q.size
  thr : W.tasks = M.ts.map fun t => ⟨t.all.drop t.next, t.has⟩
  fit : FitW W
/-- What a call of the reference may turn. -/
def RSide (base : Nat) (w : World) (k : Nat) : Prop := base ≤ k ∧ ∃ cs t, w.heap[k]? = some (.cells cs t (0, 0)) ∧ (t = 67 ∨ t = 3 ∨ t = 44 ∨ t = 69)
theorem RSide.trans {base : Nat} {a b c : World} (h : Only (RSide base a) a b) (k : Only (RSide base b) b c) : Only (RSide base a) a c := by
  refine ⟨k.os.trans h.os, k.tape.trans h.tape, k.output.trans h.output, Nat.le_trans h.size k.size, fun i hi hs => ?_⟩
  have e := h.block i hi hs
  exact (k.block i (Nat.lt_of_lt_of_le hi h.size) (fun ⟨q, cs, t, hc, ht⟩ => hs ⟨q, cs, t, e.symm.trans hc, ht⟩)).trans e
theorem RSide.quiet {base : Nat} {a b : World} (h : Quiet a b) : Only (RSide base a) a b := h.mono (fun _ _ x => x.elim)
def RRel (base p : Nat) (W : Wd) (w : World) : Prop := ∃ M, RAt w M W ∧ M.p = p ∧ M.base = base
section
variable {w w' : World} {M : RMem} {W : Wd}
theorem row_ownB {base e size n : Nat} {v : Value} {xs : List Value} (h : w.ownsRow base e size v n xs) {k : Nat} (hk : v.ownBlock = some k) : ∃ cur, w.heap[k]? = some (.cells cur e (0, 0)) := by
  obtain ⟨h1, ⟨rfl, _⟩ | ⟨g, cap, cur, rfl, h4, h5, h6⟩⟩ := h
  · cases hk
  · obtain rfl := Option.some.inj hk
    exact ⟨cur, h5⟩
theorem row_onlyB {F : Nat → Prop} {base e size n : Nat} {v : Value} {xs : List Value} (h : w.ownsRow base e size v n xs) (ho : Only F w w') (hF : ∀ k, v.ownBlock = some k → ¬ F k) : w'.ownsRow base e size v n xs := by
  obtain ⟨h1, h2⟩ := h
  refine ⟨h1, h2.imp_right ?_⟩
  rintro ⟨g, cap, cur, rfl, h4, h5, h6⟩
  exact ⟨g, cap, cur, rfl, h4, ho.keep h5 (hF g rfl), h6⟩
/-- Kept, where no block of the reference's kinds turns. -/
theorem RAt.only {F : Nat → Prop} (h : RAt w M W) (ho : Only F w w') (hF : ∀ k, F k → ∀ cs t, w.heap[k]? = some (.cells cs t (0, 0)) → t ≠ 67 ∧ t ≠ 3 ∧ t ≠ 44 ∧ t ≠ 69 ∧ t ≠ 78) : RAt w' M W := by
  refine ⟨ho.keep h.blk (fun q => (hF _ q _ _ h.blk).1 rfl), fun x hx => (h.rows x hx).only ho (fun k hk q => ?_), h.apart, h.chans.only ho (fun k hk q => ?_), row_onlyB h.tasks ho (fun k hk q => ?_), fun t ht => ⟨(h.tl t ht).1.only ho (fun k cur hc q => (hF k q _ _ hc).2.2.2.2 rfl), (h.tl t ht).2⟩, Nat.le_trans h.lo ho.size, h.own, h.locks, h.holds, h.words, h.plen, h.pipes, h.thr, h.fit⟩
  · obtain ⟨cur, hc⟩ := (h.rows x hx).type hk
    exact (hF k q _ _ hc).2.1 rfl
  · obtain ⟨cur, hc⟩ := h.chans.type hk
    exact (hF k q _ _ hc).2.2.1 rfl
  · obtain ⟨cur, hc⟩ := row_ownB h.tasks hk
    exact (hF k q _ _ hc).2.2.2.1 rfl
theorem RAt.quiet (h : RAt w M W) (hq : Quiet w w') : RAt w' M W := h.only hq (fun _ q => q.elim)
theorem RRel.quiet {base p : Nat} (h : RRel base p W w) (hq : Quiet w w') : RRel base p W w' := let ⟨M, h1, h2⟩ := h; ⟨M, h1.quiet hq, h2⟩
/-- A call of the program leaves it. -/
theorem RRel.side {base base' p : Nat} (h : RRel base p W w) (ho : Only (TSide base' w) w w') : RRel base p W w' := by
  obtain ⟨M, h1, h2⟩ := h
  refine ⟨M, h1.only ho (fun k q cs t hc => ?_), h2⟩
  rcases q.2 cs t _ hc with e | e | e | e <;> subst e <;> decide
/-- A call of the reference leaves the program's world. -/
theorem TRel.rside {base base' p : Nat} (h : TRel base p W w) (ho : Only (RSide base' w) w w') : TRel base p W w' := by
  refine h.only ho (fun k ⟨_, cs, t, hct, ht⟩ => ⟨cs, t, hct, ?_⟩)
  rcases ht with e | e | e | e <;> subst e <;> decide
theorem rside_quiet {w0 : World} {base : Nat} (hq : Quiet w0 w) (hb : w0.heap.size ≤ base) (ho : Only (RSide base w) w w') : Quiet w0 w' := hq.over ho (fun i hi q => by have := q.1; omega)
/-- The cells of the block, and of a task. -/
theorem RAt.head (h : RAt w M W) : w.cell? ⟨M.p, 0, none⟩ = some M.lk.v ∧ w.cell? ⟨M.p, 1, none⟩ = some M.wd.v ∧ w.cell? ⟨M.p, 2, none⟩ = some (.slice M.gA M.cs.length M.gc) ∧ w.cell? ⟨M.p, 3, none⟩ = some M.sz.v ∧ w.cell? ⟨M.p, 4, none⟩ = some M.vt ∧ M.p < w.heap.size :=
  ⟨blk_cell h.blk 0, blk_cell h.blk 1, blk_cell h.blk 2, blk_cell h.blk 3, blk_cell h.blk 4, lt_of_heap h.blk⟩
theorem RAt.len (h : RAt w M W) : W.tasks.length = M.ts.length ∧ M.ts.length ≤ 64 := by
  have : W.tasks.length = M.ts.length := by rw [h.thr, List.length_map]
  exact ⟨this, this ▸ h.fit.tasks⟩
theorem RAt.shape (h : RAt w M W) : ∃ A cap, M.vt = .slice A M.ts.length cap ∧ M.ts.length ≤ cap ∧ cap ≤ maxLen := by
  obtain ⟨h1, ⟨h2, h3⟩ | ⟨g, cap, cur, h3, h4, h5, h6, h7, h8, h9⟩⟩ := h.tasks
  · exact ⟨none, 0, by rw [h2, h3], by omega, by unfold maxLen; omega⟩
  · exact ⟨_, cap, h3, h6, h7⟩
theorem RAt.task (h : RAt w M W) {i : Nat} {t : RTask} (ht : M.ts[i]? = some t) :
    ∃ g cap, M.vt = .slice (some ⟨g, 0, none⟩) M.ts.length cap ∧ M.ts.length ≤ cap ∧ cap ≤ maxLen ∧ g < w.heap.size ∧ w.cell? ⟨g, i * 3, none⟩ = some (.slice t.A t.all.length t.c) ∧ w.cell? ⟨g, i * 3 + 1, none⟩ = some (.int .i64 (t.next : Nat)) ∧ w.cell? ⟨g, i * 3 + 2, none⟩ = some (.int .i64 t.has) := by
  have hi : i < M.ts.length := (List.getElem?_eq_some_iff.1 ht).1
  obtain ⟨h1, ⟨h2, h3⟩ | ⟨g, cap, cur, h3, h4, h5, h6, h7, h8, h9⟩⟩ := h.tasks
  · omega
  · have hc : ∀ j, j < 3 → w.cell? ⟨g, i * 3 + j, none⟩ = (rtc t)[j]? := fun j hj => by
      rw [blk_cell h5, ← rtf_at ht j hj, ← h9, List.getElem?_take, if_pos (by omega), Array.getElem?_toList]
    exact ⟨g, cap, h3, h6, h7, lt_of_heap h5, hc 0 (by omega), hc 1 (by omega), hc 2 (by omega)⟩
theorem RAt.thread (h : RAt w M W) {i : Nat} {t : RTask} (ht : M.ts[i]? = some t) : W.tasks[i]? = some ⟨t.all.drop t.next, t.has⟩ := by rw [h.thr, List.getElem?_map, ht]; rfl
/-- A lock's cell. -/
theorem RAt.lock (h : RAt w M W) {a : Nat} (ha : (a : Int) < W.locks) : ∃ g off, M.lk.A = some ⟨g, off, none⟩ ∧ g < w.heap.size ∧ a < M.lk.l.length ∧ M.lk.l.length ≤ M.lk.c ∧ M.lk.c ≤ maxLen ∧ w.cell? ⟨g, off + a, none⟩ = some (.int .i64 (lockV (W.holds (a : Int)))) ∧ ∀ x, W.holds (a : Int) = some x → 0 ≤ x := by
  rw [h.locks] at ha
  obtain ⟨x, hx⟩ : ∃ x, M.lk.l[a]? = some x := ⟨_, List.getElem?_eq_getElem (by omega)⟩
  have hs := h.rows M.lk (.head _)
  obtain ⟨g, off, e1, e2, e3⟩ := hs.cell (i64s_at hx)
  obtain ⟨h1, h2⟩ := h.holds a x hx
  exact ⟨g, off, e1, e2, by omega, hs.le, hs.capLe, h1 ▸ e3, h2⟩
/-- A channel's cells: its slice, and its size. -/
theorem RAt.chan (h : RAt w M W) {a : Nat} {q : Pipe} (hq : W.pipes[a]? = some q) : ∃ x g off gz oz, M.cs[a]? = some x ∧ x.l = q.l ∧ M.gA = some ⟨g, off, none⟩ ∧ g < w.heap.size ∧ a < M.cs.length ∧ M.cs.length ≤ M.gc ∧ M.gc ≤ maxLen ∧ w.cell? ⟨g, off + a, none⟩ = some (.slice x.A q.l.length x.c) ∧
    M.sz.A = some ⟨gz, oz, none⟩ ∧ gz < w.heap.size ∧ a < M.sz.l.length ∧ M.sz.l.length ≤ M.sz.c ∧ M.sz.c ≤ maxLen ∧ w.cell? ⟨gz, oz + a, none⟩ = some (.int .i64 q.size) := by
  obtain ⟨x, hx, hxl, hz⟩ := h.pipes a q hq
  have hs := h.rows M.sz (.tail _ (.tail _ (.head _)))
  obtain ⟨g, off, e1, e2, e3⟩ := h.chans.cell (i := a) (x := x.v) (by rw [List.getElem?_map, hx]; rfl)
  obtain ⟨gz, oz, e4, e5, e6⟩ := hs.cell (i64s_at hz)
  refine ⟨x, g, off, gz, oz, hx, hxl, e1, e2, (List.getElem?_eq_some_iff.1 hx).1, h.chans.le, h.chans.capLe, ?_, e4, e5, (List.getElem?_eq_some_iff.1 hz).1, hs.le, hs.capLe, e6⟩
  rw [e3, RRow.v, hxl]
end
end Go.Proofs.Ytgdjbmfpbihopaa
