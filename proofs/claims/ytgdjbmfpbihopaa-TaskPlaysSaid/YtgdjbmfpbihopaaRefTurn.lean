/-
  The reference's world of tasks turned in one place. No conditions.
-/
import Derived.Test.YtgdjbmfpbihopaaRefMem
namespace Go.Proofs.Ytgdjbmfpbihopaa
open Go.RowKit Go.MapKept
set_option linter.unusedVariables false
set_option linter.unusedSimpArgs false

section
variable {w w' : World} {M : RMem} {W : Wd}
theorem RAt.side (h : RAt w M W) {k : Nat} (hk : ROwns M k) : RSide M.base w k := by
  refine ⟨h.own k hk, ?_⟩
  rcases hk with rfl | ⟨x, hx, hk⟩ | hk | hk
  · exact ⟨_, _, h.blk, .inl rfl⟩
  · obtain ⟨cur, hc⟩ := (h.rows x hx).type hk; exact ⟨_, _, hc, .inr (.inl rfl)⟩
  · obtain ⟨cur, hc⟩ := h.chans.type hk; exact ⟨_, _, hc, .inr (.inr (.inl rfl))⟩
  · obtain ⟨cur, hc⟩ := row_ownB h.tasks hk; exact ⟨_, _, hc, .inr (.inr (.inr rfl))⟩
theorem drop_sub {α : Type} {l : List α} {n m : Nat} (h : n ≤ m) {o : α} (ho : o ∈ l.drop m) : o ∈ l.drop n := by
  have : l.drop m = (l.drop n).drop (m - n) := by rw [List.drop_drop]; congr 1; omega
  rw [this] at ho
  exact List.mem_of_mem_drop ho
theorem rtf_own {base g n cap : Nat} {ts ts' : List RTask} {j : Nat} {u : Value} (h : w.ownsRow base 69 3 (.slice (some ⟨g, 0, none⟩) n cap) ts.length (rtf ts)) (hj : j < ts.length * 3) (he : (rtf ts).set j u = rtf ts') (hl : ts'.length = ts.length) :
    (w.setCell ⟨g, j, none⟩ u).ownsRow base 69 3 (.slice (some ⟨g, 0, none⟩) n cap) ts'.length (rtf ts') := by
  obtain ⟨h1, ⟨h2, _⟩ | ⟨g', cap', cur, h3, h4, h5, h6, h7, h8, h9⟩⟩ := h
  · cases h2
  · simp only [Value.slice.injEq, Option.some.injEq, Addr.mk.injEq] at h3
    obtain ⟨⟨rfl, _⟩, rfl, rfl⟩ := h3
    rw [hl]
    refine ⟨by rw [rtf_len, hl], .inr ⟨g, cap, _, rfl, h4, blk_set h5 j u, h6, h7, by simpa using h8, ?_⟩⟩
    rw [← he, ← h9, Array.toList_setIfInBounds, List.take_set]
/-- One cell of a task turned. -/
theorem RAt.setTask (h : RAt w M W) {i : Nat} {t : RTask} (ht : M.ts[i]? = some t) {g cap : Nat} (hv : M.vt = .slice (some ⟨g, 0, none⟩) M.ts.length cap) (t' : RTask) (j : Nat) (u : Value) (hj : j < 3) (he : (rtc t).set j u = rtc t')
    (hA : t'.A = t.A ∧ t'.c = t.c ∧ t'.all = t.all) (hn : t.next ≤ t'.next ∧ t'.next ≤ t.all.length) (hh : In32 t'.has) :
    RAt (w.setCell ⟨g, i * 3 + j, none⟩ u) { M with ts := M.ts.set i t' } (setT W i ⟨t'.all.drop t'.next, t'.has⟩) ∧ Only (RSide M.base w) w (w.setCell ⟨g, i * 3 + j, none⟩ u) := by
  have hi := (List.getElem?_eq_some_iff.1 ht).1
  have hgo : ROwns M g := .inr (.inr (.inr (by rw [hv]; rfl)))
  obtain ⟨cur, hg⟩ := row_ownB h.tasks (k := g) (by rw [hv]; rfl)
  have ho : Only (· = g) w (w.setCell ⟨g, i * 3 + j, none⟩ u) := Only.setCell (S := (· = g)) (p := ⟨g, i * 3 + j, none⟩) (Only.refl _ _) (fun _ => rfl) u
  have htl := h.tl t (List.mem_of_getElem? ht)
  have far : ∀ k cur', w.heap[k]? = some (.cells cur' 78 (0, 0)) → ¬ k = g := fun k cu hc q => by subst q; exact blk_ne hc hg (by decide) rfl
  refine ⟨⟨ho.keep h.blk (blk_ne h.blk hg (by decide)), fun x hx => (h.rows x hx).only ho (fun k hk q => ?_), h.apart, h.chans.only ho (fun k hk q => ?_), ?_, fun z hz => ?_, Nat.le_trans h.lo ho.size, h.own, h.locks, h.holds, h.words, h.plen, h.pipes, ?_, ?_⟩, ho.mono fun k hk q => by subst q; exact h.side hgo⟩
  · obtain ⟨cu, hc⟩ := (h.rows x hx).type hk; subst q; exact blk_ne hc hg (by decide) rfl
  · obtain ⟨cu, hc⟩ := h.chans.type hk; subst q; exact blk_ne hc hg (by decide) rfl
  · have := h.tasks
    rw [hv] at this
    show (w.setCell ⟨g, i * 3 + j, none⟩ u).ownsRow M.base 69 3 M.vt _ _
    rw [hv]
    exact rtf_own this (by omega) (rtf_set ht t' j u hj he) (by simp)
  · rcases List.mem_or_eq_of_mem_set hz with hz | rfl
    · exact ⟨(h.tl z hz).1.only ho far, (h.tl z hz).2⟩
    · refine ⟨?_, by rw [hA.2.2]; exact hn.2, by rw [hA.2.2]; exact htl.2.2⟩
      rw [hA.1, hA.2.1, hA.2.2]
      exact htl.1.only ho far
  · show (W.tasks.set i _) = _
    rw [h.thr, List.map_set]
  · have hf := h.fit.tz _ (List.mem_of_getElem? (h.thread ht))
    refine h.fit.setT i ⟨?_, hh, fun o ho => ?_⟩
    · show (t'.all.drop t'.next).length ≤ 1000
      have := htl.2.2
      rw [List.length_drop, hA.2.2]; omega
    · have ho' : o ∈ t.all.drop t'.next := by have ho2 : o ∈ t'.all.drop t'.next := ho; rw [hA.2.2] at ho2; exact ho2
      exact hf.2.2 o (drop_sub hn.1 ho')
/-- One row turned: the rows are still apart, and read as they should. -/
theorem RAt.rowsTurn (h : RAt w M W) {r : Nat} {x x' : RRow} (hx : M.rows[r]? = some x) {F : Nat → Prop} (ho : Only F w w') (hF : ∀ k, F k → RowOf x.A k ∨ ∃ cs t, w.heap[k]? = some (.cells cs t (0, 0)) ∧ t ≠ 3)
    (hs : Sl w' 3 x'.A x'.l.length x'.c (i64s x'.l)) (hr : ∀ k, RowOf x'.A k → RowOf x.A k ∨ w.heap.size ≤ k) :
    (∀ y ∈ M.rows.set r x', Sl w' 3 y.A y.l.length y.c (i64s y.l)) ∧ (∀ (i j : Nat) (y z : RRow), i ≠ j → (M.rows.set r x')[i]? = some y → (M.rows.set r x')[j]? = some z → ∀ k, RowOf y.A k → ¬ RowOf z.A k) := by
  have far : ∀ (i : Nat) (y : RRow), r ≠ i → M.rows[i]? = some y → ∀ k, RowOf y.A k → ¬ RowOf x'.A k := fun i y hi hy k hk hk' => by
    rcases hr k hk' with q | q
    · exact h.apart i r y x (fun e => hi e.symm) hy hx k hk q
    · have := (h.rows y (List.mem_of_getElem? hy)).lt hk; omega
  constructor
  · intro y hy
    obtain ⟨i, hi⟩ := List.getElem?_of_mem hy
    rw [List.getElem?_set] at hi
    by_cases e : r = i
    · rw [if_pos e] at hi
      split at hi
      · obtain rfl := Option.some.inj hi; exact hs
      · cases hi
    · rw [if_neg e] at hi
      refine (h.rows y (List.mem_of_getElem? hi)).only ho (fun k hk q => ?_)
      rcases hF k q with q | ⟨cs, t, hc, ht⟩
      · exact h.apart i r y x (fun e' => e e'.symm) hi hx k hk q
      · obtain ⟨cu, hc2⟩ := (h.rows y (List.mem_of_getElem? hi)).type hk
        exact blk_ne hc hc2 ht rfl
  · intro i j y z hij hy hz k hk hk'
    rw [List.getElem?_set] at hy hz
    by_cases ei : r = i
    · rw [if_pos ei] at hy
      rw [if_neg (by omega)] at hz
      split at hy
      · obtain rfl := Option.some.inj hy
        exact far j z (by omega) hz k hk' hk
      · cases hy
    · rw [if_neg ei] at hy
      by_cases ej : r = j
      · rw [if_pos ej] at hz
        split at hz
        · obtain rfl := Option.some.inj hz
          exact far i y ei hy k hk hk'
        · cases hz
      · rw [if_neg ej] at hz
        exact h.apart i j y z hij hy hz k hk hk'
theorem Sl.put64 {A : Option Addr} {n c : Nat} {l : List Int} (h : Sl w 3 A n c (i64s l)) {g off i : Nat} (hA : A = some ⟨g, off, none⟩) (hi : i < n) (x : Int) : Sl (w.setCell ⟨g, off + i, none⟩ (.int .i64 x)) 3 A n c (i64s (l.set i x)) := by
  rw [← i64s_set]
  exact h.put hA hi _
theorem RAt.rowFar (h : RAt w M W) {g : Nat} (hg : ∃ cur, w.heap[g]? = some (.cells cur 3 (0, 0))) {F : Nat → Prop} (ho : Only F w w') (hF : ∀ k, F k → k = g) :
    w'.heap[M.p]? = some (.cells (rworld M) 67 (0, 0)) ∧ Sl w' 44 M.gA M.cs.length M.gc (M.cs.map RRow.v) ∧ w'.ownsRow M.base 69 3 M.vt M.ts.length (rtf M.ts) ∧ ∀ t ∈ M.ts, RopSl w' t.A t.all.length t.c t.all ∧ t.next ≤ t.all.length ∧ t.all.length ≤ 1000 := by
  obtain ⟨cur, hg⟩ := hg
  have ne : ∀ {k : Nat} {cu : Array Value} {t : TypeId}, w.heap[k]? = some (.cells cu t (0, 0)) → t ≠ 3 → ¬ F k := fun hc ht q => by
    have := hF _ q; subst this; exact blk_ne hc hg ht rfl
  refine ⟨ho.keep h.blk (ne h.blk (by decide)), h.chans.only ho (fun k hk q => ?_), row_onlyB h.tasks ho (fun k hk q => ?_), fun t ht => ⟨(h.tl t ht).1.only ho (fun k cu hc => ne hc (by decide)), (h.tl t ht).2⟩⟩
  · obtain ⟨cu, hc⟩ := h.chans.type hk; exact ne hc (by decide) q
  · obtain ⟨cu, hc⟩ := row_ownB h.tasks hk; exact ne hc (by decide) q
theorem RAt.setLock (h : RAt w M W) {a : Nat} (ha : (a : Int) < W.locks) {g off : Nat} (hA : M.lk.A = some ⟨g, off, none⟩) (v : Option Int) (hv : ∀ x, v = some x → 0 ≤ x) :
    RAt (w.setCell ⟨g, off + a, none⟩ (.int .i64 (lockV v))) { M with lk := ⟨M.lk.A, M.lk.c, M.lk.l.set a (lockV v)⟩ } { W with holds := fun x => if x = (a : Int) then v else W.holds x } ∧ Only (RSide M.base w) w (w.setCell ⟨g, off + a, none⟩ (.int .i64 (lockV v))) := by
  have hal : a < M.lk.l.length := by have := h.locks; omega
  have hsl := h.rows M.lk (.head _)
  have hgB := hsl.type (k := g) ⟨_, hA, rfl⟩
  have ho : Only (· = g) w (w.setCell ⟨g, off + a, none⟩ (.int .i64 (lockV v))) := Only.setCell (S := (· = g)) (p := ⟨g, off + a, none⟩) (Only.refl _ _) (fun _ => rfl) _
  obtain ⟨f1, f2, f3, f4⟩ := h.rowFar hgB ho (fun k q => q)
  have hs' : Sl (w.setCell ⟨g, off + a, none⟩ (.int .i64 (lockV v))) 3 M.lk.A (M.lk.l.set a (lockV v)).length M.lk.c (i64s (M.lk.l.set a (lockV v))) := by rw [List.length_set]; exact hsl.put64 hA hal _
  obtain ⟨r1, r2⟩ := h.rowsTurn (r := 0) (x := M.lk) (x' := ⟨M.lk.A, M.lk.c, M.lk.l.set a (lockV v)⟩) rfl ho (fun k q => .inl ⟨_, hA, q.symm⟩) hs' (fun k hk => .inl hk)
  refine ⟨⟨?_, r1, r2, f2, f3, f4, Nat.le_trans h.lo ho.size, fun k hk => h.own k ?_, ?_, fun k x hk => ?_, h.words, h.plen, h.pipes, h.thr, h.fit.holds _⟩, ho.mono fun k hk q => by subst q; exact h.side (.inr (.inl ⟨M.lk, .head _, _, hA, rfl⟩))⟩
  · rw [f1]; simp [rworld, RRow.v]
  · rcases hk with hk | ⟨x, hx, hk⟩ | hk
    · exact .inl hk
    · simp only [RMem.rows, List.mem_cons] at hx
      rcases hx with rfl | hx
      · exact .inr (.inl ⟨M.lk, .head _, hk⟩)
      · exact .inr (.inl ⟨x, by simp only [RMem.rows, List.mem_cons]; exact .inr hx, hk⟩)
    · exact .inr (.inr hk)
  · rw [h.locks]; simp
  · simp only [List.getElem?_set] at hk
    by_cases e : a = k
    · subst e
      rw [if_pos rfl, if_pos hal] at hk
      obtain rfl := Option.some.inj hk
      exact ⟨by simp, fun y hy => hv y (by simpa using hy)⟩
    · rw [if_neg e] at hk
      have := h.holds k x hk
      simp only
      rw [if_neg (by omega)]
      exact this
theorem RAt.setWord (h : RAt w M W) {a : Nat} (ha : a < W.words.length) {g off : Nat} (hA : M.wd.A = some ⟨g, off, none⟩) (v : Int) (hv : In32 v) :
    RAt (w.setCell ⟨g, off + a, none⟩ (.int .i64 v)) { M with wd := ⟨M.wd.A, M.wd.c, M.wd.l.set a v⟩ } { W with words := W.words.set a v } ∧ Only (RSide M.base w) w (w.setCell ⟨g, off + a, none⟩ (.int .i64 v)) := by
  have hal : a < M.wd.l.length := by rw [← h.words]; exact ha
  have hsl := h.rows M.wd (.tail _ (.head _))
  have hgB := hsl.type (k := g) ⟨_, hA, rfl⟩
  have ho : Only (· = g) w (w.setCell ⟨g, off + a, none⟩ (.int .i64 v)) := Only.setCell (S := (· = g)) (p := ⟨g, off + a, none⟩) (Only.refl _ _) (fun _ => rfl) _
  obtain ⟨f1, f2, f3, f4⟩ := h.rowFar hgB ho (fun k q => q)
  have hs' : Sl (w.setCell ⟨g, off + a, none⟩ (.int .i64 v)) 3 M.wd.A (M.wd.l.set a v).length M.wd.c (i64s (M.wd.l.set a v)) := by rw [List.length_set]; exact hsl.put64 hA hal _
  obtain ⟨r1, r2⟩ := h.rowsTurn (r := 1) (x := M.wd) (x' := ⟨M.wd.A, M.wd.c, M.wd.l.set a v⟩) rfl ho (fun k q => .inl ⟨_, hA, q.symm⟩) hs' (fun k hk => .inl hk)
  refine ⟨⟨?_, r1, r2, f2, f3, f4, Nat.le_trans h.lo ho.size, fun k hk => h.own k ?_, h.locks, h.holds, ?_, h.plen, h.pipes, h.thr, h.fit.setW _ hv⟩, ho.mono fun k hk q => by subst q; exact h.side (.inr (.inl ⟨M.wd, .tail _ (.head _), _, hA, rfl⟩))⟩
  · rw [f1]; simp [rworld, RRow.v]
  · rcases hk with hk | ⟨x, hx, hk⟩ | hk
    · exact .inl hk
    · simp only [RMem.rows, List.mem_cons] at hx
      rcases hx with rfl | rfl | hx
      · exact .inr (.inl ⟨_, .head _, hk⟩)
      · exact .inr (.inl ⟨M.wd, .tail _ (.head _), hk⟩)
      · exact .inr (.inl ⟨x, by simp only [RMem.rows, List.mem_cons]; exact .inr (.inr hx), hk⟩)
    · exact .inr (.inr hk)
  · show W.words.set a v = M.wd.l.set a v
    rw [h.words]
/-- A channel's row turned, and the channel's cell written. -/
theorem RAt.setChan (h : RAt w M W) {a : Nat} {q : Pipe} (hq : W.pipes[a]? = some q) {x x' : RRow} (hx : M.cs[a]? = some x) {w1 : World} (ho1 : Only (RowOf x.A) w w1) (hs : Sl w1 3 x'.A x'.l.length x'.c (i64s x'.l))
    (hr : ∀ k, RowOf x'.A k → RowOf x.A k ∨ w.heap.size ≤ k) {g off : Nat} (hA : M.gA = some ⟨g, off, none⟩) (hf : FitW (setP W a ⟨x'.l, q.size⟩)) :
    RAt (w1.setCell ⟨g, off + a, none⟩ x'.v) { M with cs := M.cs.set a x' } (setP W a ⟨x'.l, q.size⟩) ∧ Only (RSide M.base w) w (w1.setCell ⟨g, off + a, none⟩ x'.v) := by
  have hac := (List.getElem?_eq_some_iff.1 hx).1
  have hxr : M.rows[a + 3]? = some x := hx
  have hxm : x ∈ M.rows := List.mem_of_getElem? hxr
  obtain ⟨cur, hg⟩ := h.chans.type (k := g) ⟨_, hA, rfl⟩
  have hset : Only (· = g) w1 (w1.setCell ⟨g, off + a, none⟩ x'.v) := Only.setCell (S := (· = g)) (p := ⟨g, off + a, none⟩) (Only.refl _ _) (fun _ => rfl) _
  have ho : Only (fun k => RowOf x.A k ∨ k = g) w (w1.setCell ⟨g, off + a, none⟩ x'.v) := (ho1.mono fun k _ q => .inl q).trans (hset.mono fun k _ q => .inr q)
  have ne : ∀ {k : Nat} {cu : Array Value} {t : TypeId}, w.heap[k]? = some (.cells cu t (0, 0)) → t ≠ 3 → t ≠ 44 → ¬ (RowOf x.A k ∨ k = g) := fun hc h3 h44 q => by
    rcases q with q | rfl
    · obtain ⟨cu2, hc2⟩ := (h.rows x hxm).type q; exact blk_ne hc hc2 h3 rfl
    · exact blk_ne hc hg h44 rfl
  have hch1 : Sl w1 44 M.gA M.cs.length M.gc (M.cs.map RRow.v) := h.chans.only ho1 (fun k hk q => by
    obtain ⟨cu, hc⟩ := h.chans.type hk
    obtain ⟨cu2, hc2⟩ := (h.rows x hxm).type q
    exact blk_ne hc hc2 (by decide) rfl)
  have hch2 : Sl (w1.setCell ⟨g, off + a, none⟩ x'.v) 44 M.gA (M.cs.set a x').length M.gc ((M.cs.set a x').map RRow.v) := by
    rw [List.length_set, List.map_set]
    exact hch1.put hA hac _
  have hs2 : Sl (w1.setCell ⟨g, off + a, none⟩ x'.v) 3 x'.A x'.l.length x'.c (i64s x'.l) := hs.only hset (fun k hk q => by
    obtain ⟨cu, hc⟩ := hs.type hk
    obtain ⟨cu2, hc2⟩ := hch1.type (k := g) ⟨_, hA, rfl⟩
    subst q
    exact blk_ne hc hc2 (by decide) rfl)
  obtain ⟨r1, r2⟩ := h.rowsTurn (r := a + 3) (x := x) (x' := x') hxr ho (fun k q => by
    rcases q with q | rfl
    · exact .inl q
    · exact .inr ⟨_, _, hg, by decide⟩) hs2 hr
  have er : ({ M with cs := M.cs.set a x' } : RMem).rows = M.rows.set (a + 3) x' := rfl
  refine ⟨⟨ho.keep ?_ (ne h.blk (by decide) (by decide)), er ▸ r1, er ▸ r2, hch2, row_onlyB h.tasks ho (fun k hk => ?_), fun t ht => ⟨(h.tl t ht).1.only ho (fun k cu hc => ne hc (by decide) (by decide)), (h.tl t ht).2⟩, Nat.le_trans h.lo ho.size, fun k hk => ?_, h.locks, h.holds, h.words, ?_, fun j z hz => ?_, h.thr, hf⟩, ho.mono fun k hk q => ?_⟩
  · rw [h.blk]; simp [rworld, RRow.v]
  · obtain ⟨cu, hc⟩ := row_ownB h.tasks hk; exact ne hc (by decide) (by decide)
  · rcases hk with hk | ⟨y, hy, hk⟩ | hk
    · exact h.own k (.inl hk)
    · rw [er] at hy
      rcases List.mem_or_eq_of_mem_set hy with hy | rfl
      · exact h.own k (.inr (.inl ⟨y, hy, hk⟩))
      · rcases hr k hk with q | q
        · exact h.own k (.inr (.inl ⟨x, hxm, q⟩))
        · exact Nat.le_trans h.lo q
    · exact h.own k (.inr (.inr hk))
  · simp only [setP, List.length_set]; exact h.plen
  · simp only [setP, List.getElem?_set] at hz
    by_cases e : a = j
    · subst e
      rw [if_pos rfl] at hz
      split at hz
      · obtain rfl := Option.some.inj hz
        obtain ⟨y, hy, hyl, hsz⟩ := h.pipes a q hq
        exact ⟨x', by simp [hac], rfl, hsz⟩
      · cases hz
    · rw [if_neg e] at hz
      obtain ⟨y, hy, hyl, hsz⟩ := h.pipes j z hz
      exact ⟨y, by simp only [List.getElem?_set, if_neg e]; exact hy, hyl, hsz⟩
  · rcases q with q | rfl
    · exact h.side (.inr (.inl ⟨x, hxm, q⟩))
    · exact h.side (.inr (.inr (.inl ⟨_, hA, rfl⟩)))
/-- A task more. -/
theorem RAt.addTask (h : RAt w M W) {w1 w3 : World} (hq : Quiet w w1) {v' : Value} {t : RTask} (hl : M.ts.length < 64) (hown : w3.ownsRow M.base 69 3 v' (M.ts.length + 1) (rtf (M.ts ++ [t]))) (hg : w1.grownBy w3 M.vt.ownBlock)
    (hs : RopSl w1 t.A t.all.length t.c t.all) (hn : t.next = 0) (hf : t.all.length ≤ 1000 ∧ In32 t.has ∧ ∀ o ∈ t.all, mayB W o = true) :
    RAt (w3.setCell ⟨M.p, 4, none⟩ v') { M with ts := M.ts ++ [t], vt := v' } { W with tasks := W.tasks ++ [⟨t.all, t.has⟩] } ∧ Only (RSide M.base w) w (w3.setCell ⟨M.p, 4, none⟩ v') := by
  have h1 := h.quiet hq
  have hO : Only (fun k => M.vt.ownBlock = some k) w1 w3 := (Only.refl _ w1).of_grown hg (fun k hk _ => hk)
  have hp3 := hO.keep h1.blk (fun q => by
    obtain ⟨cu, hc⟩ := row_ownB h1.tasks q
    exact blk_ne hc h1.blk (by decide) rfl)
  have hset : Only (· = M.p) w3 (w3.setCell ⟨M.p, 4, none⟩ v') := Only.setCell (S := (· = M.p)) (p := ⟨M.p, 4, none⟩) (Only.refl _ _) (fun _ => rfl) _
  have ho : Only (fun k => M.vt.ownBlock = some k ∨ k = M.p) w1 (w3.setCell ⟨M.p, 4, none⟩ v') := (hO.mono fun k _ q => .inl q).trans (hset.mono fun k _ q => .inr q)
  have nr : ∀ {k : Nat} {cu : Array Value} {t : TypeId}, w1.heap[k]? = some (.cells cu t (0, 0)) → t ≠ 69 → t ≠ 67 → ¬ (M.vt.ownBlock = some k ∨ k = M.p) := fun hc h1' h2 q => by
    rcases q with q | rfl
    · obtain ⟨cu2, hc2⟩ := row_ownB h1.tasks q; exact blk_ne hc hc2 h1' rfl
    · exact blk_ne hc h1.blk h2 rfl
  refine ⟨⟨?_, fun x hx => (h1.rows x hx).only ho (fun k hk => ?_), h.apart, h1.chans.only ho (fun k hk => ?_), ?_, fun z hz => ?_, Nat.le_trans h1.lo ho.size, fun k hk => ?_, h.locks, h.holds, h.words, h.plen, h.pipes, ?_, ?_⟩, ?_⟩
  · have := blk_set hp3 4 v'
    simpa [rworld] using this
  · obtain ⟨cu, hc⟩ := (h1.rows x hx).type hk; exact nr hc (by decide) (by decide)
  · obtain ⟨cu, hc⟩ := h1.chans.type hk; exact nr hc (by decide) (by decide)
  · have := row_onlyB hown hset (fun k hk q => by
      obtain ⟨cu, hc⟩ := row_ownB hown hk; subst q; exact blk_ne hc hp3 (by decide) rfl)
    simpa using this
  · rcases List.mem_append.1 hz with hz | hz
    · exact ⟨(h1.tl z hz).1.only ho (fun k cu hc => nr hc (by decide) (by decide)), (h1.tl z hz).2⟩
    · obtain rfl := List.mem_singleton.1 hz
      exact ⟨hs.only ho (fun k cu hc => nr hc (by decide) (by decide)), by omega, hf.1⟩
  · rcases hk with hk | hk | hk | hk
    · exact h.own k (.inl hk)
    · exact h.own k (.inr (.inl hk))
    · exact h.own k (.inr (.inr (.inl hk)))
    · obtain ⟨_, ⟨e, _⟩ | ⟨g, cap, cur, e, h4, _⟩⟩ := hown
      · simp only [e] at hk; cases hk
      · simp only [e] at hk; obtain rfl := Option.some.inj hk; exact h4
  · show W.tasks ++ [_] = _
    rw [h.thr]
    simp [hn]
  · exact h.fit.add (by rw [h.len.1]; exact hl) hf
  · have h2 : Only (RSide M.base w1) w1 (w3.setCell ⟨M.p, 4, none⟩ v') := ho.mono fun k _ q => by
      rcases q with q | rfl
      · exact h1.side (.inr (.inr (.inr q)))
      · exact h1.side (.inl rfl)
    exact RSide.trans (RSide.quiet hq) h2
end
/-- What a call of the reference leaves. -/
def RPost (base p : Nat) (w : World) (W' : Wd) (w' : World) : Prop := RRel base p W' w' ∧ Only (RSide base w) w w'
theorem RPost.of {w w' : World} {M' : RMem} {W' : Wd} {base p : Nat} (h : RAt w' M' W') (ho : Only (RSide base w) w w') (hp : M'.p = p) (hb : M'.base = base) : RPost base p w W' w' := ⟨⟨M', h, hp, hb⟩, ho⟩
theorem RPost.quiet {base p : Nat} {w w1 w' : World} {W' : Wd} (h : RPost base p w W' w1) (hq : Quiet w1 w') : RPost base p w W' w' := ⟨h.1.quiet hq, RSide.trans h.2 (RSide.quiet hq)⟩
theorem RPost.after {base p : Nat} {w w1 w' : World} {W' : Wd} (ho : Only (RSide base w) w w1) (h : RPost base p w1 W' w') : RPost base p w W' w' := ⟨h.1, RSide.trans ho h.2⟩
end Go.Proofs.Ytgdjbmfpbihopaa
