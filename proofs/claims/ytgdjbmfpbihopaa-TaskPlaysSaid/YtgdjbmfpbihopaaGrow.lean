/-
  A world of tasks that gets a task more, or a channel more. No conditions.
-/
import Derived.Test.YtgdjbmfpbihopaaStuck
namespace Go.Proofs.Ytgdjbmfpbihopaa
open Go.RowKit Go.MapKept
set_option linter.unusedVariables false
set_option linter.unusedSimpArgs false

theorem Try.info74 : (Try.prog.info? 74).map (fun i => (i.zero, i.size, i.bytes)) = some (some (.agg #[.slice none 0 0, .int .i32 0]), 2, 32) := by kernel_rfl
theorem Try.info77 : (Try.prog.info? 77).map (fun i => (i.zero, i.size, i.bytes)) = some (some (.agg #[.slice none 0 0, .int .i64 0]), 2, 32) := by kernel_rfl
theorem Try.info41 : (Try.prog.info? 41).map (fun i => (i.zero, i.size, i.bytes)) = some (some (.agg #[.int .i64 0, .int .i64 0, .int .i64 0]), 3, 24) := by kernel_rfl
/-- The new element's two cells, laid into a block of their own. -/
theorem news_two (W : World) (a b : Value) (e : TypeId) : ∀ (j : Nat) (u : Value), [a, b][j]? = some u → (W.alloc (.cells #[a, b] e)).cell? ((⟨W.heap.size, 0, none⟩ : Addr).add j) = some u := fun j u hu => by
  rw [Addr.add_lit, blk_cell (blk_new W _), Nat.zero_add]
  simpa using hu
theorem two_one {a b : Value} (h1 : a.oneCell' = true) (h2 : b.oneCell' = true) : ∀ u ∈ [a, b], u.oneCell' = true := by
  intro u hu
  simp only [List.mem_cons, List.not_mem_nil, or_false] at hu
  rcases hu with rfl | rfl
  · exact h1
  · exact h2
theorem fl_one {α : Type} (f : α → Value × Value) (x : α) : fl f [x] = [(f x).1, (f x).2] := rfl
theorem TAt.addTask {w W w3 : World} {M : TMem} (h : TAt w M) (hq : Quiet w W) {v' : Value} {y : BR × Thr} (hl : M.ts.length < 64) (hown : OwnF w3 M.base 74 tc v' (M.ts ++ [y])) (hg : W.grownBy w3 M.vt.ownBlock)
    (hs : OpSl W y.1.A y.2.left.length y.1.c y.2.left) (hf : y.2.left.length ≤ 1000 ∧ In32 y.2.has ∧ ∀ o ∈ y.2.left, mayB M.wd o = true) :
    TAt (w3.setCell ⟨M.p, 5, none⟩ v') { M with ts := M.ts ++ [y], vt := v' } ∧ ({ M with ts := M.ts ++ [y], vt := v' } : TMem).wd = { M.wd with tasks := M.wd.tasks ++ [y.2] } ∧ Only (TSide M.base w) w (w3.setCell ⟨M.p, 5, none⟩ v') := by
  have h1 := h.quiet hq
  have hO : Only (fun k => M.vt.ownBlock = some k) W w3 := (Only.refl _ W).of_grown hg (fun k hk _ => hk)
  have hp3 := hO.keep h1.blk (fun q => by
    obtain ⟨⟨cu, hc⟩, _⟩ := h1.tasks.kind q
    exact blk_ne hc h1.blk (by decide) rfl)
  have hset : Only (· = M.p) w3 (w3.setCell ⟨M.p, 5, none⟩ v') := Only.setCell (S := (· = M.p)) (p := ⟨M.p, 5, none⟩) (Only.refl _ _) (fun _ => rfl) _
  have ho : Only (fun k => M.vt.ownBlock = some k ∨ k = M.p) W (w3.setCell ⟨M.p, 5, none⟩ v') := (hO.mono fun k _ q => .inl q).trans (hset.mono fun k _ q => .inr q)
  have nr : ∀ {k : Nat} {cu : Array Value} {t : TypeId}, W.heap[k]? = some (.cells cu t (0, 0)) → t ≠ 74 → t ≠ 29 → ¬ (M.vt.ownBlock = some k ∨ k = M.p) := fun hc h1' h2 q => by
    rcases q with q | rfl
    · obtain ⟨⟨cu2, hc2⟩, _⟩ := h1.tasks.kind q; exact blk_ne hc hc2 h1' rfl
    · exact blk_ne hc h1.blk h2 rfl
  have e : ({ M with ts := M.ts ++ [y], vt := v' } : TMem).wd = { M.wd with tasks := M.wd.tasks ++ [y.2] } := by simp [TMem.wd]
  refine ⟨⟨?_, h1.holds.only ho (fun q => ?_), h1.words.only ho (fun k hk => ?_), h1.pipes.only ho (fun k hk => ?_), hown.only hset (fun k hk q => ?_), fun z hz => (h1.pl z hz).only ho (fun k hk => ?_), fun z hz => ?_, h.apart0, h.apart, Nat.le_trans h1.lo ho.size, fun k hk => ?_, ?_⟩, e, ?_⟩
  · have := blk_set hp3 5 v'
    simpa [worldCells] using this
  · rcases q with q | q
    · obtain ⟨⟨cu2, hc2⟩, _⟩ := h1.tasks.kind q; exact h1.holds.ne hc2 rfl
    · exact h1.holds.ne h1.blk q.symm
  · obtain ⟨cu, hc⟩ := h1.words.type hk; exact nr hc (by decide) (by decide)
  · obtain ⟨⟨cu, hc⟩, _⟩ := h1.pipes.kind hk; exact nr hc (by decide) (by decide)
  · obtain ⟨⟨cu, hc⟩, _⟩ := hown.kind hk; subst q; exact blk_ne hc hp3 (by decide) rfl
  · obtain ⟨cu, hc⟩ := (h1.pl z hz).type hk; exact nr hc (by decide) (by decide)
  · rcases List.mem_append.1 hz with hz | hz
    · exact (h1.tl z hz).only ho (fun k cu hc => nr hc (by decide) (by decide))
    · obtain rfl := List.mem_singleton.1 hz
      exact hs.only ho (fun k cu hc => nr hc (by decide) (by decide))
  · rcases hk with hk | hk | hk | hk | hk | hk
    · exact h.own k (.inl hk)
    · exact h.own k (.inr (.inl hk))
    · exact h.own k (.inr (.inr (.inl hk)))
    · exact h.own k (.inr (.inr (.inr (.inl hk))))
    · exact (hown.kind hk).2
    · exact h.own k (.inr (.inr (.inr (.inr (.inr hk)))))
  · rw [e]
    exact h.fit.add (by rw [h.tlen]; exact hl) hf
  · have h2 : Only (TSide M.base W) W (w3.setCell ⟨M.p, 5, none⟩ v') := ho.mono fun k _ q => by
      rcases q with q | rfl
      · exact h1.side (.inr (.inr (.inr (.inr (.inl q)))))
      · exact h1.side (.inl rfl)
    exact TSide.trans (TSide.quiet hq) h2
theorem TAt.addPipe {w W w3 : World} {M : TMem} (h : TAt w M) (hq : Quiet w W) {v' : Value} {x : Int} (hl : M.ps.length < 16) (hx : 1 ≤ x ∧ x ≤ 64) (hown : OwnF w3 M.base 77 pc v' (M.ps ++ [(⟨none, 0⟩, ⟨[], x⟩)])) (hg : W.grownBy w3 M.vp.ownBlock) (ht : M.ts = []) :
    TAt (w3.setCell ⟨M.p, 4, none⟩ v') { M with ps := M.ps ++ [(⟨none, 0⟩, ⟨[], x⟩)], vp := v' } ∧ ({ M with ps := M.ps ++ [(⟨none, 0⟩, ⟨[], x⟩)], vp := v' } : TMem).wd = { M.wd with pipes := M.wd.pipes ++ [⟨[], x⟩] } ∧ Only (TSide M.base w) w (w3.setCell ⟨M.p, 4, none⟩ v') := by
  have h1 := h.quiet hq
  have hO : Only (fun k => M.vp.ownBlock = some k) W w3 := (Only.refl _ W).of_grown hg (fun k hk _ => hk)
  have hp3 := hO.keep h1.blk (fun q => by
    obtain ⟨⟨cu, hc⟩, _⟩ := h1.pipes.kind q
    exact blk_ne hc h1.blk (by decide) rfl)
  have hset : Only (· = M.p) w3 (w3.setCell ⟨M.p, 4, none⟩ v') := Only.setCell (S := (· = M.p)) (p := ⟨M.p, 4, none⟩) (Only.refl _ _) (fun _ => rfl) _
  have ho : Only (fun k => M.vp.ownBlock = some k ∨ k = M.p) W (w3.setCell ⟨M.p, 4, none⟩ v') := (hO.mono fun k _ q => .inl q).trans (hset.mono fun k _ q => .inr q)
  have nr : ∀ {k : Nat} {cu : Array Value} {t : TypeId}, W.heap[k]? = some (.cells cu t (0, 0)) → t ≠ 77 → t ≠ 29 → ¬ (M.vp.ownBlock = some k ∨ k = M.p) := fun hc h1' h2 q => by
    rcases q with q | rfl
    · obtain ⟨⟨cu2, hc2⟩, _⟩ := h1.pipes.kind q; exact blk_ne hc hc2 h1' rfl
    · exact blk_ne hc h1.blk h2 rfl
  have nrow : ∀ k, ¬ RowOf none k := fun k ⟨a, e, _⟩ => by cases e
  have e : ({ M with ps := M.ps ++ [(⟨none, 0⟩, ⟨[], x⟩)], vp := v' } : TMem).wd = { M.wd with pipes := M.wd.pipes ++ [⟨[], x⟩] } := by simp [TMem.wd]
  have hget : ∀ (j : Nat) (z : BR × Pipe), (M.ps ++ [((⟨none, 0⟩ : BR), (⟨[], x⟩ : Pipe))])[j]? = some z → M.ps[j]? = some z ∨ z = (⟨none, 0⟩, ⟨[], x⟩) := fun j z hz => by
    rw [List.getElem?_append] at hz
    split at hz
    · exact .inl hz
    · exact .inr (List.mem_singleton.1 (List.mem_of_getElem? hz))
  refine ⟨⟨?_, h1.holds.only ho (fun q => ?_), h1.words.only ho (fun k hk => ?_), hown.only hset (fun k hk q => ?_), h1.tasks.only ho (fun k hk => ?_), fun z hz => ?_, fun z hz => (h1.tl z hz).only ho (fun k cu hc => nr hc (by decide) (by decide)), fun z hz k hk hk' => ?_, fun i j z z' hij hz hz' k hk hk' => ?_, Nat.le_trans h1.lo ho.size, fun k hk => ?_, ?_⟩, e, ?_⟩
  · have := blk_set hp3 4 v'
    simpa [worldCells] using this
  · rcases q with q | q
    · obtain ⟨⟨cu2, hc2⟩, _⟩ := h1.pipes.kind q; exact h1.holds.ne hc2 rfl
    · exact h1.holds.ne h1.blk q.symm
  · obtain ⟨cu, hc⟩ := h1.words.type hk; exact nr hc (by decide) (by decide)
  · obtain ⟨⟨cu, hc⟩, _⟩ := hown.kind hk; subst q; exact blk_ne hc hp3 (by decide) rfl
  · obtain ⟨⟨cu, hc⟩, _⟩ := h1.tasks.kind hk; exact nr hc (by decide) (by decide)
  · rcases List.mem_append.1 hz with hz | hz
    · exact (h1.pl z hz).only ho (fun k hk => by obtain ⟨cu, hc⟩ := (h1.pl z hz).type hk; exact nr hc (by decide) (by decide))
    · obtain rfl := List.mem_singleton.1 hz
      exact Sl.nil _ _
  · rcases List.mem_append.1 hz with hz | hz
    · exact h.apart0 z hz k hk hk'
    · obtain rfl := List.mem_singleton.1 hz
      exact nrow k hk'
  · rcases hget i z hz with hz1 | rfl
    · rcases hget j z' hz' with hz2 | rfl
      · exact h.apart i j z z' hij hz1 hz2 k hk hk'
      · exact nrow k hk'
    · exact nrow k hk
  · rcases hk with hk | hk | hk | hk | hk | ⟨z, hz, hk⟩
    · exact h.own k (.inl hk)
    · exact h.own k (.inr (.inl hk))
    · exact h.own k (.inr (.inr (.inl hk)))
    · exact (hown.kind hk).2
    · exact h.own k (.inr (.inr (.inr (.inr (.inl hk)))))
    · rcases List.mem_append.1 hz with hz | hz
      · exact h.own k (.inr (.inr (.inr (.inr (.inr ⟨z, hz, hk⟩)))))
      · obtain rfl := List.mem_singleton.1 hz
        exact (nrow k hk).elim
  · rw [e]
    have hf := h.fit
    refine ⟨hf.locks, hf.words, hf.wi, by have : M.wd.pipes.length = M.ps.length := h.plen
                                          simp; omega, fun y hy => ?_, hf.tasks, fun y hy => ?_⟩
    · rcases List.mem_append.1 hy with hy | hy
      · exact hf.pz y hy
      · obtain rfl := List.mem_singleton.1 hy
        exact ⟨hx.1, hx.2, by simp; omega, by simp⟩
    · have : M.wd.tasks = [] := by simp [TMem.wd, ht]
      rw [show ({ M.wd with pipes := M.wd.pipes ++ [⟨[], x⟩] } : Wd).tasks = M.wd.tasks from rfl, this] at hy
      cases hy
  · have h2 : Only (TSide M.base W) W (w3.setCell ⟨M.p, 4, none⟩ v') := ho.mono fun k _ q => by
      rcases q with q | rfl
      · exact h1.side (.inr (.inr (.inr (.inl q))))
      · exact h1.side (.inl rfl)
    exact TSide.trans (TSide.quiet hq) h2
end Go.Proofs.Ytgdjbmfpbihopaa
