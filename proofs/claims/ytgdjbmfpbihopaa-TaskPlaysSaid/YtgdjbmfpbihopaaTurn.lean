/-
  A world of tasks turned in one place. No conditions.
-/
import Derived.Test.YtgdjbmfpbihopaaState
namespace Go.Proofs.Ytgdjbmfpbihopaa
open Go.RowKit Go.MapKept
set_option linter.unusedVariables false
set_option linter.unusedSimpArgs false

/-- What a call leaves: the world of tasks is this one. -/
def DPost (M : TMem) (w : World) (W' : Wd) (w' : World) : Prop := ∃ M', TAt w' M' ∧ M'.wd = W' ∧ M'.p = M.p ∧ M'.base = M.base ∧ Only (TSide M.base w) w w'
theorem TSide.quiet {base : Nat} {w w' : World} (h : Quiet w w') : Only (TSide base w) w w' := h.mono (fun _ _ x => x.elim)
theorem DPost.same {M : TMem} {w w' : World} (h : TAt w M) (hq : Quiet w w') : DPost M w M.wd w' := ⟨M, h.quiet hq, rfl, rfl, rfl, TSide.quiet hq⟩
theorem DPost.trans {M M' : TMem} {w w1 w' : World} {W' : Wd} (ho : Only (TSide M.base w) w w1) (hp : M'.p = M.p) (hb : M'.base = M.base) (h : DPost M' w1 W' w') : DPost M w W' w' := by
  obtain ⟨M2, h1, h2, h3, h4, h5⟩ := h
  exact ⟨M2, h1, h2, h3.trans hp, h4.trans hb, TSide.trans ho (hb ▸ h5)⟩
theorem DPost.quiet {M : TMem} {w w1 w' : World} {W' : Wd} (h : DPost M w W' w1) (hq : Quiet w1 w') : DPost M w W' w' := by
  obtain ⟨M2, h1, h2, h3, h4, h5⟩ := h
  exact ⟨M2, h1.quiet hq, h2, h3, h4, TSide.trans h5 (TSide.quiet hq)⟩
/-- Behind quiet steps. -/
theorem DPost.after {M : TMem} {w w1 w' : World} {W' : Wd} (hq : Quiet w w1) (h : DPost M w1 W' w') : DPost M w W' w' := DPost.trans (TSide.quiet hq) rfl rfl h
theorem TAt.tlen {w : World} {M : TMem} (h : TAt w M) : M.wd.tasks.length = M.ts.length := by simp [TMem.wd]
theorem not_map {w : World} {m g : Nat} {h : Int → Option Int} (hm : MapIs w m h) {cur : Array Value} {e : TypeId} (hg : w.heap[g]? = some (.cells cur e (0, 0))) : m ≠ g := fun q => hm.ne hg q.symm
/-- A block of this type is none of the world's of another one. -/
theorem TAt.kinds {w : World} {M : TMem} (h : TAt w M) {k : Nat} (hk : TOwns M k) : k = M.m ∨ ∃ cur e, w.heap[k]? = some (.cells cur e (0, 0)) ∧ (e = 29 ∨ e = 21 ∨ e = 77 ∨ e = 74) := by
  rcases hk with rfl | rfl | hk | hk | hk | ⟨y, hy, hk⟩
  · exact .inr ⟨_, _, h.blk, .inl rfl⟩
  · exact .inl rfl
  · obtain ⟨cur, hc⟩ := h.words.type hk; exact .inr ⟨_, _, hc, .inr (.inl rfl)⟩
  · obtain ⟨⟨cur, hc⟩, _⟩ := h.pipes.kind hk; exact .inr ⟨_, _, hc, .inr (.inr (.inl rfl))⟩
  · obtain ⟨⟨cur, hc⟩, _⟩ := h.tasks.kind hk; exact .inr ⟨_, _, hc, .inr (.inr (.inr rfl))⟩
  · obtain ⟨cur, hc⟩ := (h.pl y hy).type hk; exact .inr ⟨_, _, hc, .inr (.inl rfl)⟩
theorem TAt.lt {w : World} {M : TMem} (h : TAt w M) {k : Nat} (hk : TOwns M k) : k < w.heap.size := by
  rcases h.kinds hk with rfl | ⟨cur, e, hc, _⟩
  · exact h.holds.lt
  · exact lt_of_heap hc
theorem TAt.side {w : World} {M : TMem} (h : TAt w M) {k : Nat} (hk : TOwns M k) : TSide M.base w k := ⟨h.own k hk, fun cs t f hc => by
  rcases h.kinds hk with rfl | ⟨cur, e, hc2, he⟩
  · exact (h.holds.ne hc rfl).elim
  · rw [hc] at hc2
    injection hc2 with hc2
    injection hc2 with _ hc2
    subst hc2
    exact he⟩
/-- One task turned. -/
theorem TAt.task {w w' : World} {M : TMem} (h : TAt w M) {i : Nat} {y y' : BR × Thr} (hy : M.ts[i]? = some y) {g n cap : Nat} (hv : M.vt = .slice (some ⟨g, 0, none⟩) n cap) (ho : Only (· = g) w w')
    (own : OwnF w' M.base 74 tc M.vt (M.ts.set i y')) (hs : OpSl w y'.1.A y'.2.left.length y'.1.c y'.2.left) (hf : FitW (setT M.wd i y'.2)) :
    TAt w' { M with ts := M.ts.set i y' } ∧ ({ M with ts := M.ts.set i y' } : TMem).wd = setT M.wd i y'.2 ∧ Only (TSide M.base w) w w' := by
  have hgo : TOwns M g := .inr (.inr (.inr (.inr (.inl (by rw [hv]; rfl)))))
  obtain ⟨⟨cur, hg⟩, _⟩ := h.tasks.kind (k := g) (by rw [hv]; rfl)
  have e : ({ M with ts := M.ts.set i y' } : TMem).wd = setT M.wd i y'.2 := by simp [TMem.wd, setT, List.map_set]
  refine ⟨⟨ho.keep h.blk (blk_ne h.blk hg (by decide)), h.holds.only ho (fun q => h.holds.ne hg q.symm), h.words.only ho (fun k hk q => ?_), h.pipes.only ho (fun k hk q => ?_), own, fun z hz => (h.pl z hz).only ho (fun k hk q => ?_), fun z hz => ?_, h.apart0, h.apart,
    Nat.le_trans h.lo ho.size, h.own, e ▸ hf⟩, e, ho.mono fun k hk q => by subst q; exact h.side hgo⟩
  · obtain ⟨cu, hc⟩ := h.words.type hk; subst q; exact blk_ne hc hg (by decide) rfl
  · obtain ⟨⟨cu, hc⟩, _⟩ := h.pipes.kind hk; subst q; exact blk_ne hc hg (by decide) rfl
  · obtain ⟨cu, hc⟩ := (h.pl z hz).type hk; subst q; exact blk_ne hc hg (by decide) rfl
  · have far : ∀ k cur', w.heap[k]? = some (.cells cur' 41 (0, 0)) → ¬ k = g := fun k cu hc q => by subst q; exact blk_ne hc hg (by decide) rfl
    rcases List.mem_or_eq_of_mem_set hz with hz | rfl
    · exact (h.tl z hz).only ho far
    · exact hs.only ho far
/-- One channel turned. -/
theorem TAt.pipe {w w' : World} {M : TMem} (h : TAt w M) {i : Nat} {y y' : BR × Pipe} (hy : M.ps[i]? = some y) {g n cap : Nat} (hv : M.vp = .slice (some ⟨g, 0, none⟩) n cap) (ho : Only (fun k => k = g ∨ RowOf y.1.A k) w w')
    (own : OwnF w' M.base 77 pc M.vp (M.ps.set i y')) (hs : Sl w' 21 y'.1.A y'.2.l.length y'.1.c (i32s y'.2.l)) (hr : ∀ k, RowOf y'.1.A k → RowOf y.1.A k ∨ w.heap.size ≤ k) (hf : FitW (setP M.wd i y'.2)) :
    TAt w' { M with ps := M.ps.set i y' } ∧ ({ M with ps := M.ps.set i y' } : TMem).wd = setP M.wd i y'.2 ∧ Only (TSide M.base w) w w' := by
  have hym := List.mem_of_getElem? hy
  have hil := (List.getElem?_eq_some_iff.1 hy).1
  have hgo : TOwns M g := .inr (.inr (.inr (.inl (by rw [hv]; rfl))))
  obtain ⟨⟨cur, hg⟩, _⟩ := h.pipes.kind (k := g) (by rw [hv]; rfl)
  have e : ({ M with ps := M.ps.set i y' } : TMem).wd = setP M.wd i y'.2 := by simp [TMem.wd, setP, List.map_set]
  have nr : ∀ {k : Nat} {cu : Array Value} {t : TypeId}, w.heap[k]? = some (.cells cu t (0, 0)) → t ≠ 77 → t ≠ 21 → ¬ (k = g ∨ RowOf y.1.A k) := fun hc h1 h2 q => by
    rcases q with rfl | q
    · exact blk_ne hc hg h1 rfl
    · obtain ⟨cu2, hc2⟩ := (h.pl y hym).type q; exact blk_ne hc hc2 h2 rfl
  have hmm : ¬ (M.m = g ∨ RowOf y.1.A M.m) := fun q => by
    rcases q with q | q
    · exact h.holds.ne hg q.symm
    · obtain ⟨cu2, hc2⟩ := (h.pl y hym).type q; exact h.holds.ne hc2 rfl
  have sl_ne : ∀ {A : Option Addr} {n c : Nat} {xs : List Value} {k : Nat}, Sl w 21 A n c xs → RowOf A k → k ≠ g := fun hS hk q => by
    obtain ⟨cu, hc⟩ := hS.type hk; subst q; exact blk_ne hc hg (by decide) rfl
  have hother : ∀ (j : Nat) (z : BR × Pipe), j ≠ i → M.ps[j]? = some z → ∀ k, RowOf z.1.A k → ¬ (k = g ∨ RowOf y.1.A k) := fun j z hj hz k hk q => by
    rcases q with q | q
    · exact sl_ne (h.pl z (List.mem_of_getElem? hz)) hk q
    · exact h.apart j i z y hj hz hy k hk q
  have hget : ∀ (j : Nat) (z : BR × Pipe), (M.ps.set i y')[j]? = some z → (j = i ∧ z = y') ∨ (j ≠ i ∧ M.ps[j]? = some z) := fun j z hz => by
    rw [List.getElem?_set] at hz
    by_cases hij : i = j
    · subst hij
      rw [if_pos rfl, if_pos hil] at hz
      exact .inl ⟨rfl, (Option.some.inj hz).symm⟩
    · rw [if_neg hij] at hz
      exact .inr ⟨fun q => hij q.symm, hz⟩
  have hwr : ∀ k, RowOf M.wr.A k → ¬ (k = g ∨ RowOf y.1.A k) := fun k hk q => by
    rcases q with q | q
    · exact sl_ne h.words hk q
    · exact h.apart0 y hym k hk q
  refine ⟨⟨ho.keep h.blk (nr h.blk (by decide) (by decide)), h.holds.only ho hmm, h.words.only ho hwr, own, h.tasks.only ho (fun k hk => ?_), fun z hz => ?_, fun z hz => (h.tl z hz).only ho (fun k cu hc => nr hc (by decide) (by decide)), fun z hz k hk hk' => ?_, fun a b z z' hab hz hz' k hk hk' => ?_,
    Nat.le_trans h.lo ho.size, fun k hk => ?_, e ▸ hf⟩, e, ho.mono fun k hk q => ?_⟩
  · obtain ⟨⟨cu, hc⟩, _⟩ := h.tasks.kind hk; exact nr hc (by decide) (by decide)
  · obtain ⟨j, hj⟩ := List.mem_iff_getElem?.1 hz
    rcases hget j z hj with ⟨_, rfl⟩ | ⟨hji, hj⟩
    · exact hs
    · exact (h.pl z (List.mem_of_getElem? hj)).only ho (hother j z hji hj)
  · obtain ⟨j, hj⟩ := List.mem_iff_getElem?.1 hz
    rcases hget j z hj with ⟨_, rfl⟩ | ⟨hji, hj⟩
    · rcases hr k hk' with hk' | hk'
      · exact h.apart0 y hym k hk hk'
      · have := h.words.lt hk; omega
    · exact h.apart0 z (List.mem_of_getElem? hj) k hk hk'
  · rcases hget a z hz with ⟨ea, ez⟩ | ⟨hai, hz1⟩
    · rcases hget b z' hz' with ⟨eb, _⟩ | ⟨hbi, hz2⟩
      · exact hab (ea.trans eb.symm)
      · rw [ez] at hk
        rcases hr k hk with hk | hk
        · exact h.apart i b y z' (fun q => hbi q.symm) hy hz2 k hk hk'
        · have := (h.pl z' (List.mem_of_getElem? hz2)).lt hk'; omega
    · rcases hget b z' hz' with ⟨eb, ez⟩ | ⟨hbi, hz2⟩
      · rw [ez] at hk'
        rcases hr k hk' with hk' | hk'
        · exact h.apart a i z y hai hz1 hy k hk hk'
        · have := (h.pl z (List.mem_of_getElem? hz1)).lt hk; omega
      · exact h.apart a b z z' hab hz1 hz2 k hk hk'
  · rcases hk with hk | hk | hk | hk | hk | ⟨z, hz, hk⟩
    · exact h.own k (.inl hk)
    · exact h.own k (.inr (.inl hk))
    · exact h.own k (.inr (.inr (.inl hk)))
    · exact h.own k (.inr (.inr (.inr (.inl hk))))
    · exact h.own k (.inr (.inr (.inr (.inr (.inl hk)))))
    · rcases List.mem_or_eq_of_mem_set hz with hz | rfl
      · exact h.own k (.inr (.inr (.inr (.inr (.inr ⟨z, hz, hk⟩)))))
      · rcases hr k hk with hk | hk
        · exact h.own k (.inr (.inr (.inr (.inr (.inr ⟨y, hym, hk⟩)))))
        · exact Nat.le_trans h.lo hk
  · rcases q with rfl | q
    · exact h.side hgo
    · exact h.side (.inr (.inr (.inr (.inr (.inr ⟨y, hym, q⟩)))))
/-- The words turned. -/
theorem TAt.word {w w' : World} {M : TMem} (h : TAt w M) {ws : List Int} (hl : ws.length = M.words.length) (ho : Only (RowOf M.wr.A) w w') (hs : Sl w' 21 M.wr.A ws.length M.wr.c (i32s ws)) (hf : FitW { M.wd with words := ws }) :
    TAt w' { M with words := ws } ∧ ({ M with words := ws } : TMem).wd = { M.wd with words := ws } ∧ Only (TSide M.base w) w w' := by
  have nr : ∀ {k : Nat} {cu : Array Value} {t : TypeId}, w.heap[k]? = some (.cells cu t (0, 0)) → t ≠ 21 → ¬ RowOf M.wr.A k := fun hc h2 q => by
    obtain ⟨cu2, hc2⟩ := h.words.type q; exact blk_ne hc hc2 h2 rfl
  refine ⟨⟨?_, h.holds.only ho (fun q => ?_), hs, h.pipes.only ho (fun k hk => ?_), h.tasks.only ho (fun k hk => ?_), fun z hz => (h.pl z hz).only ho (fun k hk q => h.apart0 z hz k q hk), fun z hz => (h.tl z hz).only ho (fun k cu hc => nr hc (by decide)), h.apart0, h.apart,
    Nat.le_trans h.lo ho.size, h.own, hf⟩, rfl, ho.mono fun k hk q => h.side (.inr (.inr (.inl q)))⟩
  · have := ho.keep h.blk (nr h.blk (by decide))
    simpa [worldCells, hl] using this
  · obtain ⟨cu2, hc2⟩ := h.words.type q; exact h.holds.ne hc2 rfl
  · obtain ⟨⟨cu, hc⟩, _⟩ := h.pipes.kind hk; exact nr hc (by decide)
  · obtain ⟨⟨cu, hc⟩, _⟩ := h.tasks.kind hk; exact nr hc (by decide)
/-- Who holds, turned. -/
theorem TAt.hold {w w' : World} {M : TMem} (h : TAt w M) {f : Int → Option Int} (ho : Only (· = M.m) w w') (hs : MapIs w' M.m f) :
    TAt w' { M with holds := f } ∧ ({ M with holds := f } : TMem).wd = { M.wd with holds := f } ∧ Only (TSide M.base w) w w' := by
  have nr : ∀ {k : Nat} {cu : Array Value} {t : TypeId}, w.heap[k]? = some (.cells cu t (0, 0)) → ¬ k = M.m := fun hc q => h.holds.ne hc q
  refine ⟨⟨ho.keep h.blk (nr h.blk), hs, h.words.only ho (fun k hk => ?_), h.pipes.only ho (fun k hk => ?_), h.tasks.only ho (fun k hk => ?_), fun z hz => (h.pl z hz).only ho (fun k hk => ?_), fun z hz => (h.tl z hz).only ho (fun k cu hc => nr hc), h.apart0, h.apart,
    Nat.le_trans h.lo ho.size, h.own, h.fit.holds f⟩, rfl, ho.mono fun k hk q => by subst q; exact h.side (.inr (.inl rfl))⟩
  · obtain ⟨cu, hc⟩ := h.words.type hk; exact nr hc
  · obtain ⟨⟨cu, hc⟩, _⟩ := h.pipes.kind hk; exact nr hc
  · obtain ⟨⟨cu, hc⟩, _⟩ := h.tasks.kind hk; exact nr hc
  · obtain ⟨cu, hc⟩ := (h.pl z hz).type hk; exact nr hc
end Go.Proofs.Ytgdjbmfpbihopaa
