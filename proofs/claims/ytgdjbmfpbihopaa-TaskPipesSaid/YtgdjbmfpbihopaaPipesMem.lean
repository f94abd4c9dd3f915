/-
  TaskPipes' memory, and its own closure. No conditions.
-/
import Derived.Test.YtgdjbmfpbihopaaRel2
import Derived.Test.YtgdjbmfpbihopaaPipesModel
namespace Go.Proofs.Ytgdjbmfpbihopaa
open Go.RowKit Go.MapKept
set_option linter.unusedVariables false
set_option linter.unusedSimpArgs false

/-- A world of tasks behind a step that turns no block of its kinds. -/
theorem TRel.far {base p : Nat} {W : Wd} {w w' : World} {F : Nat → Prop} (h : TRel base p W w) (ho : Only F w w') (hF : ∀ k, F k → ∃ cs t, w.heap[k]? = some (.cells cs t (0, 0)) ∧ t ≠ 29 ∧ t ≠ 21 ∧ t ≠ 77 ∧ t ≠ 74 ∧ t ≠ 41) : TRel base p W w' := by
  obtain ⟨M, h1, h2⟩ := h
  refine ⟨M, h1.only ho (fun k hk hf => ?_) (fun k cur hc hf => ?_), h2⟩
  · obtain ⟨cs, t, hc, n1, n2, n3, n4, _⟩ := hF k hf
    rcases h1.kinds hk with rfl | ⟨cu, e, hc2, he⟩
    · exact h1.holds.ne hc rfl
    · rw [hc] at hc2
      injection hc2 with hc2
      injection hc2 with _ hc2
      subst hc2
      rcases he with e | e | e | e
      · exact n1 e
      · exact n2 e
      · exact n3 e
      · exact n4 e
  · obtain ⟨cs, t, hc2, _, _, _, _, n5⟩ := hF k hf
    exact blk_ne hc2 hc n5 rfl
/-- i were sent and j taken; the statement's own counts are a and b. -/
structure PAt (w0 : World) (base p bw bi bo bs : Nat) (size : Int) (N : List Int) (i j a b : Nat) (wr : World) : Prop where
  rel : TRel base p (pipeW size N i j) wr
  ix : PIx size N i j
  hbw : wr.heap[bw]? = some (.cells #[.pointer (some ⟨p, 0, none⟩)] 23 (0, 0))
  hbi : wr.heap[bi]? = some (.cells #[.int .i64 (a : Nat)] 3 (0, 0))
  hbo : wr.heap[bo]? = some (.cells #[.int .i64 (b : Nat)] 3 (0, 0))
  hbs : wr.heap[bs]? = some (.cells #[.int .i64 size] 3 (0, 0))
  q : Quiet w0 wr
  lo : w0.heap.size ≤ bi ∧ w0.heap.size ≤ bo ∧ w0.heap.size ≤ base
  ne : bi ≠ bo ∧ bi ≠ bs ∧ bo ≠ bs
  small : N.length ≤ 40 ∧ size ≤ 8
section
variable {w0 : World} {base p bw bi bo bs : Nat} {size : Int} {N : List Int} {i j a b : Nat} {wr w' : World}
theorem PAt.quiet (h : PAt w0 base p bw bi bo bs size N i j a b wr) (hq : Quiet wr w') : PAt w0 base p bw bi bo bs size N i j a b w' :=
  ⟨h.rel.quiet hq, h.ix, hq.keep h.hbw (fun x => x), hq.keep h.hbi (fun x => x), hq.keep h.hbo (fun x => x), hq.keep h.hbs (fun x => x), h.q.trans hq, h.lo, h.ne, h.small⟩
theorem PAt.side (h : PAt w0 base p bw bi bo bs size N i j a b wr) {i' j' : Nat} (hr : TRel base p (pipeW size N i' j') w') (hx : PIx size N i' j') (ho : Only (TSide base wr) wr w') : PAt w0 base p bw bi bo bs size N i' j' a b w' :=
  ⟨hr, hx, side_keep ho h.hbw (by decide), side_keep ho h.hbi (by decide), side_keep ho h.hbo (by decide), side_keep ho h.hbs (by decide), side_quiet h.q h.lo.2.2 ho, h.lo, h.ne, h.small⟩
theorem PAt.setI (h : PAt w0 base p bw bi bo bs size N i j a b wr) (a' : Nat) (u : Value) (hu : u = .int .i64 (a' : Nat)) : PAt w0 base p bw bi bo bs size N i j a' b (wr.setCell ⟨bi, 0, none⟩ u) := by
  subst hu
  have hs : Only (· = bi) wr (wr.setCell ⟨bi, 0, none⟩ (.int .i64 (a' : Nat))) := Only.setCell (S := (· = bi)) (p := ⟨bi, 0, none⟩) (Only.refl _ _) (fun _ => rfl) _
  refine ⟨h.rel.far hs (fun k e => by subst e; exact ⟨_, _, h.hbi, by decide⟩), h.ix, hs.keep h.hbw (fun e => blk_ne h.hbw h.hbi (by decide) e), ?_, hs.keep h.hbo (fun e => h.ne.1 e.symm), hs.keep h.hbs (fun e => h.ne.2.1 e.symm), h.q.over hs (fun k hk e => by have := h.lo.1; omega), h.lo, h.ne, h.small⟩
  have := blk_set h.hbi 0 (.int .i64 (a' : Nat))
  simpa using this
theorem PAt.setO (h : PAt w0 base p bw bi bo bs size N i j a b wr) (b' : Nat) (u : Value) (hu : u = .int .i64 (b' : Nat)) : PAt w0 base p bw bi bo bs size N i j a b' (wr.setCell ⟨bo, 0, none⟩ u) := by
  subst hu
  have hs : Only (· = bo) wr (wr.setCell ⟨bo, 0, none⟩ (.int .i64 (b' : Nat))) := Only.setCell (S := (· = bo)) (p := ⟨bo, 0, none⟩) (Only.refl _ _) (fun _ => rfl) _
  refine ⟨h.rel.far hs (fun k e => by subst e; exact ⟨_, _, h.hbo, by decide⟩), h.ix, hs.keep h.hbw (fun e => blk_ne h.hbw h.hbo (by decide) e), hs.keep h.hbi (fun e => h.ne.1 e), ?_, hs.keep h.hbs (fun e => h.ne.2.2 e.symm), h.q.over hs (fun k hk e => by have := h.lo.2.1; omega), h.lo, h.ne, h.small⟩
  have := blk_set h.hbo 0 (.int .i64 (b' : Nat))
  simpa using this
/-- Its cells. -/
theorem PAt.cells (h : PAt w0 base p bw bi bo bs size N i j a b wr) : (wr.cell? ⟨bw, 0, none⟩ = some (.pointer (some ⟨p, 0, none⟩)) ∧ wr.cell? ⟨bi, 0, none⟩ = some (.int .i64 (a : Nat)) ∧ wr.cell? ⟨bo, 0, none⟩ = some (.int .i64 (b : Nat)) ∧ wr.cell? ⟨bs, 0, none⟩ = some (.int .i64 size)) ∧
    (bw < wr.heap.size ∧ bi < wr.heap.size ∧ bo < wr.heap.size ∧ bs < wr.heap.size) ∧ wr.frozen? ⟨bi, 0, none⟩ = false ∧ wr.frozen? ⟨bo, 0, none⟩ = false :=
  ⟨⟨blk_cell h.hbw 0, blk_cell h.hbi 0, blk_cell h.hbo 0, blk_cell h.hbs 0⟩, ⟨lt_of_heap h.hbw, lt_of_heap h.hbi, lt_of_heap h.hbo, lt_of_heap h.hbs⟩, blk_frozen h.hbi 0, blk_frozen h.hbo 0⟩
/-- What the closure leaves. -/
def PPost (w0 : World) (base p bw bi bo bs : Nat) (size : Int) (N : List Int) (i j : Nat) (k : Int) (e : Ending) (w' : World) : Prop :=
  e = .returned (.bool true) ∧ ∃ s c i' j', PAt w0 base p bw bi bo bs size N i' j' i' j' w' ∧ stateF (pipeW size N i j) k = s ∧
    PCase s c k i j i' j'
set_option maxRecDepth 8000 in
set_option maxHeartbeats 8000000 in
theorem pstep_at (h : PAt w0 base p bw bi bo bs size N i j i j wr) (k : Int) (hk : k = 0 ∨ k = 1) :
    Calls Try.prog 17 #[.int .i64 k, .pointer (some ⟨bw, 0, none⟩), .pointer (some ⟨bi, 0, none⟩), .pointer (some ⟨bo, 0, none⟩), .pointer (some ⟨bs, 0, none⟩)] wr (PPost w0 base p bw bi bo bs size N i j k) := by
  obtain ⟨s, c, i', j', hs, hst, hix, hcs⟩ := pipe_both h.ix k hk
  have C11 := Lib.hid (fun (V : World) (hV : TRel base p (pipeW size N i j) V) => tstate hV k)
  rw [hs] at C11
  have C14 := Lib.hid (fun (V : World) (hV : TRel base p (pipeW size N i j) V) => tstuck hV)
  rw [pipe_stuck h.ix] at C14
  have C10 := Lib.hid (fun (V : World) (hV : TRel base p (pipeW size N i j) V) => tstep hV k)
  rw [hst] at C10
  have H := Lib.hid h
  obtain ⟨⟨c0, c1, c2, c3⟩, ⟨l0, l1, l2, l3⟩, _, _⟩ := h.cells
  have hj1 := hix.ji
  have hf1 := hix.full
  have hN := hix.iN
  obtain ⟨n40, n8⟩ := h.small
  have n1 := h.ne.1
  have n4 : bs ≠ bi := fun e => h.ne.2.1 e.symm
  have n5 : bs ≠ bo := fun e => h.ne.2.2 e.symm
  have HIX := Lib.hid hix; clear hix
  have HS := Lib.hid hs; clear hs hst h
  have n3 : bo ≠ bi := fun e => n1 e.symm
  have d0 : (0 : Int) ≤ (i' : Int) - (j' : Int) := by omega
  have e0 : decide ((0 : Int) ≤ (i' : Int) - (j' : Int)) = true := by simpa using d0
  have e1 : decide ((i' : Int) - (j' : Int) ≤ size) = true := by simpa using hf1
  unfold PCase at hcs
  rcases hk with rfl | rfl <;> rcases hcs with ⟨rfl, rfl, ⟨h0, rfl, rfl⟩ | ⟨h0, rfl, rfl⟩⟩ | ⟨rfl, rfl, rfl, rfl⟩ | ⟨rfl, rfl, rfl, rfl⟩
  all_goals first | exact absurd h0 (by decide) | skip
  all_goals
    try clear h0
    try simp only [Int.natCast_add, Int.natCast_one] at e0 e1 d0
    go_enter Try.func17, Try.ntmps17
    go_wp2_with (first
      | (go_at_call 11; (with_reducible refine (C11.out _ H.out.rel).mono ?_); rintro e w2 ⟨rfl, hq⟩; have H2 := Lib.hid (H.out.quiet hq); obtain ⟨⟨t0, t1, t2, t3⟩, ⟨m0, m1, m2, m3⟩, mf, mg⟩ := (H.out.quiet hq).cells; clear hq)
      | (go_at_call 14; (with_reducible refine (C14.out _ H2.out.rel).mono ?_); rintro e w3 ⟨rfl, hq⟩; have H3 := Lib.hid (H2.out.quiet hq); obtain ⟨⟨u0, u1, u2, u3⟩, ⟨v0, v1, v2, v3⟩, vf, vg⟩ := (H2.out.quiet hq).cells; clear hq)
      | (go_at_call 10; (with_reducible refine (C10.out _ H3.out.rel).mono ?_); rintro e w4 ⟨rfl, ht4, ho4⟩; have H4 := Lib.hid (H3.out.side ht4 HIX.out ho4); obtain ⟨⟨x0, x1, x2, x3⟩, ⟨y0, y1, y2, y3⟩, yf, yg⟩ := (H3.out.side ht4 HIX.out ho4).cells; clear ht4 ho4))
    go_ret
    first
      | exact ⟨rfl, 1, 0, i + 1, _, H4.out.setI (i + 1) _ (by go_num), HS.out, .inl ⟨rfl, rfl, .inl ⟨rfl, rfl, rfl⟩⟩⟩
      | exact ⟨rfl, 1, 0, _, j + 1, H4.out.setO (j + 1) _ (by go_num), HS.out, .inl ⟨rfl, rfl, .inr ⟨rfl, rfl, rfl⟩⟩⟩
      | exact ⟨rfl, 2, 0, _, _, H4.out, HS.out, .inr (.inl ⟨rfl, rfl, rfl, rfl⟩)⟩
      | exact ⟨rfl, 3, 16, _, _, H4.out, HS.out, .inr (.inr ⟨rfl, rfl, rfl, rfl⟩)⟩
end
end Go.Proofs.Ytgdjbmfpbihopaa
