/-
  TaskPlays: its arguments, and the two worlds side by side: one contract a call. No conditions.
-/
import Derived.Test.YtgdjbmfpbihopaaRefStep
import Derived.Test.YtgdjbmfpbihopaaRefNew
namespace Go.Proofs.Ytgdjbmfpbihopaa
open Go.RowKit Go.MapKept Go.ChangeShapes Go.WideShapes Go.Deep
set_option linter.unusedVariables false
set_option linter.unusedSimpArgs false

/-! ### the arguments -/
section
variable {H : Type} {enc : TypeId × Value → H} {w : World}
theorem open_op {cs : List Value} (h : Tr enc Try.prog w 41 cs) : ∃ o : Op3, cs = opCells o ∧ True := by
  have hl : cs.length = 3 := (tr_struct Try.underlying41 h).1
  match cs, hl with
  | [a, b, c], _ =>
    have h0 := tr_field Try.underlying41 h 0 3 0 1 rfl (by kernel_rfl)
    have h1 := tr_field Try.underlying41 h 1 3 1 1 rfl (by kernel_rfl)
    have h2 := tr_field Try.underlying41 h 2 3 2 1 rfl (by kernel_rfl)
    obtain ⟨z0, e0, _⟩ := tr_int Try.underlying3 h0
    obtain ⟨z1, e1, _⟩ := tr_int Try.underlying3 h1
    obtain ⟨z2, e2, _⟩ := tr_int Try.underlying3 h2
    simp at e0 e1 e2
    subst e0 e1 e2
    exact ⟨⟨z0, z1, z2⟩, rfl, trivial⟩
/-- A slice of operations that came in. -/
structure OpV where
  A : Option Addr
  n : Nat
  c : Nat
  l : List Op3
def opvCells (x : OpV) : List Value := [.slice x.A x.n x.c]
def OpvAt (w : World) (x : OpV) : Prop := OpRd w x.A x.n x.c x.l
theorem open_tasks {v : Value} (h : Tr enc Try.prog w 56 [v]) :
    ∃ A n c l, v = .slice A n c ∧ n ≤ c ∧ c ≤ maxLen ∧ (A = none → n = 0 ∧ c = 0) ∧ StructsArg opvCells 1 w A n l ∧ ∀ x ∈ l, OpvAt w x := by
  refine open_structs' (cells := opvCells) (R := OpvAt) Try.underlying56 (by kernel_rfl) (by omega) (fun cs hcs => ?_) h
  obtain ⟨v, rfl⟩ := slice_only Try.underlying22 hcs
  obtain ⟨A, n, c, l, rfl, hnc, hcm, hnl, arg, _⟩ := open_structs' (size := 3) (cells := opCells) (R := fun _ _ => True) Try.underlying22 (by kernel_rfl) (by omega) (fun cs hcs => open_op hcs) hcs
  exact ⟨⟨A, n, c, l⟩, rfl, arg.1, hnc, hcm, hnl, arg.2⟩
structure SetupV where
  a : Int
  b : Int
  A : Option Addr
  n : Nat
  c : Nat
  l : List Int
def SetupV.v (s : SetupV) : Value := .agg #[.int .i64 s.a, .int .i64 s.b, .slice s.A s.n s.c]
structure SetupAt (w : World) (s : SetupV) : Prop where
  le : s.n ≤ s.c
  cap : s.c ≤ maxLen
  nil : s.A = none → s.n = 0 ∧ s.c = 0
  arg : IntsArg .i64 w s.A s.n s.l
theorem tr_array2 {P : Program} {t e : TypeId} {c0 c1 : Value} (ht : P.underlying t = some (.array 2 e)) (hce : P.cellsOf e = 1) (h : Tr enc P w t [c0, c1]) : Tr enc P w e [c0] ∧ Tr enc P w e [c1] := by
  obtain ⟨fuel, x, h⟩ := h
  cases fuel with
  | zero => simp [DataW.trod] at h
  | succ n =>
    unfold DataW.trod at h
    rw [ht] at h
    have r2 : List.range 2 = [0, 1] := rfl
    simp [r2, hce] at h
    obtain ⟨_, h⟩ := h
    cases h0 : DataW.trod enc P w 0 (fun _ => true) true n e [c0] with
    | none => simp [h0] at h
    | some y0 =>
      cases h1 : DataW.trod enc P w 0 (fun _ => true) true n e [c1] with
      | none => simp [h0, h1] at h
      | some y1 => exact ⟨⟨n, y0, h0⟩, ⟨n, y1, h1⟩⟩
theorem open_setup {base : Nat} {r : Reach} {v : Value} (hv : Value.okWide Try.prog w r base 55 v) (h : Tr enc Try.prog w 55 v.cells.toList) : ∃ s : SetupV, v = s.v ∧ SetupAt w s := by
  obtain ⟨cs, rfl, hsz⟩ := okWide_struct Try.underlying55 hv
  have hl : cs.toList.length = 3 := by rw [Array.length_toList]; exact hsz
  have h' : Tr enc Try.prog w 55 cs.toList := h
  obtain ⟨cl⟩ := cs
  match cl, hl with
  | [x, y, z], _ =>
    have h0 := tr_field Try.underlying55 h' 0 53 0 2 rfl (by kernel_rfl)
    have h1 := tr_field Try.underlying55 h' 1 44 2 1 rfl (by kernel_rfl)
    obtain ⟨k0, k1⟩ := tr_array2 (c0 := x) (c1 := y) Try.underlying53 (by kernel_rfl) h0
    obtain ⟨a, e0, _⟩ := tr_int Try.underlying3 k0
    obtain ⟨b, e1, _⟩ := tr_int Try.underlying3 k1
    obtain ⟨A, n, c, l, e2, hnc, hcm, hnl, arg⟩ := open_ints' (k := .i64) Try.underlying44 Try.underlying3 (by kernel_rfl) (v := z) h1
    simp at e0 e1
    subst e0 e1 e2
    exact ⟨⟨a, b, A, n, c, l⟩, rfl, hnc, hcm, hnl, arg⟩
end
theorem OpRd.cut {w : World} {A : Option Addr} {n c : Nat} {l : List Op3} (h : OpRd w A n c l) {m : Nat} (hm : m ≤ n) : OpRd w A m c (l.take m) := by
  refine ⟨by rw [List.length_take, h.len]; omega, Nat.le_trans hm h.le, h.cap, fun e => ⟨by have := (h.nil e).1; omega, (h.nil e).2⟩, fun h0 => ?_⟩
  obtain ⟨b, off, e, hb, hc⟩ := h.src (by omega)
  refine ⟨b, off, e, hb, fun i o ho j hj => hc i o ?_ j hj⟩
  rw [List.getElem?_take] at ho
  split at ho
  · exact ho
  · cases ho
/-! ### the two worlds -/
structure BAt (w0 : World) (b1 b2 px py : Nat) (W W' : Wd) (wr : World) : Prop where
  x : TRel b1 px W wr
  y : RRel b2 py W' wr
  q : Quiet w0 wr
  h1 : w0.heap.size ≤ b1
  h2 : w0.heap.size ≤ b2
section
variable {w0 wr w' : World} {b1 b2 px py : Nat} {W W' : Wd}
theorem BAt.quiet (h : BAt w0 b1 b2 px py W W' wr) (hq : Quiet wr w') : BAt w0 b1 b2 px py W W' w' := ⟨h.x.quiet hq, h.y.quiet hq, h.q.trans hq, h.h1, h.h2⟩
theorem BAt.afterX (h : BAt w0 b1 b2 px py W W' wr) {V : Wd} (hx : TRel b1 px V w') (ho : Only (TSide b1 wr) wr w') : BAt w0 b1 b2 px py V W' w' := ⟨hx, h.y.side ho, side_quiet h.q h.h1 ho, h.h1, h.h2⟩
theorem BAt.afterY (h : BAt w0 b1 b2 px py W W' wr) {V : Wd} (hy : RPost b2 py wr V w') : BAt w0 b1 b2 px py W V w' := ⟨h.x.rside hy.2, hy.1, rside_quiet h.q h.h2 hy.2, h.h1, h.h2⟩
theorem bstepx (h : BAt w0 b1 b2 px py W W' wr) (k : Int) : Calls Try.prog 10 #[.pointer (some ⟨px, 0, none⟩), .int .i64 k] wr fun e w' => e = .returned (.tuple #[.int .i64 (stepF W k).1, .int .i64 (stepF W k).2.1]) ∧ BAt w0 b1 b2 px py (stepF W k).2.2 W' w' :=
  (tstep h.x k).mono fun e w' ⟨e1, h2, h3⟩ => ⟨e1, h.afterX h2 h3⟩
theorem bstepy (h : BAt w0 b1 b2 px py W W' wr) (k : Int) : Calls Try.prog 21 #[.pointer (some ⟨py, 0, none⟩), .int .i64 k] wr fun e w' => e = .returned (.tuple #[.int .i64 (stepF W' k).1, .int .i64 (stepF W' k).2.1]) ∧ BAt w0 b1 b2 px py W (stepF W' k).2.2 w' :=
  (rstep h.y k).mono fun e w' ⟨e1, h2⟩ => ⟨e1, h.afterY h2⟩
theorem bstartx (h : BAt w0 b1 b2 px py W W' wr) {A : Option Addr} {n c : Nat} {l : List Op3} (hr : OpRd w0 A n c l) :
    Calls Try.prog 9 #[.pointer (some ⟨px, 0, none⟩), .slice A n c] wr fun e w' => e = .returned (.tuple #[.int .i64 (startF W l).1, .int .i64 (startF W l).2.1]) ∧ BAt w0 b1 b2 px py (startF W l).2.2 W' w' :=
  (tstart h.x (hr.quiet h.q)).mono fun e w' ⟨e1, h2, h3⟩ => ⟨e1, h.afterX h2 h3⟩
theorem bops (h : BAt w0 b1 b2 px py W W' wr) {A : Option Addr} {n c : Nat} {l : List Op3} (hr : OpRd w0 A n c l) (hn : n ≤ 1001) :
    Calls Try.prog 20 #[.slice A n c] wr fun e w' => ∃ A' c', e = .returned (.slice A' n c') ∧ RopSl w' A' n c' l ∧ BAt w0 b1 b2 px py W W' w' :=
  (rops (hr.quiet h.q) hn).mono fun e w' ⟨A', c', e1, h2, h3⟩ => ⟨A', c', e1, h2, h.quiet h3⟩
theorem bstarty (h : BAt w0 b1 b2 px py W W' wr) {A : Option Addr} {n c : Nat} {l : List Op3} (hr : RopSl wr A n c l) (hn : n ≤ 1001) :
    Calls Try.prog 19 #[.pointer (some ⟨py, 0, none⟩), .slice A n c] wr fun e w' => e = .returned (.tuple #[.int .i64 (startF W' l).1, .int .i64 (startF W' l).2.1]) ∧ BAt w0 b1 b2 px py W (startF W' l).2.2 w' :=
  (rstart h.y hr hn).mono fun e w' ⟨e1, h2⟩ => ⟨e1, h.afterY h2⟩
theorem bstate (h : BAt w0 b1 b2 px py W W' wr) (k : Int) : Calls Try.prog 11 #[.pointer (some ⟨px, 0, none⟩), .int .i64 k] wr fun e w' => e = .returned (.int .i64 (stateF W k)) ∧ BAt w0 b1 b2 px py W W' w' ∧ Quiet wr w' :=
  (tstate h.x k).mono fun e w' ⟨e1, h2⟩ => ⟨e1, h.quiet h2, h2⟩
theorem bstatey (h : BAt w0 b1 b2 px py W W' wr) (k : Int) : Calls Try.prog 23 #[.pointer (some ⟨py, 0, none⟩), .int .i64 k] wr fun e w' => e = .returned (.int .i64 (stateF W' k)) ∧ BAt w0 b1 b2 px py W W' w' ∧ Quiet wr w' :=
  (rstate h.y k).mono fun e w' ⟨e1, h2⟩ => ⟨e1, h.quiet h2, h2⟩
theorem bstuck (h : BAt w0 b1 b2 px py W W' wr) : Calls Try.prog 14 #[.pointer (some ⟨px, 0, none⟩)] wr fun e w' => e = .returned (.bool (stuckF W)) ∧ BAt w0 b1 b2 px py W W' w' ∧ Quiet wr w' :=
  (tstuck h.x).mono fun e w' ⟨e1, h2⟩ => ⟨e1, h.quiet h2, h2⟩
theorem bstucky (h : BAt w0 b1 b2 px py W W' wr) : Calls Try.prog 22 #[.pointer (some ⟨py, 0, none⟩)] wr fun e w' => e = .returned (.bool (stuckF W')) ∧ BAt w0 b1 b2 px py W W' w' ∧ Quiet wr w' :=
  (rstuck h.y).mono fun e w' ⟨e1, h2⟩ => ⟨e1, h.quiet h2, h2⟩
theorem bhas (h : BAt w0 b1 b2 px py W W' wr) (k : Int) : Calls Try.prog 12 #[.pointer (some ⟨px, 0, none⟩), .int .i64 k] wr fun e w' => e = .returned (.int .i64 (hasF W k)) ∧ BAt w0 b1 b2 px py W W' w' ∧ Quiet wr w' :=
  (thas h.x k).mono fun e w' ⟨e1, h2⟩ => ⟨e1, h.quiet h2, h2⟩
theorem bword (h : BAt w0 b1 b2 px py W W' wr) (k : Int) : Calls Try.prog 13 #[.pointer (some ⟨px, 0, none⟩), .int .i64 k] wr fun e w' => e = .returned (.int .i64 (wordF W k)) ∧ BAt w0 b1 b2 px py W W' w' ∧ Quiet wr w' :=
  (tword h.x k).mono fun e w' ⟨e1, h2⟩ => ⟨e1, h.quiet h2, h2⟩
/-- What the law itself looks at: the reference's tasks, and its words. -/
theorem BAt.tasks (h : BAt w0 b1 b2 px py W W' wr) : W'.tasks.length ≤ 64 ∧ ∃ A cap, W'.tasks.length ≤ cap ∧ cap ≤ maxLen ∧ py < wr.heap.size ∧ (∀ V, Quiet wr V → V.cell? ⟨py, 4, none⟩ = some (.slice A W'.tasks.length cap)) ∧
    ∀ i : Nat, i < W'.tasks.length → ∃ g, A = some ⟨g, 0, none⟩ ∧ g < wr.heap.size ∧ ∀ V, Quiet wr V → V.cell? ⟨g, i * 3 + 2, none⟩ = some (.int .i64 (hasF W' (i : Int))) := by
  obtain ⟨M, h1, rfl, _⟩ := h.y
  obtain ⟨A, cap, hv, hc1, hc2⟩ := h1.shape
  obtain ⟨hl, hl2⟩ := h1.len
  have c4 := h1.head.2.2.2.2.1
  have ps := h1.head.2.2.2.2.2
  rw [hv] at c4
  rw [hl]
  refine ⟨hl2, A, cap, hc1, hc2, ps, fun V hV => (hV.cell (p := ⟨M.p, 4, none⟩) ps (fun x => x)).trans c4, fun i hi => ?_⟩
  obtain ⟨t, ht⟩ : ∃ t, M.ts[i]? = some t := ⟨_, List.getElem?_eq_getElem hi⟩
  obtain ⟨g, cap', hv', _, _, gs, _, _, g2⟩ := h1.task ht
  rw [hv, Value.slice.injEq] at hv'
  refine ⟨g, hv'.1, gs, fun V hV => ?_⟩
  have e : hasF W' (i : Int) = t.has := by unfold hasF; rw [if_neg (by omega), Int.toNat_natCast, h1.thread ht]
  rw [e]
  exact (hV.cell (p := ⟨g, i * 3 + 2, none⟩) gs (fun x => x)).trans g2
theorem BAt.words (h : BAt w0 b1 b2 px py W W' wr) : W'.words.length ≤ 64 ∧ ∃ A cap, W'.words.length ≤ cap ∧ cap ≤ maxLen ∧ py < wr.heap.size ∧ (∀ V, Quiet wr V → V.cell? ⟨py, 1, none⟩ = some (.slice A W'.words.length cap)) ∧
    ∀ i : Nat, i < W'.words.length → ∃ g off, A = some ⟨g, off, none⟩ ∧ g < wr.heap.size ∧ ∀ V, Quiet wr V → V.cell? ⟨g, off + i, none⟩ = some (.int .i64 (wordF W' (i : Int))) := by
  obtain ⟨M, h1, rfl, _⟩ := h.y
  have hs := h1.rows M.wd (.tail _ (.head _))
  have c1 := h1.head.2.1
  have ps := h1.head.2.2.2.2.2
  rw [RRow.v] at c1
  have hw := h1.words
  refine ⟨h1.fit.words, M.wd.A, M.wd.c, by rw [hw]; exact hs.le, hs.capLe, ps, fun V hV => by rw [hw]; exact (hV.cell (p := ⟨M.p, 1, none⟩) ps (fun x => x)).trans c1, fun i hi => ?_⟩
  obtain ⟨x, hx⟩ : ∃ x, M.wd.l[i]? = some x := ⟨_, List.getElem?_eq_getElem (by rw [← hw]; exact hi)⟩
  obtain ⟨g, off, e1, gs, g2⟩ := hs.cell (i64s_at hx)
  refine ⟨g, off, e1, gs, fun V hV => ?_⟩
  have e : wordF W' (i : Int) = x := by unfold wordF; rw [if_neg (by omega), Int.toNat_natCast, hw, List.getD_eq_getElem?_getD, hx]; rfl
  rw [e]
  exact (hV.cell (p := ⟨g, off + i, none⟩) gs (fun x => x)).trans g2
end
theorem bstart0 {w0 w1 w2 w3 : World} {px py : Nat} {L m : Int} {l : List Int} (h01 : Quiet w0 w1) (hx : TRel w1.heap.size px (newW L m l) w2) (h12 : Quiet w1 w2) (hy : RRel w2.heap.size py (newW L m l) w3) (h23 : Quiet w2 w3) :
    BAt w0 w1.heap.size w2.heap.size px py (newW L m l) (newW L m l) w3 :=
  ⟨hx.quiet h23, hy, (h01.trans h12).trans h23, h01.size, (h01.trans h12).size⟩
theorem plays_end {w0 wr : World} {b1 b2 px py : Nat} {W W' : Wd} (h : BAt w0 b1 b2 px py W W' wr) : hasF W (-1) = 0 ∧ wordF W 64 = 0 ∧ stateF W 64 = 0 := by
  have hf := h.x.fit
  refine ⟨by unfold hasF; rw [if_pos (by decide)], ?_, stateF_no (.inr (by have := hf.tasks; omega))⟩
  unfold wordF
  rw [if_neg (by decide), List.getD_eq_getElem?_getD, List.getElem?_eq_none (by have := hf.words; show _ ≤ 64; omega)]
  rfl
end Go.Proofs.Ytgdjbmfpbihopaa
