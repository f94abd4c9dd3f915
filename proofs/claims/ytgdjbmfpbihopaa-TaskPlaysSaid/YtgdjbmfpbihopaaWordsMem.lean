/-
  TaskWords' memory: its argument, its sums, the list that it builds. No conditions.
-/
import Derived.Test.YtgdjbmfpbihopaaRel2
import Derived.Test.YtgdjbmfpbihopaaWordsModel
namespace Go.Proofs.Ytgdjbmfpbihopaa
open Go.RowKit Go.MapKept Go.ChangeShapes Go.WideShapes Go.Deep
set_option linter.unusedVariables false
set_option linter.unusedSimpArgs false

/-! ### an argument that is a slice of slices of numbers -/
structure IiV where
  A : Option Addr
  n : Nat
  c : Nat
  l : List Int
def iiCells (x : IiV) : List Value := [.slice x.A x.n x.c]
def IiAt (w : World) (x : IiV) : Prop := x.n ≤ x.c ∧ x.c ≤ maxLen ∧ IntsArg .i64 w x.A x.n x.l
theorem slice_only {H : Type} {enc : TypeId × Value → H} {P : Program} {w : World} {t e : TypeId} {cs : List Value} (ht : P.underlying t = some (.slice e)) (h : Tr enc P w t cs) : ∃ v, cs = [v] := by
  obtain ⟨fuel, x, h⟩ := h
  rcases open_slice ht h with ⟨h1, _⟩ | ⟨a, len, cap, m, n, D, Pl, h1, _⟩
  · exact ⟨_, h1⟩
  · exact ⟨_, h1⟩
theorem open_ii {H : Type} {enc : TypeId × Value → H} {w : World} {v : Value} (h : Tr enc Try.prog w 50 [v]) :
    ∃ A n c l, v = .slice A n c ∧ n ≤ c ∧ c ≤ maxLen ∧ (A = none → n = 0 ∧ c = 0) ∧ StructsArg iiCells 1 w A n l ∧ ∀ x ∈ l, IiAt w x := by
  refine open_structs' (cells := iiCells) (R := IiAt) Try.underlying50 (by kernel_rfl) (by omega) (fun cs hcs => ?_) h
  obtain ⟨v, rfl⟩ := slice_only Try.underlying44 hcs
  obtain ⟨A, n, c, l, rfl, hnc, hcm, hnl, arg⟩ := open_ints' (k := .i64) Try.underlying44 Try.underlying3 (by kernel_rfl) hcs
  exact ⟨⟨A, n, c, l⟩, rfl, hnc, hcm, arg⟩
/-! ### the list -/
def par (i : Nat) : Int := bits .and .i64 (i : Int) 1
theorem par_cases (i : Nat) : par i = 0 ∨ par i = 1 := by
  obtain ⟨y, hy, h1⟩ := and_mask (i : Int) 1 (by decide)
  have : par i = (y : Int) := hy
  omega
def mkOps (i : Nat) : List Int → List Op3
  | [] => []
  | x :: r => ⟨5, par i, x⟩ :: mkOps (i + 1) r
theorem mkOps_snoc : ∀ (l : List Int) (i : Nat) (x : Int), mkOps i (l ++ [x]) = mkOps i l ++ [⟨5, par (i + l.length), x⟩]
  | [], i, x => rfl
  | y :: r, i, x => by
    simp only [List.cons_append, mkOps, mkOps_snoc r (i + 1) x, List.length_cons]
    rw [show i + 1 + r.length = i + (r.length + 1) by omega]
theorem mkOps_len : ∀ (l : List Int) (i : Nat), (mkOps i l).length = l.length
  | [], _ => rfl
  | y :: r, i => by simp [mkOps, mkOps_len r (i + 1)]
theorem mkOps_add : ∀ (l : List Int) (i : Nat), ∀ o ∈ mkOps i l, IsAdd o
  | [], _, o, h => by simp [mkOps] at h
  | y :: r, i, o, h => by
    simp only [mkOps, List.mem_cons] at h
    rcases h with rfl | h
    · exact ⟨rfl, par_cases i⟩
    · exact mkOps_add r (i + 1) o h
/-- A world of tasks behind a step that turns no block of its kinds. -/
theorem TRel.only {base p : Nat} {W : Wd} {w w' : World} {F : Nat → Prop} (h : TRel base p W w) (ho : Only F w w') (hF : ∀ k, F k → ∃ cs t, w.heap[k]? = some (.cells cs t (0, 0)) ∧ t ≠ 29 ∧ t ≠ 21 ∧ t ≠ 77 ∧ t ≠ 74 ∧ t ≠ 41) : TRel base p W w' := by
  obtain ⟨M, h1, h2⟩ := h
  refine ⟨M, h1.only ho (fun k hk hf => ?_) (fun k cur hc hf => ?_), h2⟩
  · obtain ⟨cs, t, hc, n1, n2, n3, n4, _⟩ := hF k hf
    rcases h1.kinds hk with rfl | ⟨cu, e, hc2, he⟩
    · exact h1.holds.ne hc rfl
    · rw [hc] at hc2
      injection hc2 with hc2
      injection hc2 with _ hc2
      subst hc2
      rcases he with e | e | e | e
      · exact n1 e
      · exact n2 e
      · exact n3 e
      · exact n4 e
  · obtain ⟨cs, t, hc2, _, _, _, _, n5⟩ := hF k hf
    exact blk_ne hc2 hc n5 rfl
def SumBox (w : World) (bx : Nat) (S0 S1 : Int) : Prop := w.heap[bx]? = some (.cells #[.int .i32 S0, .int .i32 S1] 51 (0, 0))
theorem SumBox.c0 {w : World} {bx : Nat} {S0 S1 : Int} (h : SumBox w bx S0 S1) : w.cell? ⟨bx, 0, none⟩ = some (.int .i32 S0) := blk_cell h 0
theorem SumBox.c1 {w : World} {bx : Nat} {S0 S1 : Int} (h : SumBox w bx S0 S1) : w.cell? ⟨bx, 1, none⟩ = some (.int .i32 S1) := blk_cell h 1
theorem SumBox.quiet {w w' : World} {bx : Nat} {S0 S1 : Int} (h : SumBox w bx S0 S1) (hq : Quiet w w') : SumBox w' bx S0 S1 := hq.keep h (fun x => x)
theorem SumBox.side {base : Nat} {w w' : World} {bx : Nat} {S0 S1 : Int} (h : SumBox w bx S0 S1) (ho : Only (TSide base w) w w') : SumBox w' bx S0 S1 := side_keep ho h (by decide)
/-- Between the tasks: i of them have started. -/
structure WSet (W : Wd) (S0 S1 : Int) (i : Nat) : Prop where
  inv : WInv W S0 S1
  words : W.words = [0, 0]
  len : W.tasks.length = i
structure W1At (w0 : World) (base p bx : Nat) (i : Nat) (long : Int) (W : Wd) (S0 S1 : Int) (wr : World) : Prop where
  rel : TRel base p W wr
  set : WSet W S0 S1 i
  box : SumBox wr bx S0 S1
  q : Quiet w0 wr
  lo : w0.heap.size ≤ bx
  i8 : i ≤ 8
  long0 : 0 ≤ long
  long1 : long ≤ 30 * i
def W1Rel (w0 : World) (base p bx : Nat) (vn vl vi : Value) (wr : World) : Prop := ∃ i long W S0 S1, vi = .int .i64 (i : Nat) ∧ vn = .int .i64 (i : Nat) ∧ vl = .int .i64 long ∧ W1At w0 base p bx i long W S0 S1 wr
theorem w1_start {w0 w1 : World} {p : Nat} (h : TRel w0.heap.size p (newW 0 2 []) w1) (hq : Quiet w0 w1) : W1At w0 w0.heap.size p w1.heap.size 0 0 (newW 0 2 []) 0 0 (w1.alloc (.cells #[.int .i32 0, .int .i32 0] 51)) :=
  ⟨h.quiet ((Only.refl _ _).alloc _), ⟨⟨rfl, rfl, ⟨0, 0, rfl, by unfold In32; omega, by unfold In32; omega, rfl, rfl⟩, fun t ht => by simp [newW] at ht⟩, rfl, rfl⟩, blk_new _ _, hq.trans ((Only.refl _ _).alloc _), hq.size, by omega, by omega, by omega⟩
/-- Within one task: k of its operations are laid. -/
structure W2At (wo : World) (bx : Nat) (W : Wd) (xs : List Int) (k : Nat) (v : Value) (S0 S1 : Int) (wr : World) : Prop where
  own : wr.ownsRow wo.heap.size 41 3 v k (opsF (mkOps 0 (xs.take k)))
  box : SumBox wr bx S0 S1
  o : Only (· = bx) wo wr
  s0 : S0 = w32 (restOf 0 W.tasks + addOf 0 (mkOps 0 (xs.take k)))
  s1 : S1 = w32 (restOf 1 W.tasks + addOf 1 (mkOps 0 (xs.take k)))
def W2Rel (wo : World) (bx : Nat) (W : Wd) (xs : List Int) (v vk : Value) (wr : World) : Prop := ∃ k S0 S1, vk = .int .i64 (k : Nat) ∧ k ≤ 30 ∧ k ≤ xs.length ∧ W2At wo bx W xs k v S0 S1 wr
theorem w2_start {w0 : World} {base p bx i : Nat} {long : Int} {W : Wd} {S0 S1 : Int} {wo : World} (h : W1At w0 base p bx i long W S0 S1 wo) (xs : List Int) : W2At wo bx W xs 0 (.slice none 0 0) S0 S1 wo := by
  obtain ⟨x0, x1, hw, _, _, hs0, hs1⟩ := h.set.inv.words
  rw [h.set.words] at hw
  injection hw with e1 hw
  injection hw with e2 _
  subst e1 e2
  refine ⟨World.ownsRow_nil _ _ _ _, h.box, Only.refl _ _, ?_, ?_⟩
  · simp only [List.take_zero, mkOps, addOf]; rw [← hs0]; congr 1; omega
  · simp only [List.take_zero, mkOps, addOf]; rw [← hs1]; congr 1; omega
theorem W2At.next {wo : World} {bx : Nat} {W : Wd} {xs : List Int} {k : Nat} {v : Value} {S0 S1 : Int} {wr w3 : World} (h : W2At wo bx W xs k v S0 S1 wr) {x : Int} (hx : xs[k]? = some x) {v' : Value} {W' : World} (hq : Quiet wr W')
    (hown : w3.ownsRow wo.heap.size 41 3 v' (k + 1) (opsF (mkOps 0 (xs.take k)) ++ [.int .i64 5, .int .i64 (par k), .int .i64 x])) (hg : W'.grownBy w3 v.ownBlock) (hl : bx < wo.heap.size) :
    (par k = 0 → W2At wo bx W xs (k + 1) v' (w32 (S0 + w32 x)) S1 (w3.setCell ⟨bx, 0, none⟩ (.int .i32 (w32 (S0 + w32 x))))) ∧
    (par k = 1 → W2At wo bx W xs (k + 1) v' S0 (w32 (S1 + w32 x)) (w3.setCell ⟨bx, 1, none⟩ (.int .i32 (w32 (S1 + w32 x))))) := by
  have hkl := (List.getElem?_eq_some_iff.1 hx).1
  have htk : xs.take (k + 1) = xs.take k ++ [x] := by rw [List.take_add_one, hx]; rfl
  have hm : mkOps 0 (xs.take (k + 1)) = mkOps 0 (xs.take k) ++ [⟨5, par k, x⟩] := by
    rw [htk, mkOps_snoc, List.length_take, Nat.min_eq_left (by omega), Nat.zero_add]
  have hlt : ∀ j, v.ownBlock = some j → wo.heap.size ≤ j := fun j hj => (h.own.lt j hj).1
  have hO : Only (fun j => wo.heap.size ≤ j) wr w3 := (hq.mono (fun _ _ x => x.elim)).trans ((Only.refl _ W').of_grown hg (fun j hj _ => hlt j hj))
  have hb3 : SumBox w3 bx S0 S1 := hO.keep h.box (by omega)
  have hso : Only (· = bx) wo w3 := h.o.over hO (fun i hi q => by omega)
  have own3 : ∀ (u : Value) (j : Nat), (w3.setCell ⟨bx, j, none⟩ u).ownsRow wo.heap.size 41 3 v' (k + 1) (opsF (mkOps 0 (xs.take (k + 1)))) := fun u j => by
    have e : opsF (mkOps 0 (xs.take (k + 1))) = opsF (mkOps 0 (xs.take k)) ++ [.int .i64 5, .int .i64 (par k), .int .i64 x] := by rw [hm, opsF_app]; rfl
    rw [e]
    obtain ⟨o1, o2⟩ := hown
    refine ⟨o1, o2.imp_right ?_⟩
    rintro ⟨g, cap, cur, e1, e2, e3, e4⟩
    exact ⟨g, cap, cur, e1, e2, blk_far e3 (p := ⟨bx, j, none⟩) (by show g ≠ bx; omega) u, e4⟩
  have hset : ∀ (u : Value) (j : Nat), Only (· = bx) w3 (w3.setCell ⟨bx, j, none⟩ u) := fun u j => Only.setCell (S := (· = bx)) (p := ⟨bx, j, none⟩) (Only.refl _ _) (fun _ => rfl) u
  have hs0 := h.s0
  have hs1 := h.s1
  refine ⟨fun hp => ⟨own3 _ _, by simpa [SumBox] using blk_set hb3 0 (.int .i32 (w32 (S0 + w32 x))), hso.trans (hset _ _), ?_, ?_⟩, fun hp => ⟨own3 _ _, by simpa [SumBox] using blk_set hb3 1 (.int .i32 (w32 (S1 + w32 x))), hso.trans (hset _ _), ?_, ?_⟩⟩
  · rw [hm, addOf_app, hp, hs0, w32_add, w32_add']
    simp only [addOf, if_true]; congr 1; omega
  · rw [hm, addOf_app, hp, hs1]
    simp only [addOf]
    rw [if_neg (by decide)]; congr 1; omega
  · rw [hm, addOf_app, hp, hs0]
    simp only [addOf]
    rw [if_neg (by decide)]; congr 1; omega
  · rw [hm, addOf_app, hp, hs1, w32_add, w32_add']
    simp only [addOf, if_true]; congr 1; omega
theorem W2At.mid {wo : World} {bx : Nat} {W : Wd} {xs : List Int} {k : Nat} {v : Value} {S0 S1 : Int} {wr w3 : World} (h : W2At wo bx W xs k v S0 S1 wr) {W' : World} (hq : Quiet wr W') (hg : W'.grownBy w3 v.ownBlock) (hl : bx < wo.heap.size) :
    SumBox w3 bx S0 S1 ∧ Only (· = bx) wo w3 := by
  have hlt : ∀ j, v.ownBlock = some j → wo.heap.size ≤ j := fun j hj => (h.own.lt j hj).1
  have hO : Only (fun j => wo.heap.size ≤ j) wr w3 := (hq.mono (fun _ _ x => x.elim)).trans ((Only.refl _ W').of_grown hg (fun j hj _ => hlt j hj))
  exact ⟨hO.keep h.box (by omega), h.o.over hO (fun i hi q => by omega)⟩
theorem W2At.quiet {wo : World} {bx : Nat} {W : Wd} {xs : List Int} {k : Nat} {v : Value} {S0 S1 : Int} {wr w3 : World} (h : W2At wo bx W xs k v S0 S1 wr) (hq : Quiet wr w3) : W2At wo bx W xs k v S0 S1 w3 := by
  refine ⟨?_, h.box.quiet hq, h.o.trans (hq.mono (fun _ _ x => x.elim)), h.s0, h.s1⟩
  obtain ⟨o1, o2⟩ := h.own
  refine ⟨o1, o2.imp_right ?_⟩
  rintro ⟨g, cap, cur, e1, e2, e3, e4⟩
  exact ⟨g, cap, cur, e1, e2, hq.keep e3 (fun x => x), e4⟩
/-- Behind one task's start. -/
theorem w1_next {w0 : World} {base p bx i : Nat} {long : Int} {W : Wd} {S0 S1 : Int} {wo : World} (h : W1At w0 base p bx i long W S0 S1 wo) (hi : i < 8) (hb : w0.heap.size ≤ base) {xs : List Int} {k : Nat} (hk : k ≤ 30) (hkx : k ≤ xs.length) {v : Value} {S0' S1' : Int} {wr w' : World} (h2 : W2At wo bx W xs k v S0' S1' wr)
    (hr : TRel base p { W with tasks := W.tasks ++ [⟨mkOps 0 (xs.take k), 0⟩] } w') (ho : Only (TSide base wr) wr w') : W1At w0 base p bx (i + 1) (long + k) { W with tasks := W.tasks ++ [⟨mkOps 0 (xs.take k), 0⟩] } S0' S1' w' := by
  have hlen : (mkOps 0 (xs.take k)).length = k := by rw [mkOps_len, List.length_take]; omega
  have hq : Quiet w0 wr := h.q.over h2.o (fun j hj e => by have := h.lo; omega)
  refine ⟨hr, ⟨⟨h.set.inv.locks, h.set.inv.pipes, ⟨0, 0, h.set.words, by unfold In32; omega, by unfold In32; omega, ?_, ?_⟩, fun t ht => ?_⟩, h.set.words, ?_⟩, h2.box.side ho, side_quiet hq hb ho, h.lo, by omega, by have := h.long0; omega, by have := h.long1; omega⟩
  · show w32 (0 + restOf 0 (W.tasks ++ [_])) = S0'
    rw [restOf_app, h2.s0]; simp only [restOf]; congr 1; omega
  · show w32 (0 + restOf 1 (W.tasks ++ [_])) = S1'
    rw [restOf_app, h2.s1]; simp only [restOf]; congr 1; omega
  · rcases List.mem_append.1 ht with ht | ht
    · exact h.set.inv.ops t ht
    · obtain rfl := List.mem_singleton.1 ht
      exact ⟨mkOps_add _ _, by show (mkOps 0 (xs.take k)).length ≤ 30; omega⟩
  · show (W.tasks ++ [_]).length = i + 1
    rw [List.length_append, h.set.len]; rfl
theorem words_start {w0 : World} {base p bx i : Nat} {long : Int} {W : Wd} {S0 S1 : Int} {wo : World} (h : W1At w0 base p bx i long W S0 S1 wo) (hi : i < 8) (hb : w0.heap.size ≤ base) {xs : List Int} {k : Nat} (hk : k ≤ 30) (hkx : k ≤ xs.length) {Av : Option Addr} {cv : Nat} {S0' S1' : Int} {wr : World}
    (h2 : W2At wo bx W xs k (.slice Av k cv) S0' S1' wr) :
    Calls Try.prog 9 #[.pointer (some ⟨p, 0, none⟩), .slice Av k cv] wr fun e w' => e = .returned (.tuple #[.int .i64 (i : Int), .int .i64 0]) ∧ ∃ W', W1At w0 base p bx (i + 1) (long + k) W' S0' S1' w' := by
  have hlen : (mkOps 0 (xs.take k)).length = k := by rw [mkOps_len, List.length_take]; omega
  obtain ⟨A, c, hv, hos⟩ := own_opsl h2.own hlen
  simp only [Value.slice.injEq] at hv
  obtain ⟨rfl, _, rfl⟩ := hv
  have hr : TRel base p W wr := h.rel.only h2.o (fun j e => by
    subst e
    exact ⟨_, _, h.box, by decide⟩)
  have hs := WInv.start (S0 := 0) (S1 := 0) h.set.inv.locks h.set.inv.pipes h.set.words (by rw [h.set.len]; omega) h.set.inv.ops (l := mkOps 0 (xs.take k)) ⟨mkOps_add _ _, by omega⟩
  have := tstart hr hos.rd
  rw [hs, h.set.len] at this
  refine this.mono ?_
  rintro e w' ⟨rfl, ht, ho⟩
  exact ⟨rfl, _, w1_next h hi hb hk hkx h2 ht ho⟩
/-- All have started. -/
structure W3At (w0 : World) (base p bx i : Nat) (S0 S1 : Int) (W : Wd) (wr : World) : Prop where
  rel : TRel base p W wr
  inv : WInv W S0 S1
  len : W.tasks.length = i
  box : SumBox wr bx S0 S1
  q : Quiet w0 wr
theorem W3At.quiet {w0 : World} {base p bx i : Nat} {S0 S1 : Int} {W : Wd} {wr w' : World} (h : W3At w0 base p bx i S0 S1 W wr) (hq : Quiet wr w') : W3At w0 base p bx i S0 S1 W w' := ⟨h.rel.quiet hq, h.inv, h.len, h.box.quiet hq, h.q.trans hq⟩
theorem W1At.all {w0 : World} {base p bx i : Nat} {long : Int} {W : Wd} {S0 S1 : Int} {wr : World} (h : W1At w0 base p bx i long W S0 S1 wr) : W3At w0 base p bx i S0 S1 W wr := ⟨h.rel, h.set.inv, h.set.len, h.box, h.q⟩
theorem w3_step {w0 : World} {base p bx i : Nat} {S0 S1 : Int} {W : Wd} {wr : World} (h : W3At w0 base p bx i S0 S1 W wr) (hb : w0.heap.size ≤ base) (k : Int) :
    Calls Try.prog 10 #[.pointer (some ⟨p, 0, none⟩), .int .i64 k] wr fun e w' => ∃ s c W', e = .returned (.tuple #[.int .i64 s, .int .i64 c]) ∧ s ≠ 2 ∧ (c = 0 ∨ c = 12 ∨ c = 16) ∧ W3At w0 base p bx i S0 S1 W' w' ∧
      ∀ a : Nat, (W'.tasks[a]?).map (fun t => t.left) = if (a : Int) = k then (W.tasks[a]?).map (fun t => t.left.tail) else (W.tasks[a]?).map (fun t => t.left) := by
  obtain ⟨i1, i2, i3, i4, i5⟩ := h.inv.step k
  refine (tstep h.rel k).mono ?_
  rintro e w' ⟨rfl, ht, ho⟩
  exact ⟨_, _, _, rfl, i2, i3, ⟨ht, i1, i4.trans h.len, h.box.side ho, side_quiet h.q hb ho⟩, i5⟩
theorem W3At.done {w0 : World} {base p bx i : Nat} {S0 S1 : Int} {W : Wd} {wr : World} (h : W3At w0 base p bx i S0 S1 W wr) {k : Nat} (hl : Left W i k) : wordF W 0 = S0 ∧ wordF W 1 = S1 ∧ stuckF W = false ∧ stateF W (i : Int) = 0 := by
  have hl2 := hl
  rw [← h.len] at hl2
  exact ⟨(h.inv.done hl2.all).1, (h.inv.done hl2.all).2, h.inv.stuck, stateF_no (.inr (by rw [h.len]; omega))⟩
theorem W3At.in32 {w0 : World} {base p bx i : Nat} {S0 S1 : Int} {W : Wd} {wr : World} (h : W3At w0 base p bx i S0 S1 W wr) : In32 S0 ∧ In32 S1 := by
  obtain ⟨x0, x1, _, _, _, h0, h1⟩ := h.inv.words
  exact ⟨h0 ▸ in32_w32 _, h1 ▸ in32_w32 _⟩
end Go.Proofs.Ytgdjbmfpbihopaa
