/-
  What the reference's New lays. No conditions.
-/
import Derived.Test.YtgdjbmfpbihopaaRefStart
import Derived.Test.YtgdjbmfpbihopaaNew
import Derived.Test.YtgdjbmfpbihopaaRefStepA
namespace Go.Proofs.Ytgdjbmfpbihopaa
open Go.RowKit Go.MapKept
set_option linter.unusedVariables false
set_option linter.unusedSimpArgs false

theorem rowOf_some {g k : Nat} (h : RowOf (some ⟨g, 0, none⟩) k) : k = g := by
  obtain ⟨a, e, rfl⟩ := h
  obtain rfl := Option.some.inj e
  rfl
theorem sl_made (W : World) (e : TypeId) (z : Value) (n : Nat) (hn : n ≤ 64) : Sl (W.alloc (.cells (madeCells #[z] n) e)) e (some ⟨W.heap.size, 0, none⟩) n n (List.replicate n z) := by
  refine ⟨by simp, .inr ⟨W.heap.size, 0, madeCells #[z] n, rfl, blk_new _ _, Nat.le_refl _, ?_, by unfold maxLen; omega, fun i x hx => ?_⟩⟩
  · rw [← Array.length_toList, toList_madeCells_one]; simp
  · rw [Nat.zero_add, ← Array.getElem?_toList, toList_madeCells_one]; exact hx
theorem step_make {P : Program} (w : World) {ops : Array Oper} {o : Oper} {a : Act} {K : Act → World → Prop} {Q : Exit → Act → World → Prop} {E : Prop} (hgd : o.guard = none) (x : Operand) (t : TypeId) (ho : o.op = .makeSlice t x x)
    (e : TypeId) (i : TypeInfo) (z : Value) (bytes : Nat) (ht : P.underlying t = some (.slice e)) (hi : P.info? e = some i) (hz : i.zero = some z) (hsize : i.size = 1) (hby : i.bytes = bytes) (hb : bytes ≤ 64) (hzs : z.cells = #[z]) (n : Nat) (hn : n ≤ 64) (hx : a.eval x = .int .i64 (n : Int))
    (h : ∀ g w', Sl w' e (some ⟨g, 0, none⟩) n n (List.replicate n z) → Quiet w w' → w.heap.size ≤ g → g < w'.heap.size → K (a.put o.dst (.slice (some ⟨g, 0, none⟩) n n)) w') :
    if Region.wanted o (yielded ops a.tmps) = true then Oper.wp P o a w K Q else E := by
  have hw : Region.wanted o (yielded ops a.tmps) = true := by simp [Region.wanted, hgd]
  rw [if_pos hw]
  have hm : i.bytes * n ≤ 64 * 64 := Nat.mul_le_mul (by omega) hn
  have hm2 : ((i.bytes * n : Nat) : Int) ≤ 4096 := by omega
  rw [Int.natCast_mul] at hm2
  have hrun := run_make (P := P) w t e i z ht hi hz .i64 .i64 n n (by omega) (by omega) (by omega) (by omega)
  rw [hsize, hzs] at hrun
  simp only [Int.toNat_natCast, Nat.mul_one] at hrun
  unfold Oper.wp
  simp [execOp, ho, hx, hrun, Result.andThen]
  exact h _ _ (sl_made w e z n hn) ((Only.refl _ _).alloc _) (Nat.le_refl _) (by simp)
theorem step_build0 {P : Program} (w : World) {ops : Array Oper} {o : Oper} {a : Act} {K : Act → World → Prop} {Q : Exit → Act → World → Prop} {E : Prop} (hgd : o.guard = none) (t : TypeId) (ho : o.op = .buildSlice t 0 #[])
    (e : TypeId) (hrun : ∀ w : World, (Instr.buildSlice t 0 #[]).run P w = .ok (.slice (some ⟨w.heap.size, 0, none⟩) 0 0) (w.alloc (.cells #[] e)))
    (h : ∀ g w', w'.heap[g]? = some (.cells #[] e (0, 0)) → Quiet w w' → w.heap.size ≤ g → g < w'.heap.size → K (a.put o.dst (.slice (some ⟨g, 0, none⟩) 0 0)) w') :
    if Region.wanted o (yielded ops a.tmps) = true then Oper.wp P o a w K Q else E := by
  have hw : Region.wanted o (yielded ops a.tmps) = true := by simp [Region.wanted, hgd]
  rw [if_pos hw]
  have hr := hrun w
  unfold Oper.wp
  simp [execOp, ho, hr, Result.andThen]
  exact h _ _ (blk_new _ _) ((Only.refl _ _).alloc _) (Nat.le_refl _) (by simp)
theorem build44 (w : World) : (Instr.buildSlice 44 0 #[]).run Try.prog w = .ok (.slice (some ⟨w.heap.size, 0, none⟩) 0 0) (w.alloc (.cells #[] 3)) := by kernel_rfl
theorem Try.info44 : (Try.prog.info? 44).map (fun i => (i.zero, i.size, i.bytes)) = some (some (.slice none 0 0), 1, 24) := by kernel_rfl
theorem i64s_rep (n : Nat) : List.replicate n (Value.int .i64 0) = i64s (List.replicate n 0) := by simp [i64s]
theorem rnew_mem {w W1 : World} (hq : Quiet w W1) {g1 g3 g6 L m n c9 : Nat} {A9 : Option Addr} {l : List Int} (s1 : Sl W1 3 (some ⟨g1, 0, none⟩) L L (List.replicate L (.int .i64 0))) (s3 : Sl W1 3 (some ⟨g3, 0, none⟩) m m (List.replicate m (.int .i64 0)))
    (s6 : Sl W1 44 (some ⟨g6, 0, none⟩) n n (List.replicate n (.slice none 0 0))) (s9 : Sl W1 3 A9 n c9 (i64s l)) (b1 : w.heap.size ≤ g1) (b3 : w.heap.size ≤ g3) (b6 : w.heap.size ≤ g6) (b9 : ∀ k, RowOf A9 k → w.heap.size ≤ k)
    (ne13 : g1 ≠ g3) (n91 : ∀ k, RowOf A9 k → k ≠ g1) (n93 : ∀ k, RowOf A9 k → k ≠ g3) (hln : l.length = n) (hc : newCode (L : Int) (m : Int) l = 0) :
    RRel w.heap.size W1.heap.size (newW (L : Int) (m : Int) l) (W1.alloc (.cells #[.slice (some ⟨g1, 0, none⟩) L L, .slice (some ⟨g3, 0, none⟩) m m, .slice (some ⟨g6, 0, none⟩) n n, .slice A9 n c9, .slice none 0 0] 67)) := by
  subst hln
  rw [i64s_rep] at s1 s3
  have nn : ∀ k, ¬ RowOf none k := fun k ⟨a, e, _⟩ => by cases e
  refine ⟨⟨W1.heap.size, w.heap.size, ⟨some ⟨g1, 0, none⟩, L, List.replicate L 0⟩, ⟨some ⟨g3, 0, none⟩, m, List.replicate m 0⟩, ⟨A9, c9, l⟩, some ⟨g6, 0, none⟩, l.length, List.replicate l.length ⟨none, 0, []⟩, .slice none 0 0, []⟩, ⟨?_, fun x hx => ?_, fun i j x y hij hx hy k hk hk' => ?_, ?_, World.ownsRow_nil _ _ _ _, (fun t ht => nomatch ht), ?_, fun k hk => ?_, ?_, fun k x hx => ?_, rfl, ?_, fun j q hq2 => ?_, rfl, fit_new hc⟩, rfl, rfl⟩
  · have := blk_new W1 (.cells #[.slice (some ⟨g1, 0, none⟩) L L, .slice (some ⟨g3, 0, none⟩) m m, .slice (some ⟨g6, 0, none⟩) l.length l.length, .slice A9 l.length c9, .slice none 0 0] 67)
    simpa [rworld, RRow.v] using this
  · simp only [RMem.rows, List.mem_cons, List.mem_replicate] at hx
    rcases hx with rfl | rfl | rfl | ⟨_, rfl⟩
    · simpa using s1.alloc _
    · simpa using s3.alloc _
    · exact s9.alloc _
    · exact Sl.nil _ _
  · have key : ∀ (i : Nat) (x : RRow), (⟨some ⟨g1, 0, none⟩, L, List.replicate L 0⟩ :: ⟨some ⟨g3, 0, none⟩, m, List.replicate m 0⟩ :: ⟨A9, c9, l⟩ :: List.replicate l.length (⟨none, 0, []⟩ : RRow))[i]? = some x → ∀ k, RowOf x.A k → (i = 0 ∧ k = g1) ∨ (i = 1 ∧ k = g3) ∨ (i = 2 ∧ RowOf A9 k) := fun i x hx k hk => by
      match i, hx with
      | 0, hx => simp at hx; subst hx; exact .inl ⟨rfl, rowOf_some hk⟩
      | 1, hx => simp at hx; subst hx; exact .inr (.inl ⟨rfl, rowOf_some hk⟩)
      | 2, hx => simp at hx; subst hx; exact .inr (.inr ⟨rfl, hk⟩)
      | i + 3, hx =>
        simp only [List.getElem?_cons_succ] at hx
        have := List.mem_of_getElem? hx
        obtain ⟨_, rfl⟩ := List.mem_replicate.1 this
        exact (nn k hk).elim
    rcases key i x hx k hk with ⟨e, h1⟩ | ⟨e, h1⟩ | ⟨e, h1⟩ <;> rcases key j y hy k hk' with ⟨e', h2⟩ | ⟨e', h2⟩ | ⟨e', h2⟩
    · omega
    · omega
    · exact n91 k h2 h1
    · omega
    · omega
    · exact n93 k h2 h1
    · exact n91 k h1 h2
    · exact n93 k h1 h2
    · omega
  · have e : (List.replicate l.length (⟨none, 0, []⟩ : RRow)).map RRow.v = List.replicate l.length (.slice none 0 0) := by simp [RRow.v]
    show Sl _ 44 (some ⟨g6, 0, none⟩) (List.replicate l.length (⟨none, 0, []⟩ : RRow)).length l.length ((List.replicate l.length (⟨none, 0, []⟩ : RRow)).map RRow.v)
    rw [e, List.length_replicate]
    exact s6.alloc _
  · have := hq.size
    simp; omega
  · rcases hk with hk | ⟨x, hx, hk⟩ | hk | hk
    · rw [hk]; exact hq.size
    · simp only [RMem.rows, List.mem_cons, List.mem_replicate] at hx
      rcases hx with rfl | rfl | rfl | ⟨_, rfl⟩
      · rw [rowOf_some hk]; exact b1
      · rw [rowOf_some hk]; exact b3
      · exact b9 k hk
      · exact (nn k hk).elim
    · rw [rowOf_some hk]; exact b6
    · cases hk
  · show (L : Int) = _
    simp
  · obtain ⟨_, rfl⟩ := List.mem_replicate.1 (List.mem_of_getElem? hx)
    exact ⟨rfl, fun h e => nomatch e⟩
  · simp [newW]
  · simp only [newW, List.getElem?_map, Option.map_eq_some_iff] at hq2
    obtain ⟨x, hx, rfl⟩ := hq2
    have hj := (List.getElem?_eq_some_iff.1 hx).1
    exact ⟨⟨none, 0, []⟩, by simp [List.getElem?_replicate, hj], rfl, hx⟩
/-- How far New's last statement has come, in whatever order: which rows are made. -/
structure NSt (wr w : World) (L m n : Nat) (l : List Int) (o1 o3 o6 o7 : Option Nat) (o9 : Option (Option Addr × Nat)) : Prop where
  q : Quiet wr w
  s1 : ∀ g, o1 = some g → Sl w 3 (some ⟨g, 0, none⟩) L L (List.replicate L (.int .i64 0)) ∧ wr.heap.size ≤ g ∧ g < w.heap.size
  s3 : ∀ g, o3 = some g → Sl w 3 (some ⟨g, 0, none⟩) m m (List.replicate m (.int .i64 0)) ∧ wr.heap.size ≤ g ∧ g < w.heap.size
  s6 : ∀ g, o6 = some g → Sl w 44 (some ⟨g, 0, none⟩) n n (List.replicate n (.slice none 0 0)) ∧ wr.heap.size ≤ g ∧ g < w.heap.size
  e7 : ∀ g, o7 = some g → wr.heap.size ≤ g ∧ g < w.heap.size ∧ (o9 = none → w.heap[g]? = some (.cells #[] 3 (0, 0)))
  s9 : ∀ A c, o9 = some (A, c) → Sl w 3 A n c (i64s l) ∧ ∀ k, RowOf A k → wr.heap.size ≤ k
  d13 : ∀ g g', o1 = some g → o3 = some g' → g ≠ g'
  d17 : ∀ g g', o1 = some g → o7 = some g' → g ≠ g'
  d37 : ∀ g g', o3 = some g → o7 = some g' → g ≠ g'
  d67 : ∀ g g', o6 = some g → o7 = some g' → g ≠ g'
  d19 : ∀ g A c, o1 = some g → o9 = some (A, c) → ∀ k, RowOf A k → k ≠ g
  d39 : ∀ g A c, o3 = some g → o9 = some (A, c) → ∀ k, RowOf A k → k ≠ g
theorem NSt.start (wr w : World) (hq : Quiet wr w) (L m n : Nat) (l : List Int) : NSt wr w L m n l none none none none none :=
  ⟨hq, nofun, nofun, nofun, nofun, nofun, nofun, nofun, nofun, nofun, nofun, nofun⟩
section
variable {wr w w' : World} {L m n : Nat} {l : List Int} {o1 o3 o6 o7 : Option Nat} {o9 : Option (Option Addr × Nat)}
theorem Sl.q {e : TypeId} {A : Option Addr} {n c : Nat} {xs : List Value} (h : Sl w e A n c xs) (hq : Quiet w w') : Sl w' e A n c xs := h.only hq (fun _ _ x => x)
theorem NSt.step (h : NSt wr w L m n l o1 o3 o6 o7 o9) (hq : Quiet w w') : NSt wr w' L m n l o1 o3 o6 o7 o9 :=
  ⟨h.q.trans hq, fun g e => ⟨(h.s1 g e).1.q hq, (h.s1 g e).2.1, Nat.lt_of_lt_of_le (h.s1 g e).2.2 hq.size⟩, fun g e => ⟨(h.s3 g e).1.q hq, (h.s3 g e).2.1, Nat.lt_of_lt_of_le (h.s3 g e).2.2 hq.size⟩, fun g e => ⟨(h.s6 g e).1.q hq, (h.s6 g e).2.1, Nat.lt_of_lt_of_le (h.s6 g e).2.2 hq.size⟩,
    fun g e => ⟨(h.e7 g e).1, Nat.lt_of_lt_of_le (h.e7 g e).2.1 hq.size, fun e9 => hq.keep ((h.e7 g e).2.2 e9) (fun x => x)⟩, fun A c e => ⟨(h.s9 A c e).1.q hq, (h.s9 A c e).2⟩, h.d13, h.d17, h.d37, h.d67, h.d19, h.d39⟩
theorem NSt.far9 (h : NSt wr w L m n l o1 o3 o6 o7 o9) {g : Nat} (hg : w.heap.size ≤ g) : ∀ A c, o9 = some (A, c) → ∀ k, RowOf A k → k ≠ g := fun A c e k hk => by
  have := (h.s9 A c e).1.lt hk; omega
theorem NSt.far7 (h : NSt wr w L m n l o1 o3 o6 o7 o9) {g : Nat} (hg : w.heap.size ≤ g) : ∀ g', o7 = some g' → g ≠ g' := fun g' e => by
  have := (h.e7 g' e).2.1; omega
theorem NSt.add1 (h : NSt wr w L m n l none o3 o6 o7 o9) {g : Nat} (hs : Sl w' 3 (some ⟨g, 0, none⟩) L L (List.replicate L (.int .i64 0))) (hq : Quiet w w') (hg : w.heap.size ≤ g) (hl : g < w'.heap.size) : NSt wr w' L m n l (some g) o3 o6 o7 o9 := by
  have k := h.step hq
  refine ⟨k.q, ?_, k.s3, k.s6, k.e7, k.s9, ?_, ?_, k.d37, k.d67, ?_, k.d39⟩
  · intro g' e; obtain rfl := Option.some.inj e; exact ⟨hs, Nat.le_trans h.q.size hg, hl⟩
  · intro g1 g' e e'; obtain rfl := Option.some.inj e; have := (h.s3 g' e').2.2; omega
  · intro g1 g' e e'; obtain rfl := Option.some.inj e; exact h.far7 hg g' e'
  · intro g1 A c e e'; obtain rfl := Option.some.inj e; exact h.far9 hg A c e'
theorem NSt.add3 (h : NSt wr w L m n l o1 none o6 o7 o9) {g : Nat} (hs : Sl w' 3 (some ⟨g, 0, none⟩) m m (List.replicate m (.int .i64 0))) (hq : Quiet w w') (hg : w.heap.size ≤ g) (hl : g < w'.heap.size) : NSt wr w' L m n l o1 (some g) o6 o7 o9 := by
  have k := h.step hq
  refine ⟨k.q, k.s1, ?_, k.s6, k.e7, k.s9, ?_, k.d17, ?_, k.d67, k.d19, ?_⟩
  · intro g' e; obtain rfl := Option.some.inj e; exact ⟨hs, Nat.le_trans h.q.size hg, hl⟩
  · intro g1 g' e e'; obtain rfl := Option.some.inj e'; have := (h.s1 g1 e).2.2; omega
  · intro g1 g' e e'; obtain rfl := Option.some.inj e; exact h.far7 hg g' e'
  · intro g1 A c e e'; obtain rfl := Option.some.inj e; exact h.far9 hg A c e'
theorem NSt.add6 (h : NSt wr w L m n l o1 o3 none o7 o9) {g : Nat} (hs : Sl w' 44 (some ⟨g, 0, none⟩) n n (List.replicate n (.slice none 0 0))) (hq : Quiet w w') (hg : w.heap.size ≤ g) (hl : g < w'.heap.size) : NSt wr w' L m n l o1 o3 (some g) o7 o9 := by
  have k := h.step hq
  refine ⟨k.q, k.s1, k.s3, ?_, k.e7, k.s9, k.d13, k.d17, k.d37, ?_, k.d19, k.d39⟩
  · intro g' e; obtain rfl := Option.some.inj e; exact ⟨hs, Nat.le_trans h.q.size hg, hl⟩
  · intro g1 g' e e'; obtain rfl := Option.some.inj e; exact h.far7 hg g' e'
theorem NSt.add7 (h : NSt wr w L m n l o1 o3 o6 none none) {g : Nat} (hs : w'.heap[g]? = some (.cells #[] 3 (0, 0))) (hq : Quiet w w') (hg : w.heap.size ≤ g) (hl : g < w'.heap.size) : NSt wr w' L m n l o1 o3 o6 (some g) none := by
  have k := h.step hq
  refine ⟨k.q, k.s1, k.s3, k.s6, ?_, k.s9, k.d13, ?_, ?_, ?_, k.d19, k.d39⟩
  · intro g' e; obtain rfl := Option.some.inj e; exact ⟨Nat.le_trans h.q.size hg, hl, fun _ => hs⟩
  · intro g1 g' e e'; obtain rfl := Option.some.inj e'; have := (h.s1 g1 e).2.2; omega
  · intro g1 g' e e'; obtain rfl := Option.some.inj e'; have := (h.s3 g1 e).2.2; omega
  · intro g1 g' e e'; obtain rfl := Option.some.inj e'; have := (h.s6 g1 e).2.2; omega
theorem NSt.add9 {g7 : Nat} (h : NSt wr w L m n l o1 o3 o6 (some g7) none) {A : Option Addr} {c : Nat} (hs : Sl w' 3 A n c (i64s l)) (ho : Only (RowOf (some ⟨g7, 0, none⟩)) w w') (hr : ∀ k, RowOf A k → RowOf (some ⟨g7, 0, none⟩) k ∨ w.heap.size ≤ k) : NSt wr w' L m n l o1 o3 o6 (some g7) (some (A, c)) := by
  obtain ⟨h71, h72, _⟩ := h.e7 g7 rfl
  obtain ⟨q1, q2⟩ := fresh_app h.q h71 ho hr
  have keep : ∀ {e : TypeId} {g n c : Nat} {xs : List Value}, Sl w e (some ⟨g, 0, none⟩) n c xs → g ≠ g7 → Sl w' e (some ⟨g, 0, none⟩) n c xs := fun hs hne => hs.only ho (fun k hk q => by
    have h1 := rowOf_some hk; have h2 := rowOf_some q; omega)
  have far : ∀ {g : Nat}, g ≠ g7 → g < w.heap.size → ∀ k, RowOf A k → k ≠ g := fun hne hl k hk => by
    rcases hr k hk with q | q
    · have := rowOf_some q; omega
    · omega
  refine ⟨q1, fun g e => ⟨keep (h.s1 g e).1 (h.d17 g g7 e rfl), (h.s1 g e).2.1, Nat.lt_of_lt_of_le (h.s1 g e).2.2 ho.size⟩, fun g e => ⟨keep (h.s3 g e).1 (h.d37 g g7 e rfl), (h.s3 g e).2.1, Nat.lt_of_lt_of_le (h.s3 g e).2.2 ho.size⟩, fun g e => ⟨keep (h.s6 g e).1 (h.d67 g g7 e rfl), (h.s6 g e).2.1, Nat.lt_of_lt_of_le (h.s6 g e).2.2 ho.size⟩,
    fun g e => ⟨(h.e7 g e).1, Nat.lt_of_lt_of_le (h.e7 g e).2.1 ho.size, fun e9 => nomatch e9⟩, fun A' c' e => ?_, h.d13, h.d17, h.d37, h.d67, fun g A' c' e e' => ?_, fun g A' c' e e' => ?_⟩
  · obtain ⟨rfl, rfl⟩ := Prod.mk.inj (Option.some.inj e); exact ⟨hs, q2⟩
  · obtain ⟨rfl, rfl⟩ := Prod.mk.inj (Option.some.inj e'); exact far (h.d17 g g7 e rfl) (h.s1 g e).2.2
  · obtain ⟨rfl, rfl⟩ := Prod.mk.inj (Option.some.inj e'); exact far (h.d37 g g7 e rfl) (h.s3 g e).2.2
theorem NSt.done {w0 : World} {g1 g3 g6 g7 c9 : Nat} {A9 : Option Addr} (h : NSt wr w L m n l (some g1) (some g3) (some g6) (some g7) (some (A9, c9))) (h0 : Quiet w0 wr) (hln : l.length = n) (hc : newCode (L : Int) (m : Int) l = 0) :
    RRel w0.heap.size w.heap.size (newW (L : Int) (m : Int) l) (w.alloc (.cells #[.slice (some ⟨g1, 0, none⟩) L L, .slice (some ⟨g3, 0, none⟩) m m, .slice (some ⟨g6, 0, none⟩) n n, .slice A9 n c9, .slice none 0 0] 67)) ∧
      Quiet w0 (w.alloc (.cells #[.slice (some ⟨g1, 0, none⟩) L L, .slice (some ⟨g3, 0, none⟩) m m, .slice (some ⟨g6, 0, none⟩) n n, .slice A9 n c9, .slice none 0 0] 67)) := by
  have hz := h0.size
  obtain ⟨a1, b1, _⟩ := h.s1 g1 rfl
  obtain ⟨a3, b3, _⟩ := h.s3 g3 rfl
  obtain ⟨a6, b6, _⟩ := h.s6 g6 rfl
  obtain ⟨a9, b9⟩ := h.s9 A9 c9 rfl
  exact ⟨rnew_mem (h0.trans h.q) a1 a3 a6 a9 (by omega) (by omega) (by omega) (fun k hk => Nat.le_trans hz (b9 k hk)) (h.d13 g1 g3 rfl rfl) (h.d19 g1 A9 c9 rfl rfl) (h.d39 g3 A9 c9 rfl rfl) hln hc, (h0.trans h.q).alloc _⟩
end
section
variable {wr : World} (w : World) {L m n : Nat} {l : List Int} {o1 o3 o6 o7 : Option Nat} {o9 : Option (Option Addr × Nat)} {ops : Array Oper} {o : Oper} {a : Act} {K : Act → World → Prop} {Q : Exit → Act → World → Prop} {E : Prop}
theorem n1 (h : NSt wr w L m n l none o3 o6 o7 o9) (hL : L ≤ 64) (hgd : o.guard = none) (x : Operand) (ho : o.op = .makeSlice 44 x x) (hx : a.eval x = .int .i64 (L : Int))
    (hK : ∀ g w', NSt wr w' L m n l (some g) o3 o6 o7 o9 → K (a.put o.dst (.slice (some ⟨g, 0, none⟩) L L)) w') : if Region.wanted o (yielded ops a.tmps) = true then Oper.wp Try.prog o a w K Q else E := by
  obtain ⟨i3, h30, h31, h32, h33⟩ := info_parts Try.info3
  exact step_make w hgd x 44 ho 3 i3 (.int .i64 0) 8 Try.underlying44 h30 h31 h32 h33 (by decide) rfl L hL hx fun g w' a b c d => hK g w' (h.add1 a b c d)
theorem n3 (h : NSt wr w L m n l o1 none o6 o7 o9) (hL : m ≤ 64) (hgd : o.guard = none) (x : Operand) (ho : o.op = .makeSlice 44 x x) (hx : a.eval x = .int .i64 (m : Int))
    (hK : ∀ g w', NSt wr w' L m n l o1 (some g) o6 o7 o9 → K (a.put o.dst (.slice (some ⟨g, 0, none⟩) m m)) w') : if Region.wanted o (yielded ops a.tmps) = true then Oper.wp Try.prog o a w K Q else E := by
  obtain ⟨i3, h30, h31, h32, h33⟩ := info_parts Try.info3
  exact step_make w hgd x 44 ho 3 i3 (.int .i64 0) 8 Try.underlying44 h30 h31 h32 h33 (by decide) rfl m hL hx fun g w' a b c d => hK g w' (h.add3 a b c d)
theorem n6 (h : NSt wr w L m n l o1 o3 none o7 o9) (hL : n ≤ 64) (hgd : o.guard = none) (x : Operand) (ho : o.op = .makeSlice 50 x x) (hx : a.eval x = .int .i64 (n : Int))
    (hK : ∀ g w', NSt wr w' L m n l o1 o3 (some g) o7 o9 → K (a.put o.dst (.slice (some ⟨g, 0, none⟩) n n)) w') : if Region.wanted o (yielded ops a.tmps) = true then Oper.wp Try.prog o a w K Q else E := by
  obtain ⟨i4, h40, h41, h42, h43⟩ := info_parts Try.info44
  exact step_make w hgd x 50 ho 44 i4 (.slice none 0 0) 24 Try.underlying50 h40 h41 h42 h43 (by decide) rfl n hL hx fun g w' a b c d => hK g w' (h.add6 a b c d)
theorem n7 (h : NSt wr w L m n l o1 o3 o6 none none) (hgd : o.guard = none) (ho : o.op = .buildSlice 44 0 #[])
    (hK : ∀ g w', NSt wr w' L m n l o1 o3 o6 (some g) none → K (a.put o.dst (.slice (some ⟨g, 0, none⟩) 0 0)) w') : if Region.wanted o (yielded ops a.tmps) = true then Oper.wp Try.prog o a w K Q else E :=
  step_build0 w hgd 44 ho 3 build44 fun g w' a b c d => hK g w' (h.add7 a b c d)
theorem n9 {w0 : World} {g7 : Nat} (h : NSt wr w L m n l o1 o3 o6 (some g7) none) (h0 : Quiet w0 wr) (hn : n ≤ 16) {A : Option Addr} {c : Nat} (hln : l.length = n) (hsrc : ∀ V, Quiet w0 V → Src V A (i64s l)) (hnil : A = none → n = 0) (hgd : o.guard = none) (s x : Operand)
    (ho : o.op = .call { callee := .builtin .append, args := #[s, x], argTypes := #[44, 44] }) (hs : a.eval s = .slice (some ⟨g7, 0, none⟩) 0 0) (hx : a.eval x = .slice A n c)
    (hK : ∀ A9 c9 w', NSt wr w' L m n l o1 o3 o6 (some g7) (some (A9, c9)) → K (a.put o.dst (.slice A9 n c9)) w') : if Region.wanted o (yielded ops a.tmps) = true then Oper.wp Try.prog o a w K Q else E := by
  obtain ⟨i3, h30, h31, h32, h33⟩ := info_parts Try.info3
  refine step_append_sl w hgd s x 44 ho 3 i3 (.int .i64 0) 8 Try.underlying44 h30 h31 h32 h33 rfl (some ⟨g7, 0, none⟩) 0 0 [] hs (sl_empty ((h.e7 g7 rfl).2.2 rfl)) A n c (i64s l) hx (by rw [i64s_len, hln]) (hsrc _ (h0.trans h.q)) hnil (i64s_one _) (by unfold maxLen; omega) (by omega) ?_
  intro A9 c9 w9 s9 o9 r9
  rw [Nat.zero_add] at s9 ⊢
  rw [List.nil_append] at s9
  exact hK A9 c9 w9 (h.add9 s9 o9 r9)
end
end Go.Proofs.Ytgdjbmfpbihopaa
