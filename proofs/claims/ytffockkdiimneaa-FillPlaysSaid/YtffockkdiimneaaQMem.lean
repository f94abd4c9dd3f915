/-
  The reference's desk in memory: a row of fills, five cells each, the bytes of each in a row of its own. No conditions.
-/
import Derived.Test.YtffockkdiimneaaRel
import Derived.Test.YtffockkdiimneaaSome
namespace Go.Proofs.Ytffockkdiimneaa
open Go.RowKit
set_option linter.unusedVariables false
set_option linter.unusedSimpArgs false

theorem Only.over {S T : Nat → Prop} {a b c : World} (h : Only S a b) (k : Only T b c) (hT : ∀ i, i < a.heap.size → T i → S i) : Only S a c :=
  ⟨k.os.trans h.os, k.tape.trans h.tape, k.output.trans h.output, Nat.le_trans h.size k.size, fun i hi hs => (k.block i (Nat.lt_of_lt_of_le hi h.size) (fun q => hs (hT i hi q))).trans (h.block i hi hs)⟩
structure QRow where
  A : Option Addr
  c : Nat
abbrev QF := QRow × (Nat × Job)
def qcells (y : QF) : List Value := [.int .i64 (y.2.1 : Nat), .int .i64 (y.2.2.state : Nat), .int .i64 (y.2.2.part : Nat), .string y.2.2.name, .slice y.1.A y.2.2.bytes.length y.1.c]
def qflat (ys : List QF) : List Value := ys.flatMap qcells
theorem qflat_len : ∀ ys : List QF, (qflat ys).length = ys.length * 5
  | [] => rfl
  | x :: l => by
    have := qflat_len l
    simp only [qflat, List.flatMap_cons, List.length_append, List.length_cons] at this ⊢
    rw [this]
    simp [qcells]
    omega
theorem qflat_app (a b : List QF) : qflat (a ++ b) = qflat a ++ qflat b := by simp [qflat]
theorem qflat_at : ∀ {ys : List QF} {i : Nat} {y : QF}, ys[i]? = some y → ∀ j, j < 5 → (qflat ys)[i * 5 + j]? = (qcells y)[j]?
  | [], i, y, h, _, _ => by simp at h
  | x :: l, 0, y, h, j, hj => by
    simp only [List.getElem?_cons_zero, Option.some.injEq] at h
    subst h
    rw [Nat.zero_mul, Nat.zero_add]
    simp only [qflat, List.flatMap_cons]
    rw [List.getElem?_append_left (by simp [qcells]; exact hj)]
  | x :: l, i + 1, y, h, j, hj => by
    have := qflat_at (ys := l) (i := i) h j hj
    simp only [qflat, List.flatMap_cons] at this ⊢
    rw [List.getElem?_append_right (by simp [qcells]; omega), show (i + 1) * 5 + j - (qcells x).length = i * 5 + j by simp [qcells]; omega]
    exact this
theorem qflat_set : ∀ {ys : List QF} {i : Nat} {t : QF}, ys[i]? = some t → ∀ (t' : QF) (j : Nat) (v : Value), j < 5 → (qcells t).set j v = qcells t' → (qflat ys).set (i * 5 + j) v = qflat (ys.set i t')
  | [], i, t, h, _, _, _, _, _ => by simp at h
  | z :: l, 0, t, h, t', j, v, hj, e => by
    simp only [List.getElem?_cons_zero, Option.some.injEq] at h
    subst h
    rw [Nat.zero_mul, Nat.zero_add]
    simp only [qflat, List.flatMap_cons, List.set_cons_zero]
    rw [List.set_append_left _ _ (by simp [qcells]; exact hj), e]
  | z :: l, i + 1, t, h, t', j, v, hj, e => by
    have := qflat_set (ys := l) (i := i) (by simpa using h) t' j v hj e
    simp only [qflat, List.flatMap_cons, List.set_cons_succ] at this ⊢
    rw [List.set_append_right _ _ (by simp [qcells]; omega), show (i + 1) * 5 + j - (qcells z).length = i * 5 + j by simp [qcells]; omega, this]
theorem qflat_one (ys : List QF) : ∀ u ∈ qflat ys, u.oneCell' = true := by
  intro u hu
  obtain ⟨y, _, hu⟩ := List.mem_flatMap.1 hu
  simp only [qcells, List.mem_cons, List.not_mem_nil, or_false] at hu
  rcases hu with rfl | rfl | rfl | rfl | rfl <;> rfl
structure QMem where
  p : Nat
  v : Value
  ys : List QF
def QOwns (M : QMem) (k : Nat) : Prop := k = M.p ∨ M.v.ownBlock = some k ∨ ∃ y ∈ M.ys, RowOf y.1.A k
structure QAt (w : World) (M : QMem) (d : Desk) : Prop where
  blk : w.heap[M.p]? = some (.cells #[M.v, .int .i64 (d.last : Nat)] 55 (0, 0))
  own : w.ownsRow 0 73 5 M.v M.ys.length (qflat M.ys)
  js : d.js = M.ys.map (·.2)
  sl : ∀ y ∈ M.ys, Sl w 5 y.1.A y.2.2.bytes.length y.1.c (bytes y.2.2.bytes)
  apart : ∀ (i j : Nat) (y z : QF), i ≠ j → M.ys[i]? = some y → M.ys[j]? = some z → ∀ k, RowOf y.1.A k → ¬ RowOf z.1.A k
  small : M.ys.length ≤ 1024
  sb : ∀ y ∈ M.ys, y.2.2.bytes.length ≤ 1048576
structure QStep (w w' : World) (M M' : QMem) : Prop where
  same : M'.p = M.p
  only : Only (QOwns M) w w'
  grow : ∀ k, QOwns M' k → QOwns M k ∨ w.heap.size ≤ k
section
variable {w w' : World} {M : QMem} {d : Desk}
theorem row_ownQ {base e size n : Nat} {v : Value} {xs : List Value} (h : w.ownsRow base e size v n xs) {k : Nat} (hk : v.ownBlock = some k) : ∃ cur, w.heap[k]? = some (.cells cur e (0, 0)) := by
  obtain ⟨h1, ⟨rfl, _⟩ | ⟨g, cap, cur, rfl, h4, h5, h6⟩⟩ := h
  · cases hk
  · obtain rfl := Option.some.inj hk
    exact ⟨cur, h5⟩
theorem row_onlyQ {F : Nat → Prop} {base e size n : Nat} {v : Value} {xs : List Value} (h : w.ownsRow base e size v n xs) (ho : Only F w w') (hF : ∀ k, v.ownBlock = some k → ¬ F k) : w'.ownsRow base e size v n xs := by
  obtain ⟨h1, h2⟩ := h
  refine ⟨h1, h2.imp_right ?_⟩
  rintro ⟨g, cap, cur, rfl, h4, h5, h6⟩
  exact ⟨g, cap, cur, rfl, h4, ho.keep h5 (hF g rfl), h6⟩
theorem QAt.kind (h : QAt w M d) {k : Nat} (hk : QOwns M k) : ∃ cur e, w.heap[k]? = some (.cells cur e (0, 0)) ∧ (e = 55 ∨ e = 73 ∨ e = 5) := by
  rcases hk with rfl | hk | ⟨y, hy, hk⟩
  · exact ⟨_, _, h.blk, .inl rfl⟩
  · obtain ⟨cur, hc⟩ := row_ownQ h.own hk; exact ⟨_, _, hc, .inr (.inl rfl)⟩
  · obtain ⟨cur, hc⟩ := (h.sl y hy).type hk; exact ⟨_, _, hc, .inr (.inr rfl)⟩
theorem QAt.lt (h : QAt w M d) {k : Nat} (hk : QOwns M k) : k < w.heap.size := let ⟨_, _, hc, _⟩ := h.kind hk; lt_of_heap hc
theorem QAt.only {F : Nat → Prop} (h : QAt w M d) (ho : Only F w w') (hF : ∀ k, QOwns M k → ¬ F k) : QAt w' M d :=
  ⟨ho.keep h.blk (hF _ (.inl rfl)), row_onlyQ h.own ho (fun k hk => hF k (.inr (.inl hk))), h.js, fun y hy => (h.sl y hy).only ho (fun k hk => hF k (.inr (.inr ⟨y, hy, hk⟩))), h.apart, h.small, h.sb⟩
theorem QAt.quiet (h : QAt w M d) (hq : Quiet w w') : QAt w' M d := h.only hq (fun _ _ x => x)
theorem QStep.refl (M : QMem) (h : Quiet w w') : QStep w w' M M := ⟨rfl, h.mono (fun _ _ x => x.elim), fun _ hk => .inl hk⟩
theorem QStep.trans {w2 : World} {M' M2 : QMem} (h : QStep w w' M M') (k : QStep w' w2 M' M2) : QStep w w2 M M2 := by
  refine ⟨k.same.trans h.same, ⟨k.only.os.trans h.only.os, k.only.tape.trans h.only.tape, k.only.output.trans h.only.output, Nat.le_trans h.only.size k.only.size, fun i hi hs => ?_⟩, fun i hi => ?_⟩
  · exact (k.only.block i (Nat.lt_of_lt_of_le hi h.only.size) (fun q => (h.grow i q).elim hs (fun q => by omega))).trans (h.only.block i hi hs)
  · rcases k.grow i hi with q | q
    · exact h.grow i q
    · exact .inr (Nat.le_trans h.only.size q)
theorem QStep.quiet {w2 : World} {M' : QMem} (h : QStep w w' M M') (hq : Quiet w' w2) : QStep w w2 M M' := h.trans (QStep.refl M' hq)
theorem QStep.after {w2 : World} {M' : QMem} (hq : Quiet w w') (h : QStep w' w2 M M') : QStep w w2 M M' := (QStep.refl M hq).trans h
theorem QAt.len (h : QAt w M d) : d.js.length = M.ys.length := by rw [h.js, List.length_map]
theorem QAt.job (h : QAt w M d) {i : Nat} {y : QF} (hy : M.ys[i]? = some y) : d.js[i]? = some y.2 := by rw [h.js, List.getElem?_map, hy]; rfl
theorem QAt.there (h : QAt w M d) {i : Nat} {e : Nat × Job} (he : d.js[i]? = some e) : ∃ y, M.ys[i]? = some y ∧ y.2 = e := by
  rw [h.js, List.getElem?_map, Option.map_eq_some_iff] at he
  exact he
theorem QAt.shape (h : QAt w M d) : ∃ A cap, M.v = .slice A M.ys.length cap ∧ M.ys.length ≤ cap ∧ cap ≤ maxLen := by
  obtain ⟨h1, ⟨h2, h3⟩ | ⟨g, cap, cur, h3, h4, h5, h6, h7, h8, h9⟩⟩ := h.own
  · exact ⟨none, 0, by rw [h2, h3], by omega, by unfold maxLen; omega⟩
  · exact ⟨_, cap, h3, h6, h7⟩
theorem QAt.head (h : QAt w M d) : w.cell? ⟨M.p, 0, none⟩ = some M.v ∧ w.cell? ⟨M.p, 1, none⟩ = some (.int .i64 (d.last : Nat)) ∧ M.p < w.heap.size := ⟨blk_cell h.blk 0, blk_cell h.blk 1, lt_of_heap h.blk⟩
theorem QAt.cells (h : QAt w M d) {i : Nat} {y : QF} (hy : M.ys[i]? = some y) : ∃ g cap, M.v = .slice (some ⟨g, 0, none⟩) M.ys.length cap ∧ M.ys.length ≤ cap ∧ cap ≤ maxLen ∧ g < w.heap.size ∧ (∃ cur, w.heap[g]? = some (.cells cur 73 (0, 0))) ∧ ∀ j, j < 5 → w.cell? ⟨g, i * 5 + j, none⟩ = (qcells y)[j]? := by
  have hi : i < M.ys.length := (List.getElem?_eq_some_iff.1 hy).1
  obtain ⟨h1, ⟨_, h2⟩ | ⟨g, cap, cur, h3, h4, h5, h6, h7, h8, h9⟩⟩ := h.own
  · omega
  · refine ⟨g, cap, h3, h6, h7, lt_of_heap h5, ⟨cur, h5⟩, fun j hj => ?_⟩
    rw [blk_cell h5, ← qflat_at hy j hj, ← h9, List.getElem?_take, if_pos (by omega), Array.getElem?_toList]
theorem qflat_own {base g n cap : Nat} {ys ys' : List QF} {j : Nat} {u : Value} (h : w.ownsRow base 73 5 (.slice (some ⟨g, 0, none⟩) n cap) ys.length (qflat ys)) (hj : j < ys.length * 5) (he : (qflat ys).set j u = qflat ys') (hl : ys'.length = ys.length) :
    (w.setCell ⟨g, j, none⟩ u).ownsRow base 73 5 (.slice (some ⟨g, 0, none⟩) n cap) ys'.length (qflat ys') := by
  obtain ⟨h1, ⟨h2, _⟩ | ⟨g', cap', cur, h3, h4, h5, h6, h7, h8, h9⟩⟩ := h
  · cases h2
  · simp only [Value.slice.injEq, Option.some.injEq, Addr.mk.injEq] at h3
    obtain ⟨⟨rfl, _⟩, rfl, rfl⟩ := h3
    rw [hl]
    refine ⟨by rw [qflat_len, hl], .inr ⟨g, cap, _, rfl, h4, blk_set h5 j u, h6, h7, by simpa using h8, ?_⟩⟩
    rw [← he, ← h9, Array.toList_setIfInBounds, List.take_set]
/-- One cell of a fill turned; if it is the bytes' cell, their row may have turned ahead. -/
theorem QAt.put (h : QAt w M d) {i : Nat} {y : QF} (hy : M.ys[i]? = some y) {g cap : Nat} (hv : M.v = .slice (some ⟨g, 0, none⟩) M.ys.length cap) {w1 : World} (ho1 : Only (RowOf y.1.A) w w1) (y' : QF) (j : Nat) (u : Value) (hj : j < 5) (he : (qcells y).set j u = qcells y')
    (hs : Sl w1 5 y'.1.A y'.2.2.bytes.length y'.1.c (bytes y'.2.2.bytes)) (hr : ∀ k, RowOf y'.1.A k → RowOf y.1.A k ∨ w.heap.size ≤ k) (hb : y'.2.2.bytes.length ≤ 1048576) :
    QAt (w1.setCell ⟨g, i * 5 + j, none⟩ u) { M with ys := M.ys.set i y' } { d with js := d.js.set i y'.2 } ∧ QStep w (w1.setCell ⟨g, i * 5 + j, none⟩ u) M { M with ys := M.ys.set i y' } := by
  have hi := (List.getElem?_eq_some_iff.1 hy).1
  have hym := List.mem_of_getElem? hy
  obtain ⟨cur, hg⟩ := row_ownQ h.own (k := g) (by rw [hv]; rfl)
  have hset : Only (· = g) w1 (w1.setCell ⟨g, i * 5 + j, none⟩ u) := Only.setCell (S := (· = g)) (p := ⟨g, i * 5 + j, none⟩) (Only.refl _ _) (fun _ => rfl) u
  have ho : Only (fun k => RowOf y.1.A k ∨ k = g) w (w1.setCell ⟨g, i * 5 + j, none⟩ u) := (ho1.mono fun k _ q => .inl q).trans (hset.mono fun k _ q => .inr q)
  have ne : ∀ {k : Nat} {cu : Array Value} {t : TypeId}, w.heap[k]? = some (.cells cu t (0, 0)) → t ≠ 5 → t ≠ 73 → ¬ (RowOf y.1.A k ∨ k = g) := fun hc h3 h44 q => by
    rcases q with q | rfl
    · obtain ⟨cu2, hc2⟩ := (h.sl y hym).type q; exact blk_ne hc hc2 h3 rfl
    · exact blk_ne hc hg h44 rfl
  have hng : ¬ RowOf y.1.A g := fun q => by obtain ⟨cu2, hc2⟩ := (h.sl y hym).type q; exact blk_ne hc2 hg (by decide) rfl
  have own1 : w1.ownsRow 0 73 5 M.v M.ys.length (qflat M.ys) := row_onlyQ h.own ho1 (fun k hk q => by rw [hv] at hk; obtain rfl := Option.some.inj hk; exact hng q)
  have hg1 := ho1.keep hg hng
  have hs2 : Sl (w1.setCell ⟨g, i * 5 + j, none⟩ u) 5 y'.1.A y'.2.2.bytes.length y'.1.c (bytes y'.2.2.bytes) := hs.only hset (fun k hk q => by
    obtain ⟨cu, hc⟩ := hs.type hk
    subst q
    exact blk_ne hc hg1 (by decide) rfl)
  have hother : ∀ (a : Nat) (z : QF), i ≠ a → M.ys[a]? = some z → ∀ k, RowOf z.1.A k → ¬ RowOf y'.1.A k := fun a z hia hz k hk hk' => by
    rcases hr k hk' with q | q
    · exact h.apart a i z y (fun e => hia e.symm) hz hy k hk q
    · have := (h.sl z (List.mem_of_getElem? hz)).lt hk; omega
  refine ⟨⟨ho.keep h.blk (ne h.blk (by decide) (by decide)), ?_, ?_, fun z hz => ?_, fun a b z z' hab hz hz' k hk hk' => ?_, by simpa using h.small, fun z hz => ?_⟩, rfl, ho.mono fun k _ q => ?_, fun k hk => ?_⟩
  · show (w1.setCell ⟨g, i * 5 + j, none⟩ u).ownsRow 0 73 5 M.v _ _
    rw [hv] at own1 ⊢
    exact qflat_own own1 (by omega) (qflat_set hy y' j u hj he) (by simp)
  · show d.js.set i y'.2 = _
    rw [h.js, List.map_set]
  · obtain ⟨a, ha⟩ := List.getElem?_of_mem hz
    rw [List.getElem?_set] at ha
    by_cases e : i = a
    · subst e
      rw [if_pos rfl, if_pos hi] at ha
      obtain rfl := Option.some.inj ha; exact hs2
    · rw [if_neg e] at ha
      refine (h.sl z (List.mem_of_getElem? ha)).only ho (fun k hk q => ?_)
      rcases q with q | rfl
      · exact h.apart a i z y (fun e' => e e'.symm) ha hy k hk q
      · obtain ⟨cu, hc⟩ := (h.sl z (List.mem_of_getElem? ha)).type hk
        exact blk_ne hc hg (by decide) rfl
  · simp only [List.getElem?_set] at hz hz'
    by_cases ea : i = a
    · rw [if_pos ea, if_pos hi] at hz
      rw [if_neg (by omega)] at hz'
      obtain rfl := Option.some.inj hz
      exact hother b z' (by omega) hz' k hk' hk
    · rw [if_neg ea] at hz
      by_cases eb : i = b
      · rw [if_pos eb, if_pos hi] at hz'
        obtain rfl := Option.some.inj hz'
        exact hother a z ea hz k hk hk'
      · rw [if_neg eb] at hz'
        exact h.apart a b z z' hab hz hz' k hk hk'
  · rcases List.mem_or_eq_of_mem_set hz with hz | rfl
    · exact h.sb z hz
    · exact hb
  · rcases q with q | rfl
    · exact .inr (.inr ⟨y, hym, q⟩)
    · exact .inr (.inl (by rw [hv]; rfl))
  · rcases hk with hk | hk | ⟨z, hz, hk⟩
    · exact .inl (.inl hk)
    · exact .inl (.inr (.inl hk))
    · rcases List.mem_or_eq_of_mem_set hz with hz | rfl
      · exact .inl (.inr (.inr ⟨z, hz, hk⟩))
      · rcases hr k hk with q | q
        · exact .inl (.inr (.inr ⟨y, hym, q⟩))
        · exact .inr q
/-- The same, where the bytes stay. -/
theorem QAt.put0 (h : QAt w M d) {i : Nat} {y : QF} (hy : M.ys[i]? = some y) {g cap : Nat} (hv : M.v = .slice (some ⟨g, 0, none⟩) M.ys.length cap) (jb : Job) (j : Nat) (u : Value) (hj : j < 5) (hbb : jb.bytes = y.2.2.bytes) (he : (qcells y).set j u = qcells (y.1, (y.2.1, jb))) :
    QAt (w.setCell ⟨g, i * 5 + j, none⟩ u) { M with ys := M.ys.set i (y.1, (y.2.1, jb)) } { d with js := d.js.set i (y.2.1, jb) } ∧ QStep w (w.setCell ⟨g, i * 5 + j, none⟩ u) M { M with ys := M.ys.set i (y.1, (y.2.1, jb)) } :=
  h.put hy hv (Only.refl _ _) (y.1, (y.2.1, jb)) j u hj he (by simp only [hbb]; exact h.sl y (List.mem_of_getElem? hy)) (fun k hk => .inl hk) (by simp only [hbb]; exact h.sb y (List.mem_of_getElem? hy))
/-- The row of fills is another one: the desk's cell turns with it. -/
theorem QAt.row (h : QAt w M d) {w1 : World} {v' : Value} {ys' : List QF} {last' : Nat} (hq : Quiet w w1) {F : Nat → Prop} {w3 : World} (hF : ∀ k, F k → M.v.ownBlock = some k ∨ w.heap.size ≤ k) (hg : Only F w1 w3) (hown : w3.ownsRow 0 73 5 v' ys'.length (qflat ys')) (hvv : ∀ k, v'.ownBlock = some k → M.v.ownBlock = some k ∨ w.heap.size ≤ k)
    (hys : ∀ y ∈ ys', y ∈ M.ys ∨ (y.1.A = none ∧ y.2.2.bytes = [] ∧ y.1.c = 0)) (hap : ∀ (i j : Nat) (y z : QF), i ≠ j → ys'[i]? = some y → ys'[j]? = some z → ∀ k, RowOf y.1.A k → ¬ RowOf z.1.A k) (hsm : ys'.length ≤ 1024) (hl : last' = d.last) :
    QAt (w3.setCell ⟨M.p, 0, none⟩ v') { M with v := v', ys := ys' } ⟨ys'.map (·.2), last'⟩ ∧ QStep w (w3.setCell ⟨M.p, 0, none⟩ v') M { M with v := v', ys := ys' } := by
  subst hl
  have h1 := h.quiet hq
  have nr : ∀ {k : Nat} {cu : Array Value} {t : TypeId}, w1.heap[k]? = some (.cells cu t (0, 0)) → k < w.heap.size → t ≠ 73 → ¬ F k := fun hc hlt ht q => by
    rcases hF _ q with q | q
    · obtain ⟨cu2, hc2⟩ := row_ownQ h1.own q; exact blk_ne hc hc2 ht rfl
    · omega
  have hp3 := hg.keep h1.blk (nr h1.blk (lt_of_heap h.blk) (by decide))
  have hset : Only (· = M.p) w3 (w3.setCell ⟨M.p, 0, none⟩ v') := Only.setCell (S := (· = M.p)) (p := ⟨M.p, 0, none⟩) (Only.refl _ _) (fun _ => rfl) _
  refine ⟨⟨?_, row_onlyQ hown hset (fun k hk q => ?_), rfl, fun y hy => ?_, hap, hsm, fun y hy => ?_⟩, rfl, ?_, fun k hk => ?_⟩
  · have := blk_set hp3 0 v'
    simpa using this
  · obtain ⟨cu, hc⟩ := row_ownQ hown hk; subst q; exact blk_ne hc hp3 (by decide) rfl
  · rcases hys y hy with hy | ⟨e1, e2, e3⟩
    · have s1 := h1.sl y hy
      refine (s1.only hg (fun k hk => ?_)).only hset (fun k hk q => ?_)
      · obtain ⟨cu, hc⟩ := s1.type hk
        exact nr hc ((h.sl y hy).lt hk) (by decide)
      · obtain ⟨cu, hc⟩ := s1.type hk
        subst q
        exact blk_ne hc h1.blk (by decide) rfl
    · rw [e1, e2, e3]; exact Sl.nil _ _
  · rcases hys y hy with hy | ⟨_, e2, _⟩
    · exact h.sb y hy
    · rw [e2]; simp
  · refine Only.over (S := QOwns M) (T := fun k => F k ∨ k = M.p) (hq.mono (fun _ _ x => x.elim)) ((hg.mono fun k _ q => .inl q).trans (hset.mono fun k _ q => .inr q)) (fun i hi q => ?_)
    rcases q with q | rfl
    · rcases hF i q with q | q
      · exact .inr (.inl q)
      · omega
    · exact .inl rfl
  · rcases hk with hk | hk | ⟨y, hy, hk⟩
    · exact .inl (.inl hk)
    · rcases hvv k hk with q | q
      · exact .inl (.inr (.inl q))
      · exact .inr q
    · rcases hys y hy with hy | ⟨e1, _⟩
      · exact .inl (.inr (.inr ⟨y, hy, hk⟩))
      · rw [e1] at hk; obtain ⟨a, e, _⟩ := hk; cases e
theorem QAt.setLast (h : QAt w M d) (n : Nat) : QAt (w.setCell ⟨M.p, 1, none⟩ (.int .i64 (n : Nat))) M ⟨d.js, n⟩ ∧ QStep w (w.setCell ⟨M.p, 1, none⟩ (.int .i64 (n : Nat))) M M := by
  have ho : Only (· = M.p) w (w.setCell ⟨M.p, 1, none⟩ (.int .i64 (n : Nat))) := Only.setCell (S := (· = M.p)) (p := ⟨M.p, 1, none⟩) (Only.refl _ _) (fun _ => rfl) _
  refine ⟨⟨by simpa using blk_set h.blk 1 (.int .i64 (n : Nat)), row_onlyQ h.own ho (fun k hk q => ?_), h.js, fun y hy => (h.sl y hy).only ho (fun k hk q => ?_), h.apart, h.small, h.sb⟩, rfl, ho.mono (fun k _ q => .inl q), fun k hk => .inl hk⟩
  · obtain ⟨cu, hc⟩ := row_ownQ h.own hk; subst q; exact blk_ne hc h.blk (by decide) rfl
  · obtain ⟨cu, hc⟩ := (h.sl y hy).type hk; subst q; exact blk_ne hc h.blk (by decide) rfl
end
end Go.Proofs.Ytffockkdiimneaa
