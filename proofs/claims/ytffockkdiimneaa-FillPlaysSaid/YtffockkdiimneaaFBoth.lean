/-
  FillPlays: the two desks side by side: one contract a call. No conditions.
-/
import Derived.Test.YtffockkdiimneaaQRead
import Derived.Test.YtffockkdiimneaaBeginAt
import Derived.Test.YtffockkdiimneaaReadOk
import Derived.Test.YtffockkdiimneaaNone
namespace Go.Proofs.Ytffockkdiimneaa
open Go.RowKit Go.ChangeShapes Go.WideShapes Go.Deep
set_option linter.unusedVariables false
set_option linter.unusedSimpArgs false

/-! ### the argument -/
structure ActV where
  kind : Int
  id : Int
  at_ : Int
  n : Int
  name : ByteArray
  A : Option Addr
  m : Nat
  c : Nat
  l : List UInt8
  yes : Bool
def actCells (x : ActV) : List Value := [.int .i64 x.kind, .int .i64 x.id, .int .i64 x.at_, .int .i64 x.n, .string x.name, .slice x.A x.m x.c, .bool x.yes]
def ActOk (w : World) (x : ActV) : Prop := Bts w x.A x.m x.c x.l ∧ x.name.size ≤ maxLen
theorem open_act {H : Type} {enc : TypeId × Value → H} {w : World} {cs : List Value} (h : Tr enc Try.prog w 57 cs) : ∃ x : ActV, cs = actCells x ∧ ActOk w x := by
  have hl : cs.length = 7 := (tr_struct Try.underlying57 h).1
  match cs, hl with
  | [a, b, c, d, e, f, g], _ =>
    have h0 := tr_field Try.underlying57 h 0 3 0 1 rfl (by kernel_rfl)
    have h1 := tr_field Try.underlying57 h 1 3 1 1 rfl (by kernel_rfl)
    have h2 := tr_field Try.underlying57 h 2 3 2 1 rfl (by kernel_rfl)
    have h3 := tr_field Try.underlying57 h 3 3 3 1 rfl (by kernel_rfl)
    have h4 := tr_field Try.underlying57 h 4 9 4 1 rfl (by kernel_rfl)
    have h5 := tr_field Try.underlying57 h 5 22 5 1 rfl (by kernel_rfl)
    have h6 := tr_field Try.underlying57 h 6 4 6 1 rfl (by kernel_rfl)
    obtain ⟨z0, e0, _⟩ := tr_int Try.underlying3 h0
    obtain ⟨z1, e1, _⟩ := tr_int Try.underlying3 h1
    obtain ⟨z2, e2, _⟩ := tr_int Try.underlying3 h2
    obtain ⟨z3, e3, _⟩ := tr_int Try.underlying3 h3
    obtain ⟨z4, e4, w4⟩ := tr_string Try.underlying9 h4
    obtain ⟨A, m, cc, l, e5, hnc, hcm, hnl, arg⟩ := open_ints' (k := .u8) Try.underlying22 Try.underlying5 (by kernel_rfl) (v := f) h5
    obtain ⟨z6, e6⟩ := tr_bool Try.underlying4 h6
    simp at e0 e1 e2 e3 e4 e6
    subst e0 e1 e2 e3 e4 e5 e6
    exact ⟨⟨z0, z1, z2, z3, z4, A, m, cc, l.map fun z => UInt8.ofNat z.toNat, z6⟩, rfl, Bts.of_arg hnc hcm hnl arg, w4⟩
theorem open_acts {H : Type} {enc : TypeId × Value → H} {w : World} {v : Value} (h : Tr enc Try.prog w 51 [v]) :
    ∃ A n c l, v = .slice A n c ∧ n ≤ c ∧ c ≤ maxLen ∧ (A = none → n = 0 ∧ c = 0) ∧ StructsArg actCells 7 w A n l ∧ ∀ x ∈ l, ActOk w x :=
  open_structs' (size := 7) (cells := actCells) (R := ActOk) Try.underlying51 (by kernel_rfl) (by omega) (fun cs hcs => open_act hcs) h
/-! ### how large a desk grows -/
structure Small (d : Desk) (k : Nat) : Prop where
  last : d.last ≤ k
  part : ∀ e ∈ d.js, e.2.part ≤ k
theorem Small.new : Small newDesk 0 := ⟨Nat.le_refl _, fun e he => nomatch he⟩
theorem Small.mono {d : Desk} {k k' : Nat} (h : Small d k) (hk : k ≤ k') : Small d k' := ⟨Nat.le_trans h.last hk, fun e he => Nat.le_trans (h.part e he) hk⟩
theorem mem_upd {js : List (Nat × Job)} {i : Nat} {f : Job → Job} {e : Nat × Job} (h : e ∈ upd js i f) : e ∈ js ∨ ∃ e0 ∈ js, e = (e0.1, f e0.2) := by
  obtain ⟨j, hj⟩ := List.getElem?_of_mem h
  unfold upd at hj
  rw [List.getElem?_modify] at hj
  cases h0 : js[j]? with
  | none => simp [h0] at hj
  | some e0 =>
    simp [h0] at hj
    split at hj
    · exact .inr ⟨e0, List.mem_of_getElem? h0, hj.symm⟩
    · exact .inl (hj ▸ List.mem_of_getElem? h0)
theorem mem_tidy {js : List (Nat × Job)} {i : Nat} {e : Nat × Job} (h : e ∈ tidy js i) : e ∈ js := by
  unfold tidy at h
  split at h
  · exact h
  · split at h
    · exact List.mem_of_mem_eraseIdx h
    · exact h
theorem Small.begin {d : Desk} {k : Nat} (h : Small d k) (name : ByteArray) : Small (beginF d name).2.2.2 (k + 1) := by
  unfold beginF
  split
  · exact h.mono (Nat.le_succ _)
  · split
    · refine ⟨Nat.le_succ_of_le h.last, fun e he => ?_⟩
      simp only at he
      rcases mem_upd he with he | ⟨e0, h0, rfl⟩
      · exact Nat.le_succ_of_le (h.part e he)
      · exact Nat.succ_le_succ (h.part e0 h0)
    · split
      · exact h.mono (Nat.le_succ _)
      · refine ⟨Nat.succ_le_succ h.last, fun e he => ?_⟩
        rcases List.mem_append.1 he with he | he
        · exact Nat.le_succ_of_le (h.part e he)
        · obtain rfl := List.mem_singleton.1 he
          show 1 ≤ k + 1; omega
theorem Small.append {d : Desk} {k : Nat} (h : Small d k) (id : Int) (l : List UInt8) : Small (appendF d id l).2 k := by
  unfold appendF
  split
  · exact h
  · split
    · exact h
    · split
      · exact h
      · split
        · exact h
        · refine ⟨h.last, fun e he => ?_⟩
          simp only at he
          rcases mem_upd he with he | ⟨e0, h0, rfl⟩
          · exact h.part e he
          · exact h.part e0 h0
theorem Small.end_ {d : Desk} {k : Nat} (h : Small d k) (id : Int) (yes : Bool) : Small (endF d id yes).2 k := by
  unfold endF
  split
  · exact h
  · split
    · exact h
    · split
      · exact h
      · refine ⟨h.last, fun e he => ?_⟩
        rcases mem_upd (mem_tidy he) with he | ⟨e0, h0, rfl⟩
        · exact h.part e he
        · exact h.part e0 h0
theorem Small.leave {d : Desk} {k : Nat} (h : Small d k) (id : Int) : Small (leaveF d id).2 k := by
  unfold leaveF
  split
  · exact h
  · split
    · exact h
    · split
      · exact h
      · refine ⟨h.last, fun e he => ?_⟩
        rcases mem_upd (mem_tidy he) with he | ⟨e0, h0, rfl⟩
        · exact h.part e he
        · exact Nat.le_trans (Nat.sub_le _ _) (h.part e0 h0)
/-! ### the two desks -/
def FAt (w : World) (px py : Nat) (d d' : Desk) (wr : World) : Prop :=
  ∃ D M, D.p = px ∧ M.p = py ∧ DeskAt wr D d ∧ QAt wr M d' ∧ (∀ k, DOwns D k → ¬ QOwns M k) ∧ Below w.heap.size w wr ∧ (∀ k, DOwns D k → w.heap.size ≤ k) ∧ ∀ k, QOwns M k → w.heap.size ≤ k
/-- The copy of the act that a round makes. -/
def ABox (wr : World) (g : Nat) (x : ActV) : Prop := wr.heap[g]? = some (.cells #[.int .i64 x.kind, .int .i64 x.id, .int .i64 x.at_, .int .i64 x.n, .string x.name, .slice x.A x.m x.c, .bool x.yes] 57 (0, 0))
section
variable {w wr w' : World} {px py g : Nat} {d d' d2 : Desk} {x : ActV}
theorem ABox.cells (h : ABox wr g x) : wr.cell? ⟨g, 0, none⟩ = some (.int .i64 x.kind) ∧ wr.cell? ⟨g, 1, none⟩ = some (.int .i64 x.id) ∧ wr.cell? ⟨g, 2, none⟩ = some (.int .i64 x.at_) ∧ wr.cell? ⟨g, 3, none⟩ = some (.int .i64 x.n) ∧ wr.cell? ⟨g, 4, none⟩ = some (.string x.name) ∧ wr.cell? ⟨g, 5, none⟩ = some (.slice x.A x.m x.c) ∧ wr.cell? ⟨g, 6, none⟩ = some (.bool x.yes) ∧ g < wr.heap.size :=
  ⟨blk_cell h 0, blk_cell h 1, blk_cell h 2, blk_cell h 3, blk_cell h 4, blk_cell h 5, blk_cell h 6, lt_of_heap h⟩
theorem ABox.quiet (h : ABox wr g x) (hq : Quiet wr w') : ABox w' g x := hq.keep h (fun x => x)
theorem FAt.quiet (h : FAt w px py d d' wr) (hq : Quiet wr w') : FAt w px py d d' w' := by
  obtain ⟨D, M, h1, h2, h3, h4, h5, h6, h7, h8⟩ := h
  exact ⟨D, M, h1, h2, h3.quiet hq, h4.quiet hq, h5, h6.trans (hq.below h6.size (fun _ x => x.elim)), h7, h8⟩
theorem FAt.below (h : FAt w px py d d' wr) : Below w.heap.size w wr := let ⟨_, _, _, _, _, _, _, h6, _⟩ := h; h6
theorem FAt.bts (h : FAt w px py d d' wr) {A : Option Addr} {n c : Nat} {l : List UInt8} (hb : Bts w A n c l) : Bts wr A n c l := hb.only (Only.of_below h.below) (fun k hk hk' => by omega)
/-- A call of the program's. -/
theorem FAt.stepX {D D' : DMem} {M : QMem} (h1 : D.p = px) (h2 : M.p = py) (h3 : DeskAt wr D d) (h4 : QAt wr M d') (h5 : ∀ k, DOwns D k → ¬ QOwns M k) (h6 : Below w.heap.size w wr) (h7 : ∀ k, DOwns D k → w.heap.size ≤ k) (h8 : ∀ k, QOwns M k → w.heap.size ≤ k) (hn : DeskAt w' D' d2) (hs : DStep wr w' D D') (hx : ABox wr g x) :
    FAt w px py d2 d' w' ∧ ABox w' g x := by
  refine ⟨⟨D', M, hs.same.trans h1, h2, hn, h4.only hs.only (fun k hk hd => h5 k hd hk), fun k hk hq => ?_, h6.trans (hs.only.below h6.size h7), fun k hk => (hs.grow k hk).elim (h7 k) (fun q => Nat.le_trans h6.size q), h8⟩, hs.keep h3 hx (by decide) (by decide) (by decide)⟩
  rcases hs.grow k hk with q | q
  · exact h5 k q hq
  · have := h4.lt hq; omega
/-- A call of the reference's. -/
theorem FAt.stepY {D : DMem} {M M' : QMem} (h1 : D.p = px) (h2 : M.p = py) (h3 : DeskAt wr D d) (h4 : QAt wr M d') (h5 : ∀ k, DOwns D k → ¬ QOwns M k) (h6 : Below w.heap.size w wr) (h7 : ∀ k, DOwns D k → w.heap.size ≤ k) (h8 : ∀ k, QOwns M k → w.heap.size ≤ k) (hn : QAt w' M' d2) (hs : QStep wr w' M M') (hx : ABox wr g x) :
    FAt w px py d d2 w' ∧ ABox w' g x := by
  refine ⟨⟨D, M', h1, hs.same.trans h2, h3.only hs.only (fun k hk hd => h5 k hk hd), hn, fun k hk hq => ?_, h6.trans (hs.only.below h6.size h8), h7, fun k hk => (hs.grow k hk).elim (h8 k) (fun q => Nat.le_trans h6.size q)⟩, hs.only.keep hx (fun q => ?_)⟩
  · rcases hs.grow k hq with q | q
    · exact h5 k hk q
    · have := h3.lt hk; omega
  · obtain ⟨cu, e, hc, he⟩ := h4.kind q
    rcases he with rfl | rfl | rfl
    · exact blk_ne hc hx (by decide) rfl
    · exact blk_ne hc hx (by decide) rfl
    · exact blk_ne hc hx (by decide) rfl
theorem Small.lt {k : Nat} (h : Small d k) (hk : k ≤ 1000) : d.last < 4611686018427387904 ∧ ∀ e ∈ d.js, e.2.part < 4611686018427387904 := ⟨by have := h.last; omega, fun e he => by have := h.part e he; omega⟩
theorem fbegin (h : FAt w px py d d' wr) (hx : ABox wr g x) (name : ByteArray) {k : Nat} (hs : Small d k) (hk : k ≤ 1000) :
    Calls Try.prog 9 #[.pointer (some ⟨px, 0, none⟩), .string name] wr fun e w' => e = .returned (.tuple #[.int .i64 (beginF d name).1, .bool (beginF d name).2.1, .int .i64 (beginF d name).2.2.1]) ∧ FAt w px py (beginF d name).2.2.2 d' w' ∧ ABox w' g x := by
  obtain ⟨D, M, rfl, h2, h3, h4, h5, h6, h7, h8⟩ := h
  refine (begin_at h3 name (hs.lt hk).1 (hs.lt hk).2).mono ?_
  rintro e w' ⟨rfl, D', hn, hst⟩
  exact ⟨rfl, FAt.stepX rfl h2 h3 h4 h5 h6 h7 h8 hn hst hx⟩
theorem fbeginq (h : FAt w px py d d' wr) (hx : ABox wr g x) (name : ByteArray) {k : Nat} (hs : Small d' k) (hk : k ≤ 1000) :
    Calls Try.prog 17 #[.pointer (some ⟨py, 0, none⟩), .string name] wr fun e w' => e = .returned (.tuple #[.int .i64 (beginF d' name).1, .bool (beginF d' name).2.1, .int .i64 (beginF d' name).2.2.1]) ∧ FAt w px py d (beginF d' name).2.2.2 w' ∧ ABox w' g x := by
  obtain ⟨D, M, h1, rfl, h3, h4, h5, h6, h7, h8⟩ := h
  refine (qbegin h4 name (hs.lt hk).1 (hs.lt hk).2).mono ?_
  rintro e w' ⟨rfl, M', hn, hst⟩
  exact ⟨rfl, FAt.stepY h1 rfl h3 h4 h5 h6 h7 h8 hn hst hx⟩
theorem bts_src {A : Option Addr} {n c : Nat} {l : List UInt8} (hb : Bts wr A n c l) : ∀ W, Quiet wr W → Src W A (bytes l) := fun W hW => (hb.only hW (fun _ _ x => x)).toSrc
theorem fappend (h : FAt w px py d d' wr) (hx : ABox wr g x) (id : Int) {A : Option Addr} {n c : Nat} {l : List UInt8} (hb : Bts w A n c l) :
    Calls Try.prog 12 #[.pointer (some ⟨px, 0, none⟩), .int .i64 id, .slice A n c] wr fun e w' => e = .returned (.int .i64 (appendF d id l).1) ∧ FAt w px py (appendF d id l).2 d' w' ∧ ABox w' g x := by
  have hbr := h.bts hb
  obtain ⟨D, M, rfl, h2, h3, h4, h5, h6, h7, h8⟩ := h
  obtain rfl := hb.len
  refine (append_at h3 id A c l (Nat.le_trans hb.le hb.cap) (bts_src hbr) (fun e => (hb.nil e).1)).mono ?_
  rintro e w' ⟨rfl, D', hn, hst⟩
  exact ⟨rfl, FAt.stepX rfl h2 h3 h4 h5 h6 h7 h8 hn hst hx⟩
theorem fappendq (h : FAt w px py d d' wr) (hx : ABox wr g x) (id : Int) {A : Option Addr} {n c : Nat} {l : List UInt8} (hb : Bts w A n c l) :
    Calls Try.prog 18 #[.pointer (some ⟨py, 0, none⟩), .int .i64 id, .slice A n c] wr fun e w' => e = .returned (.int .i64 (appendF d' id l).1) ∧ FAt w px py d (appendF d' id l).2 w' ∧ ABox w' g x := by
  have hbr := h.bts hb
  obtain ⟨D, M, h1, rfl, h3, h4, h5, h6, h7, h8⟩ := h
  obtain rfl := hb.len
  refine (qappend h4 id A c l (Nat.le_trans hb.le hb.cap) (bts_src hbr) (fun e => (hb.nil e).1)).mono ?_
  rintro e w' ⟨rfl, M', hn, hst⟩
  exact ⟨rfl, FAt.stepY h1 rfl h3 h4 h5 h6 h7 h8 hn hst hx⟩
theorem fend (h : FAt w px py d d' wr) (hx : ABox wr g x) (id : Int) (yes : Bool) :
    Calls Try.prog 10 #[.pointer (some ⟨px, 0, none⟩), .int .i64 id, .bool yes] wr fun e w' => e = .returned (.int .i64 (endF d id yes).1) ∧ FAt w px py (endF d id yes).2 d' w' ∧ ABox w' g x := by
  obtain ⟨D, M, rfl, h2, h3, h4, h5, h6, h7, h8⟩ := h
  refine (end_at h3 id yes).mono ?_
  rintro e w' ⟨rfl, D', hn, hst⟩
  exact ⟨rfl, FAt.stepX rfl h2 h3 h4 h5 h6 h7 h8 hn hst hx⟩
theorem fendq (h : FAt w px py d d' wr) (hx : ABox wr g x) (id : Int) (yes : Bool) :
    Calls Try.prog 19 #[.pointer (some ⟨py, 0, none⟩), .int .i64 id, .bool yes] wr fun e w' => e = .returned (.int .i64 (endF d' id yes).1) ∧ FAt w px py d (endF d' id yes).2 w' ∧ ABox w' g x := by
  obtain ⟨D, M, h1, rfl, h3, h4, h5, h6, h7, h8⟩ := h
  refine (qend h4 id yes).mono ?_
  rintro e w' ⟨rfl, M', hn, hst⟩
  exact ⟨rfl, FAt.stepY h1 rfl h3 h4 h5 h6 h7 h8 hn hst hx⟩
theorem fleave (h : FAt w px py d d' wr) (hx : ABox wr g x) (id : Int) {k : Nat} (hs : Small d k) (hk : k ≤ 1000) :
    Calls Try.prog 16 #[.pointer (some ⟨px, 0, none⟩), .int .i64 id] wr fun e w' => e = .returned (.int .i64 (leaveF d id).1) ∧ FAt w px py (leaveF d id).2 d' w' ∧ ABox w' g x := by
  obtain ⟨D, M, rfl, h2, h3, h4, h5, h6, h7, h8⟩ := h
  refine (leave_at h3 id (hs.lt hk).2).mono ?_
  rintro e w' ⟨rfl, D', hn, hst⟩
  exact ⟨rfl, FAt.stepX rfl h2 h3 h4 h5 h6 h7 h8 hn hst hx⟩
theorem fleaveq (h : FAt w px py d d' wr) (hx : ABox wr g x) (id : Int) {k : Nat} (hs : Small d' k) (hk : k ≤ 1000) :
    Calls Try.prog 20 #[.pointer (some ⟨py, 0, none⟩), .int .i64 id] wr fun e w' => e = .returned (.int .i64 (leaveF d' id).1) ∧ FAt w px py d (leaveF d' id).2 w' ∧ ABox w' g x := by
  obtain ⟨D, M, h1, rfl, h3, h4, h5, h6, h7, h8⟩ := h
  refine (qleave h4 id (hs.lt hk).2).mono ?_
  rintro e w' ⟨rfl, M', hn, hst⟩
  exact ⟨rfl, FAt.stepY h1 rfl h3 h4 h5 h6 h7 h8 hn hst hx⟩
theorem sl_bts {A : Option Addr} {c : Nat} {l : List UInt8} (hs : Sl wr 5 A l.length c (bytes l)) : Bts wr A l.length c l := by
  refine ⟨rfl, hs.le, hs.capLe, fun e => ?_, fun h0 => ?_⟩
  · rcases hs.2 with ⟨_, h1, h2⟩ | ⟨_, _, _, h1, _⟩
    · exact ⟨h1, h2⟩
    · rw [e] at h1; cases h1
  · obtain ⟨b, off, e, hc⟩ := hs.src (by rw [bytes_len]; exact h0)
    obtain ⟨cur, hcur⟩ := hs.type (k := b) ⟨_, e, rfl⟩
    exact ⟨b, off, e, lt_of_heap hcur, hc⟩
/-- The reading calls. -/
theorem fread (h : FAt w px py d d' wr) (id a n : Int) :
    Calls Try.prog 14 #[.pointer (some ⟨px, 0, none⟩), .int .i64 id, .int .i64 a, .int .i64 n] wr fun e w' => ∃ A' c', e = .returned (.tuple #[.slice A' (readF d id a n).1.length c', .int .i64 (readF d id a n).2.1, .int .i64 (readF d id a n).2.2]) ∧ Bts w' A' (readF d id a n).1.length c' (readF d id a n).1 ∧ Quiet wr w' := by
  obtain ⟨D, M, rfl, h2, h3, h4, h5, h6, h7, h8⟩ := h
  refine (read_at h3 id a n).mono ?_
  rintro e w' ⟨A', c', rfl, hs, _, hq⟩
  exact ⟨A', c', rfl, sl_bts hs, hq⟩
theorem freadq (h : FAt w px py d d' wr) (id a n : Int) :
    Calls Try.prog 21 #[.pointer (some ⟨py, 0, none⟩), .int .i64 id, .int .i64 a, .int .i64 n] wr fun e w' => ∃ A' c', e = .returned (.tuple #[.slice A' (readF d' id a n).1.length c', .int .i64 (readF d' id a n).2.1, .int .i64 (readF d' id a n).2.2]) ∧ Bts w' A' (readF d' id a n).1.length c' (readF d' id a n).1 ∧ Quiet wr w' := by
  obtain ⟨D, M, h1, rfl, h3, h4, h5, h6, h7, h8⟩ := h
  refine (qread h4 id a n).mono ?_
  rintro e w' ⟨A', c', rfl, hs, hq⟩
  exact ⟨A', c', rfl, sl_bts hs, hq⟩
theorem fpart (h : FAt w px py d d' wr) (id : Int) : Calls Try.prog 13 #[.pointer (some ⟨px, 0, none⟩), .int .i64 id] wr fun e w' => e = .returned (.int .i64 (partF d id)) ∧ Quiet wr w' := by
  obtain ⟨D, M, rfl, h2, h3, _⟩ := h
  exact part_at h3 id
theorem fpartq (h : FAt w px py d d' wr) (id : Int) : Calls Try.prog 22 #[.pointer (some ⟨py, 0, none⟩), .int .i64 id] wr fun e w' => e = .returned (.int .i64 (partF d' id)) ∧ Quiet wr w' := by
  obtain ⟨D, M, h1, rfl, h3, h4, _⟩ := h
  exact qpart h4 id
theorem frunning (h : FAt w px py d d' wr) : Calls Try.prog 11 #[.pointer (some ⟨px, 0, none⟩)] wr fun e w' => e = .returned (.int .i64 (runningF d)) ∧ Quiet wr w' := by
  obtain ⟨D, M, rfl, h2, h3, _⟩ := h
  exact running_at h3
theorem frunningq (h : FAt w px py d d' wr) : Calls Try.prog 23 #[.pointer (some ⟨py, 0, none⟩)] wr fun e w' => e = .returned (.int .i64 (runningF d')) ∧ Quiet wr w' := by
  obtain ⟨D, M, h1, rfl, h3, h4, _⟩ := h
  exact qrunning h4
end
/-- Both desks new. -/
theorem fnew {w w1 : World} {D : DMem} (h : DeskAt w1 D newDesk) (hq : Quiet w w1) (hn : ∀ k, DOwns D k → w.heap.size ≤ k) : FAt w D.p w1.heap.size newDesk newDesk (w1.alloc (.cells #[.slice none 0 0, .int .i64 0] 55)) := by
  have hq2 : Quiet w1 (w1.alloc (.cells #[.slice none 0 0, .int .i64 0] 55)) := (Only.refl _ _).alloc _
  have ow : ∀ k, QOwns ⟨w1.heap.size, .slice none 0 0, []⟩ k → k = w1.heap.size := fun k hk => by
    rcases hk with hk | hk | ⟨y, hy, _⟩
    · exact hk
    · cases hk
    · cases hy
  refine ⟨D, ⟨w1.heap.size, .slice none 0 0, []⟩, rfl, rfl, h.quiet hq2, ⟨by simpa [newDesk] using blk_new w1 (.cells #[.slice none 0 0, .int .i64 0] 55), World.ownsRow_nil _ _ _ _, rfl, (fun y hy => nomatch hy), (fun i j y z _ hy => by simp at hy), by simp, (fun y hy => nomatch hy)⟩, fun k hk hk' => ?_, (hq.trans hq2).below (Nat.le_refl _) (fun _ x => x.elim), hn, fun k hk => ?_⟩
  · have := h.lt hk; have := ow k hk'; omega
  · rw [ow k hk]; exact hq.size
end Go.Proofs.Ytffockkdiimneaa
