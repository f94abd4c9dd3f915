/-
  A net of the program's beside one of the reference's. No conditions.
-/
import Derived.Test.YtdigeppbflkknaaRefTakeAt
import Derived.Test.YtdigeppbflkknaaRefOpen
namespace Go.Proofs.Ytdigeppbflkknaa
open Go.RowKit
set_option linter.unusedVariables false
set_option linter.unusedSimpArgs false

theorem NetAt.kinds {w : World} {N : NMem} {xs : List Wire} (h : NetAt w N xs) {k : Nat} (hk : NOwns N k) : ∃ cur e, w.heap[k]? = some (.cells cur e (0, 0)) ∧ (e = 26 ∨ e = 60 ∨ e = 65 ∨ e = 5) := by
  rcases hk with rfl | hk | ⟨m, hm, hk⟩
  · exact ⟨_, _, h.net, .inl rfl⟩
  · obtain ⟨cur, hc⟩ := h.row.type hk
    exact ⟨_, _, hc, .inr (.inl rfl)⟩
  · obtain ⟨i, hi, rfl⟩ := List.getElem_of_mem hm
    obtain ⟨m', x, h1, h2, h3⟩ := h.there (by rw [← h.len]; exact hi)
    rw [List.getElem?_eq_getElem hi] at h1
    obtain rfl := Option.some.inj h1
    obtain ⟨cur, e, hc, he⟩ := h3.kind hk
    exact ⟨_, _, hc, .inr (.inr he)⟩
theorem NetAt.other {w : World} {N : NMem} {xs : List Wire} (h : NetAt w N xs) {g : Nat} {cs : Array Value} {t : TypeId} (hg : w.heap[g]? = some (.cells cs t (0, 0))) (ht : t ≠ 26 ∧ t ≠ 60 ∧ t ≠ 65 ∧ t ≠ 5) : ¬ NOwns N g := fun hk => by
  obtain ⟨cur, e, hc, he⟩ := h.kinds hk
  rw [hg] at hc
  injection hc with hc
  injection hc with _ hc
  subst hc
  rcases he with he | he | he | he
  · exact ht.1 he
  · exact ht.2.1 he
  · exact ht.2.2.1 he
  · exact ht.2.2.2 he
theorem NetAt.bnd {w : World} {N : NMem} {xs : List Wire} (h : NetAt w N xs) : ∀ x ∈ xs, x.q0.length ≤ 1048576 ∧ x.q1.length ≤ 1048576 := fun x hx => by
  obtain ⟨i, hi, rfl⟩ := List.getElem_of_mem hx
  obtain ⟨m', x, h1, h2, h3⟩ := h.there hi
  rw [List.getElem?_eq_getElem hi] at h2
  obtain rfl := Option.some.inj h2
  exact h3.small
/-- A reference's net behind a step that turns none of its blocks. -/
theorem RNet.only {base : Nat} {w wr w' : World} {p : Nat} {v : Value} {ys : List (RW × Wire)} {F : Nat → Prop} (h : RNet base w wr p v ys) (ho : Only F wr w') (hlo : ∀ k, F k → w.heap.size ≤ k)
    (h1 : ∀ k cur t, wr.heap[k]? = some (.cells cur t (0, 0)) → t = 44 ∨ t = 71 → ¬ F k) (h2 : ∀ k, RB ys k → ¬ F k) : RNet base w w' p v ys := by
  refine ⟨ho.keep h.net (h1 _ _ _ h.net (.inl rfl)), ?_, h.lo, h.q.over ho (fun i hi q => by have := hlo i q; omega), fun y hy => ⟨(h.sl y hy).1.only ho (fun k hk => h2 k ⟨y, hy, .inl hk⟩), (h.sl y hy).2.only ho (fun k hk => h2 k ⟨y, hy, .inr hk⟩)⟩, h.small, h.gone⟩
  obtain ⟨o1, o2⟩ := h.own
  refine ⟨o1, o2.imp_right ?_⟩
  rintro ⟨g, cap, cur, e1, e2, e3, e4⟩
  exact ⟨g, cap, cur, e1, e2, ho.keep e3 (h1 _ _ _ e3 (.inr rfl)), e4⟩
theorem RNet.rb_lt {base : Nat} {w wr : World} {p : Nat} {v : Value} {ys : List (RW × Wire)} (h : RNet base w wr p v ys) {k : Nat} (hk : RB ys k) : k < wr.heap.size := by
  obtain ⟨y, hy, hk⟩ := hk
  rcases hk with hk | hk
  · exact (h.sl y hy).1.lt hk
  · exact (h.sl y hy).2.lt hk
structure Mid (w : World) (p q : Nat) (N : NMem) (v : Value) (ys : List (RW × Wire)) (xs : List Wire) (wr : World) : Prop where
  p : N.p = p
  net : NetAt wr N xs
  ref : RNet w.heap.size w wr q v ys
  own : ∀ k, NOwns N k → w.heap.size ≤ k
  apart : ∀ k, RB ys k → ¬ NOwns N k
  bnd : ∀ x ∈ wires ys, x.q0.length ≤ 1048576 ∧ x.q1.length ≤ 1048576
/-- The statement's own copy of an act. -/
def AtBox (w : World) (g : Nat) (K k s m : Int) (A : Option Addr) (n c : Nat) : Prop := w.heap[g]? = some (.cells #[.int .i64 K, .int .i64 k, .int .i64 s, .int .i64 m, .slice A n c] 46 (0, 0))
/-- The program's net has xs', the reference's xs. -/
def MRel (w : World) (p q : Nat) (xs' xs : List Wire) (wr : World) : Prop := ∃ N v ys, Mid w p q N v ys xs' wr ∧ wires ys = xs
theorem Mid.quiet {w wr w' : World} {p q : Nat} {N : NMem} {v : Value} {ys : List (RW × Wire)} {xs : List Wire} (h : Mid w p q N v ys xs wr) (hq : Quiet wr w') : Mid w p q N v ys xs w' :=
  ⟨h.p, h.net.quiet hq, h.ref.quiet hq, h.own, h.apart, h.bnd⟩
theorem MRel.quiet {w wr w' : World} {p q : Nat} {xs' xs : List Wire} (h : MRel w p q xs' xs wr) (hq : Quiet wr w') : MRel w p q xs' xs w' := let ⟨N, v, ys, h, e⟩ := h; ⟨N, v, ys, h.quiet hq, e⟩
theorem MRel.below {w wr : World} {p q : Nat} {xs' xs : List Wire} (h : MRel w p q xs' xs wr) : Below w.heap.size w wr := let ⟨_, _, _, h, _⟩ := h; h.ref.q.below (Nat.le_refl _) (fun _ x => x.elim)
theorem MRel.bts {w wr : World} {p q : Nat} {xs' xs : List Wire} (h : MRel w p q xs' xs wr) {A : Option Addr} {n c : Nat} {l : List UInt8} (hb : Bts w A n c l) : Bts wr A n c l := hb.only (Only.of_below h.below) (fun k hk hk' => by omega)
theorem AtBox.quiet {w w' : World} {g : Nat} {K k s m : Int} {A : Option Addr} {n c : Nat} (h : AtBox w g K k s m A n c) (ho : Quiet w w') : AtBox w' g K k s m A n c := ho.keep h (fun x => x)
/-- Behind a call of the program's. -/
theorem Mid.prog {w wr w' : World} {p q : Nat} {N N' : NMem} {v : Value} {ys : List (RW × Wire)} {xs xs' : List Wire} (h : Mid w p q N v ys xs wr) (hn : NetAt w' N' xs') (hs : NStep wr w' N N') : Mid w p q N' v ys xs' w' := by
  refine ⟨hs.same.trans h.p, hn, h.ref.only hs.only h.own (fun k cur t hc ht => ?_) (fun k hk => h.apart k hk), fun k hk => ?_, fun k hk hk' => ?_, h.bnd⟩
  · exact h.net.other hc (by rcases ht with rfl | rfl <;> decide)
  · rcases hs.grow k hk with hk | hk
    · exact h.own k hk
    · have := h.ref.q.size; omega
  · rcases hs.grow k hk' with hk' | hk'
    · exact h.apart k hk hk'
    · have := h.ref.rb_lt hk; omega
/-- Behind a call of the reference's. -/
theorem Mid.refr {w wr w' : World} {p q : Nat} {N : NMem} {v : Value} {ys : List (RW × Wire)} {xs : List Wire} (h : Mid w p q N v ys xs wr) (hp : RPost w.heap.size w wr q ys xs w') (_ : True) : MRel w p q xs xs w' := by
  obtain ⟨v', ys', r1, rfl, r3⟩ := hp
  have hn : NetAt w' N (wires ys') := h.net.only r3.only (fun k hk ⟨cur, e, hc, he⟩ => h.net.other hc (by rcases he with rfl | rfl <;> decide) hk)
  refine ⟨N, v', ys', ⟨h.p, hn, r1, h.own, fun k hk hk' => ?_, hn.bnd⟩, rfl⟩
  rcases r3.grow k hk with hk | hk
  · exact h.apart k hk hk'
  · have := h.net.lt hk'; omega
theorem AtBox.prog {w wr w' : World} {p q : Nat} {N N' : NMem} {v : Value} {ys : List (RW × Wire)} {xs : List Wire} (h : Mid w p q N v ys xs wr) (hs : NStep wr w' N N') {g : Nat} {K k s m : Int} {A : Option Addr} {n c : Nat} (hb : AtBox wr g K k s m A n c) : AtBox w' g K k s m A n c :=
  hs.only.keep hb (h.net.other hb (by decide))
theorem AtBox.refr {wr w' : World} {ys ys' : List (RW × Wire)} (hs : RStep wr w' ys ys') {g : Nat} {K k s m : Int} {A : Option Addr} {n c : Nat} (hb : AtBox wr g K k s m A n c) : AtBox w' g K k s m A n c :=
  hs.only.keep hb (fun ⟨cur, e, hc, he⟩ => by
    unfold AtBox at hb
    rcases he with rfl | rfl <;> exact blk_ne hb hc (by decide) rfl)
section
variable {w wr : World} {p q : Nat} {xs xs' : List Wire} {g : Nat} {K k0 s0 m0 : Int} {A0 : Option Addr} {n0 c0 : Nat}
theorem bopen (h : MRel w p q xs xs wr) (hx : AtBox wr g K k0 s0 m0 A0 n0 c0) :
    Calls Try.prog 7 #[.pointer (some ⟨p, 0, none⟩)] wr fun e w' => e = .returned (.tuple #[.int .i64 (openF xs).1, .int .i64 (openF xs).2.1]) ∧ MRel w p q (openF xs).2.2 xs w' ∧ AtBox w' g K k0 s0 m0 A0 n0 c0 := by
  obtain ⟨N, v, ys, h, e⟩ := h
  rw [← h.p]
  refine (open_at h.net).mono ?_
  rintro e w' ⟨rfl, N', r1, r2⟩
  exact ⟨rfl, ⟨N', v, ys, h.p.symm ▸ h.prog r1 r2, e⟩, hx.prog h r2⟩
theorem bropen (h : MRel w p q (openF xs).2.2 xs wr) (hx : AtBox wr g K k0 s0 m0 A0 n0 c0) :
    Calls Try.prog 15 #[.pointer (some ⟨q, 0, none⟩)] wr fun e w' => e = .returned (.tuple #[.int .i64 (openF xs).1, .int .i64 (openF xs).2.1]) ∧ MRel w p q (openF xs).2.2 (openF xs).2.2 w' ∧ AtBox w' g K k0 s0 m0 A0 n0 c0 := by
  obtain ⟨N, v, ys, h, rfl⟩ := h
  refine (ropen_at h.ref h.ref.q.size).mono ?_
  rintro e w' ⟨rfl, r⟩
  exact ⟨rfl, h.refr r trivial, let ⟨_, _, _, _, r3⟩ := r; hx.refr r3⟩
theorem bsend (h : MRel w p q xs xs wr) (hx : AtBox wr g K k0 s0 m0 A0 n0 c0) (k side : Int) {A : Option Addr} {n c : Nat} {l : List UInt8} (hb : Bts w A n c l) :
    Calls Try.prog 9 #[.pointer (some ⟨p, 0, none⟩), .int .i64 k, .int .i64 side, .slice A n c] wr fun e w' => e = .returned (.int .i64 (sendF xs k side l).1) ∧ MRel w p q (sendF xs k side l).2 xs w' ∧ AtBox w' g K k0 s0 m0 A0 n0 c0 := by
  have hb := h.bts hb
  obtain ⟨N, v, ys, h, e⟩ := h
  have hl := hb.len
  subst hl
  rw [← h.p]
  refine (send_at h.net k side A c l (Nat.le_trans hb.le hb.cap) (fun W hW => (hb.only hW (fun _ _ x => x)).toSrc) (fun e => (hb.nil e).1)).mono ?_
  rintro e w' ⟨rfl, N', r1, r2⟩
  exact ⟨rfl, ⟨N', v, ys, h.p.symm ▸ h.prog r1 r2, e⟩, hx.prog h r2⟩
theorem brsend (k side : Int) {A : Option Addr} {n c : Nat} {l : List UInt8} (h : MRel w p q (sendF xs k side l).2 xs wr) (hx : AtBox wr g K k0 s0 m0 A0 n0 c0) (hb : Bts w A n c l) :
    Calls Try.prog 16 #[.pointer (some ⟨q, 0, none⟩), .int .i64 k, .int .i64 side, .slice A n c] wr fun e w' => e = .returned (.int .i64 (sendF xs k side l).1) ∧ MRel w p q (sendF xs k side l).2 (sendF xs k side l).2 w' ∧ AtBox w' g K k0 s0 m0 A0 n0 c0 := by
  have hb := h.bts hb
  obtain ⟨N, v, ys, h, rfl⟩ := h
  have hl := hb.len
  subst hl
  refine (rsend_at h.ref k side h.bnd A c l (Nat.le_trans hb.le hb.cap) (fun W hW => (hb.only hW (fun _ _ x => x)).toSrc) (fun e => (hb.nil e).1)).mono ?_
  rintro e w' ⟨rfl, r⟩
  exact ⟨rfl, h.refr r trivial, let ⟨_, _, _, _, r3⟩ := r; hx.refr r3⟩
/-- The bytes that a call took. -/
theorem btake (h : MRel w p q xs xs wr) (hx : AtBox wr g K k0 s0 m0 A0 n0 c0) (k side most : Int) :
    Calls Try.prog 8 #[.pointer (some ⟨p, 0, none⟩), .int .i64 k, .int .i64 side, .int .i64 most] wr fun e w' => ∃ A c, e = .returned (.tuple #[.slice A (takeF xs k side most).2.1.length c, .int .i64 (takeF xs k side most).1]) ∧
      Sl w' 5 A (takeF xs k side most).2.1.length c (bytes (takeF xs k side most).2.1) ∧ MRel w p q (takeF xs k side most).2.2 xs w' ∧ AtBox w' g K k0 s0 m0 A0 n0 c0 := by
  obtain ⟨N, v, ys, h, e⟩ := h
  rw [← h.p]
  refine (take_at h.net k side most).mono ?_
  rintro e w' ⟨A, c, rfl, r1, r2, N', r3, r4, r5⟩
  exact ⟨A, c, rfl, r1, ⟨N', v, ys, h.p.symm ▸ h.prog r3 r4, e⟩, hx.prog h r4⟩
theorem brtake (k side most : Int) (h : MRel w p q (takeF xs k side most).2.2 xs wr) (hx : AtBox wr g K k0 s0 m0 A0 n0 c0) {A1 : Option Addr} {n1 c1 : Nat} {l1 : List Value} (hs : Sl wr 5 A1 n1 c1 l1) :
    Calls Try.prog 17 #[.pointer (some ⟨q, 0, none⟩), .int .i64 k, .int .i64 side, .int .i64 most] wr fun e w' => ∃ A c, e = .returned (.tuple #[.slice A (takeF xs k side most).2.1.length c, .int .i64 (takeF xs k side most).1]) ∧
      Bts w' A (takeF xs k side most).2.1.length c (takeF xs k side most).2.1 ∧ MRel w p q (takeF xs k side most).2.2 (takeF xs k side most).2.2 w' ∧ AtBox w' g K k0 s0 m0 A0 n0 c0 ∧ Sl w' 5 A1 n1 c1 l1 := by
  obtain ⟨N, v, ys, h, rfl⟩ := h
  refine (rtake_at h.ref k side most h.bnd).mono ?_
  rintro e w' ⟨A, c, rfl, r1, r⟩
  refine ⟨A, c, rfl, r1, h.refr r trivial, let ⟨_, _, _, _, r3⟩ := r; hx.refr r3, ?_⟩
  obtain ⟨_, _, _, _, r3⟩ := r
  refine hs.only r3.only (fun j hj ⟨cur, e, hc, he⟩ => ?_)
  obtain ⟨cu, hc2⟩ := hs.type hj
  rcases he with rfl | rfl <;> exact blk_ne hc2 hc (by decide) rfl
theorem bshut (h : MRel w p q xs xs wr) (hx : AtBox wr g K k0 s0 m0 A0 n0 c0) (k side : Int) :
    Calls Try.prog 10 #[.pointer (some ⟨p, 0, none⟩), .int .i64 k, .int .i64 side] wr fun e w' => e = .returned (.int .i64 (shutF xs k side).1) ∧ MRel w p q (shutF xs k side).2 xs w' ∧ AtBox w' g K k0 s0 m0 A0 n0 c0 := by
  obtain ⟨N, v, ys, h, e⟩ := h
  rw [← h.p]
  refine (shut_at h.net k side).mono ?_
  rintro e w' ⟨rfl, N', r1, r2⟩
  exact ⟨rfl, ⟨N', v, ys, h.p.symm ▸ h.prog r1 r2, e⟩, hx.prog h r2⟩
theorem brshut (k side : Int) (h : MRel w p q (shutF xs k side).2 xs wr) (hx : AtBox wr g K k0 s0 m0 A0 n0 c0) :
    Calls Try.prog 18 #[.pointer (some ⟨q, 0, none⟩), .int .i64 k, .int .i64 side] wr fun e w' => e = .returned (.int .i64 (shutF xs k side).1) ∧ MRel w p q (shutF xs k side).2 (shutF xs k side).2 w' ∧ AtBox w' g K k0 s0 m0 A0 n0 c0 := by
  obtain ⟨N, v, ys, h, rfl⟩ := h
  refine (rshut_at h.ref k side).mono ?_
  rintro e w' ⟨rfl, r⟩
  exact ⟨rfl, h.refr r trivial, let ⟨_, _, _, _, r3⟩ := r; hx.refr r3⟩
theorem breset (h : MRel w p q xs xs wr) (hx : AtBox wr g K k0 s0 m0 A0 n0 c0) (k : Int) :
    Calls Try.prog 11 #[.pointer (some ⟨p, 0, none⟩), .int .i64 k] wr fun e w' => e = .returned (.int .i64 (resetF xs k).1) ∧ MRel w p q (resetF xs k).2 xs w' ∧ AtBox w' g K k0 s0 m0 A0 n0 c0 := by
  obtain ⟨N, v, ys, h, e⟩ := h
  rw [← h.p]
  refine (reset_at h.net k).mono ?_
  rintro e w' ⟨rfl, N', r1, r2⟩
  exact ⟨rfl, ⟨N', v, ys, h.p.symm ▸ h.prog r1 r2, e⟩, hx.prog h r2⟩
theorem brreset (k : Int) (h : MRel w p q (resetF xs k).2 xs wr) (hx : AtBox wr g K k0 s0 m0 A0 n0 c0) :
    Calls Try.prog 19 #[.pointer (some ⟨q, 0, none⟩), .int .i64 k] wr fun e w' => e = .returned (.int .i64 (resetF xs k).1) ∧ MRel w p q (resetF xs k).2 (resetF xs k).2 w' ∧ AtBox w' g K k0 s0 m0 A0 n0 c0 := by
  obtain ⟨N, v, ys, h, rfl⟩ := h
  refine (rreset_at h.ref k).mono ?_
  rintro e w' ⟨rfl, r⟩
  exact ⟨rfl, h.refr r trivial, let ⟨_, _, _, _, r3⟩ := r; hx.refr r3⟩
theorem bwaiting (h : MRel w p q xs xs wr) (k side : Int) : Calls Try.prog 12 #[.pointer (some ⟨p, 0, none⟩), .int .i64 k, .int .i64 side] wr fun e w' => e = .returned (.int .i64 (waitingF xs k side)) ∧ Quiet wr w' := by
  obtain ⟨N, v, ys, h, e⟩ := h
  rw [← h.p]
  exact waiting_at h.net k side
theorem brwaiting (h : MRel w p q xs xs wr) (k side : Int) : Calls Try.prog 20 #[.pointer (some ⟨q, 0, none⟩), .int .i64 k, .int .i64 side] wr fun e w' => e = .returned (.int .i64 (waitingF xs k side)) ∧ Quiet wr w' := by
  obtain ⟨N, v, ys, h, rfl⟩ := h
  exact rwaiting_at h.ref k side
theorem bended (h : MRel w p q xs xs wr) (k side : Int) : Calls Try.prog 13 #[.pointer (some ⟨p, 0, none⟩), .int .i64 k, .int .i64 side] wr fun e w' => e = .returned (.bool (endedF xs k side)) ∧ Quiet wr w' := by
  obtain ⟨N, v, ys, h, e⟩ := h
  rw [← h.p]
  exact ended_at h.net k side
theorem brended (h : MRel w p q xs xs wr) (k side : Int) : Calls Try.prog 21 #[.pointer (some ⟨q, 0, none⟩), .int .i64 k, .int .i64 side] wr fun e w' => e = .returned (.bool (endedF xs k side)) ∧ Quiet wr w' := by
  obtain ⟨N, v, ys, h, rfl⟩ := h
  exact rended_at h.ref k side
end
end Go.Proofs.Ytdigeppbflkknaa
