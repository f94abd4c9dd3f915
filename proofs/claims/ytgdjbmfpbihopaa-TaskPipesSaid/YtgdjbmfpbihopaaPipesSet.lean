/-
  TaskPipes' setting up: two lists of operations grow side by side. No conditions.
-/
import Derived.Test.YtgdjbmfpbihopaaPipesMem
import Derived.Maps.AppendAt
namespace Go.Proofs.Ytgdjbmfpbihopaa
open Go.RowKit Go.MapKept
set_option linter.unusedVariables false
set_option linter.unusedSimpArgs false

structure SAt (wo : World) (l : List Int) (k : Nat) (v1 v2 : Value) (wr : World) : Prop where
  own1 : wr.ownsRow wo.heap.size 41 3 v1 k (opsF (sends (l.take k)))
  own2 : wr.ownsRow wo.heap.size 41 3 v2 k (opsF (recvs k))
  apart : ∀ b, v1.ownBlock = some b → v2.ownBlock ≠ some b
  q : Quiet wo wr
theorem s_start (wo : World) (l : List Int) : SAt wo l 0 (.slice none 0 0) (.slice none 0 0) wo := ⟨World.ownsRow_nil _ _ _ _, World.ownsRow_nil _ _ _ _, (fun b h => nomatch h), Only.refl _ _⟩
/-- Between the two appends. -/
structure SMid (wo : World) (l : List Int) (k : Nat) (v1 v2 : Value) (wr : World) : Prop where
  own1 : wr.ownsRow wo.heap.size 41 3 v1 (k + 1) (opsF (sends (l.take (k + 1))))
  own2 : wr.ownsRow wo.heap.size 41 3 v2 k (opsF (recvs k))
  apart : ∀ b, v1.ownBlock = some b → v2.ownBlock ≠ some b
  q : Quiet wo wr
theorem row_lt {w : World} {base e size n : Nat} {v : Value} {xs : List Value} (h : w.ownsRow base e size v n xs) {b : Nat} (hb : v.ownBlock = some b) : base ≤ b ∧ b < w.heap.size := h.lt b hb
theorem own_quiet {w w' : World} {base e size n : Nat} {v : Value} {xs : List Value} (h : w.ownsRow base e size v n xs) (hq : Quiet w w') : w'.ownsRow base e size v n xs := by
  obtain ⟨o1, o2⟩ := h
  refine ⟨o1, o2.imp_right ?_⟩
  rintro ⟨g, cap, cur, e1, e2, e3, e4⟩
  exact ⟨g, cap, cur, e1, e2, hq.keep e3 (fun x => x), e4⟩
theorem sends_more {l : List Int} {k : Nat} {x : Int} (h : l[k]? = some x) : opsF (sends (l.take (k + 1))) = opsF (sends (l.take k)) ++ [.int .i64 3, .int .i64 0, .int .i64 x] := by
  rw [List.take_add_one, h]
  simp only [sends, Option.toList_some, List.map_append, opsF_app]
  rfl
theorem recvs_more (k : Nat) : opsF (recvs (k + 1)) = opsF (recvs k) ++ [.int .i64 4, .int .i64 0, .int .i64 0] := by
  have : recvs (k + 1) = recvs k ++ [⟨4, 0, 0⟩] := by simp [recvs, List.replicate_succ']
  rw [this, opsF_app]; rfl
theorem SAt.mid {wo : World} {l : List Int} {k : Nat} {v1 v2 : Value} {wr W' w3 : World} (h : SAt wo l k v1 v2 wr) (hq : Quiet wr W') {x : Int} (hx : l[k]? = some x) {v' : Value}
    (hown : w3.ownsRow wo.heap.size 41 3 v' (k + 1) (opsF (sends (l.take k)) ++ [.int .i64 3, .int .i64 0, .int .i64 x])) (hg : W'.grownBy w3 v1.ownBlock) (hat : v'.ownBlock = v1.ownBlock ∨ v'.ownBlock = some W'.heap.size) : SMid wo l k v' v2 w3 := by
  have h2 := own_quiet h.own2 hq
  refine ⟨sends_more hx ▸ hown, h2.kept hg ?_, fun b hb hb2 => ?_, ?_⟩
  · by_cases e : v2.ownBlock = none
    · exact .inl e
    · refine .inr (fun q => ?_)
      cases hv : v2.ownBlock with
      | none => exact e hv
      | some b => exact h.apart b (q.symm.trans hv) hv
  · rcases hat with e | e
    · exact h.apart b (e.symm.trans hb) hb2
    · rw [e] at hb
      have := (row_lt h2 hb2).2
      have := Option.some.inj hb
      omega
  · have hO : Only (fun j => wo.heap.size ≤ j) W' w3 := (Only.refl _ W').of_grown hg (fun j hj _ => (row_lt h.own1 hj).1)
    exact (h.q.trans hq).over hO (fun i hi q => by omega)
theorem SMid.next {wo : World} {l : List Int} {k : Nat} {v1 v2 : Value} {wr W' w3 : World} (h : SMid wo l k v1 v2 wr) (hq : Quiet wr W') {v' : Value}
    (hown : w3.ownsRow wo.heap.size 41 3 v' (k + 1) (opsF (recvs k) ++ [.int .i64 4, .int .i64 0, .int .i64 0])) (hg : W'.grownBy w3 v2.ownBlock) (hat : v'.ownBlock = v2.ownBlock ∨ v'.ownBlock = some W'.heap.size) : SAt wo l (k + 1) v1 v' w3 := by
  have h1 := own_quiet h.own1 hq
  refine ⟨h1.kept hg ?_, recvs_more k ▸ hown, fun b hb hb2 => ?_, ?_⟩
  · by_cases e : v1.ownBlock = none
    · exact .inl e
    · refine .inr (fun q => ?_)
      cases hv : v1.ownBlock with
      | none => exact e hv
      | some b => exact h.apart b hv (q.symm.trans hv)
  · rcases hat with e | e
    · exact h.apart b hb (e.symm.trans hb2)
    · rw [e] at hb2
      have := (row_lt h1 hb).2
      have := Option.some.inj hb2
      omega
  · have hO : Only (fun j => wo.heap.size ≤ j) W' w3 := (Only.refl _ W').of_grown hg (fun j hj _ => (row_lt h.own2 hj).1)
    exact (h.q.trans hq).over hO (fun i hi q => by omega)
theorem sum_more {l : List Int} {k : Nat} {x : Int} (h : l[k]? = some x) : w32 (w32 (sumL (l.take k)) + w32 x) = w32 (sumL (l.take (k + 1))) := by
  rw [w32_add, w32_add', List.take_add_one, h, sumL_app]
  simp [sumL]
theorem sum_in (l : List Int) (k : Nat) : -2147483648 ≤ w32 (sumL (l.take k)) ∧ w32 (sumL (l.take k)) ≤ 2147483647 := w32_in _
/-- The two lists, read. -/
theorem SAt.read {wo : World} {l : List Int} {k : Nat} {A1 A2 : Option Addr} {c1 c2 : Nat} {wr : World} (h : SAt wo l k (.slice A1 k c1) (.slice A2 k c2) wr) (hk : k ≤ l.length) : OpSl wr A1 k c1 (sends (l.take k)) ∧ OpSl wr A2 k c2 (recvs k) := by
  obtain ⟨A, c, e, h1⟩ := own_opsl h.own1 (by simp [sends, List.length_take]; omega)
  obtain ⟨A', c', e', h2⟩ := own_opsl h.own2 (by simp [recvs])
  simp only [Value.slice.injEq] at e e'
  obtain ⟨rfl, _, rfl⟩ := e
  obtain ⟨rfl, _, rfl⟩ := e'
  exact ⟨h1, h2⟩
theorem OpSl.side {base : Nat} {w w' : World} {A : Option Addr} {n c : Nat} {l : List Op3} (h : OpSl w A n c l) (ho : Only (TSide base w) w w') : OpSl w' A n c l :=
  h.only ho (fun k cur hc q => by rcases q.2 _ _ _ hc with e | e | e | e <;> cases e)
/-- Both tasks have started; the counts lie behind. -/
theorem p_start {w0 w1 w2 : World} {base p bw bs : Nat} {size : Int} {N : List Int} (hs : 1 ≤ size ∧ size ≤ 8) (hn : N.length ≤ 40) (hr : TRel base p (pipeW size N 0 0) w1) (hbw : w1.heap[bw]? = some (.cells #[.pointer (some ⟨p, 0, none⟩)] 23 (0, 0)))
    (hbs : w1.heap[bs]? = some (.cells #[.int .i64 size] 3 (0, 0))) (hq : Quiet w0 w1) (hb : w0.heap.size ≤ base) (hw2 : w2 = (w1.alloc (.cells #[.int .i64 0] 3)).alloc (.cells #[.int .i64 0] 3)) : PAt w0 base p bw w1.heap.size (w1.heap.size + 1) bs size N 0 0 0 0 w2 := by
  subst hw2
  have hq2 : Quiet w1 ((w1.alloc (.cells #[.int .i64 0] 3)).alloc (.cells #[.int .i64 0] 3)) := ((Only.refl _ _).alloc _).alloc _
  have := hq.size
  have hl := lt_of_heap hbs
  refine ⟨hr.quiet hq2, (pipe_start (size := size) (N := N) ⟨hs.1, by omega⟩ hn).2.2.2, hq2.keep hbw (fun x => x), blk_alloc (blk_new _ _) _, ?_, hq2.keep hbs (fun x => x), hq.trans hq2, ⟨by omega, by omega, hb⟩, ⟨by omega, by omega, by omega⟩, ⟨hn, hs.2⟩⟩
  have := blk_new (w1.alloc (.cells #[.int .i64 0] 3)) (.cells #[.int .i64 0] 3)
  simpa using this
theorem p_go1 {wo wr : World} {base p : Nat} {size : Int} {l : List Int} {k : Nat} {A1 A2 : Option Addr} {c1 c2 : Nat} (hr : TRel base p (newW 0 0 [size]) wr) (hs : SAt wo l k (.slice A1 k c1) (.slice A2 k c2) wr) (hk : k ≤ l.length) (h40 : k ≤ 40) (hsz : 1 ≤ size ∧ size ≤ 8) :
    Calls Try.prog 9 #[.pointer (some ⟨p, 0, none⟩), .slice A1 k c1] wr fun e w' => e = .returned (.tuple #[.int .i64 0, .int .i64 0]) ∧ TRel base p { newW 0 0 [size] with tasks := [⟨sends (l.take k), 0⟩] } w' ∧ OpSl w' A2 k c2 (recvs k) ∧ Only (TSide base wr) wr w' := by
  have hl : (l.take k).length = k := by rw [List.length_take]; omega
  obtain ⟨_, h2, _, _⟩ := pipe_start (size := size) (N := l.take k) ⟨hsz.1, by omega⟩ (by omega)
  obtain ⟨o1, o2⟩ := hs.read hk
  have := tstart hr o1.rd
  rw [h2] at this
  refine this.mono ?_
  rintro e w' ⟨rfl, ht, ho⟩
  exact ⟨rfl, ht, o2.side ho, ho⟩
theorem p_go2 {wr : World} {base p : Nat} {size : Int} {l : List Int} {k : Nat} {A2 : Option Addr} {c2 : Nat} (hr : TRel base p { newW 0 0 [size] with tasks := [⟨sends (l.take k), 0⟩] } wr) (ho : OpSl wr A2 k c2 (recvs k)) (hk : k ≤ l.length) (h40 : k ≤ 40) (hsz : 1 ≤ size ∧ size ≤ 8) :
    Calls Try.prog 9 #[.pointer (some ⟨p, 0, none⟩), .slice A2 k c2] wr fun e w' => e = .returned (.tuple #[.int .i64 1, .int .i64 0]) ∧ TRel base p (pipeW size (l.take k) 0 0) w' ∧ Only (TSide base wr) wr w' := by
  have hl : (l.take k).length = k := by rw [List.length_take]; omega
  obtain ⟨_, _, h3, _⟩ := pipe_start (size := size) (N := l.take k) ⟨hsz.1, by omega⟩ (by omega)
  rw [hl] at h3
  have := tstart hr ho.rd
  rw [h3] at this
  exact this
end Go.Proofs.Ytgdjbmfpbihopaa
