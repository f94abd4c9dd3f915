/-
  The reference's Open. No conditions.
-/
import Derived.Test.YtdigeppbflkknaaRefShut
namespace Go.Proofs.Ytdigeppbflkknaa
open Go.RowKit
set_option linter.unusedVariables false
set_option linter.unusedSimpArgs false

theorem Try.info71 : (Try.prog.info? 71).map (fun i => (i.zero, i.size, i.bytes)) = some (some (.agg #[.slice none 0 0, .slice none 0 0, .bool false, .bool false, .bool false]), 5, 56) := by kernel_rfl
theorem rflat_app (l m : List (RW × Wire)) : rflat (l ++ m) = rflat l ++ rflat m := by simp [rflat]
def newY : RW × Wire := (⟨none, 0, none, 0⟩, newWire)
theorem news_new (W : World) : ∀ (j : Nat) (u : Value), (rcells newY)[j]? = some u → (W.alloc (.cells #[.slice none 0 0, .slice none 0 0, .bool false, .bool false, .bool false] 71)).cell? ((⟨W.heap.size, 0, none⟩ : Addr).add j) = some u := fun j u hu => by
  rw [Addr.add_lit, blk_cell (blk_new W _), Nat.zero_add]
  have e : (rcells newY) = [.slice none 0 0, .slice none 0 0, .bool false, .bool false, .bool false] := rfl
  rw [e] at hu
  simpa using hu
theorem rcells_one : ∀ u ∈ rcells newY, u.oneCell' = true := by
  intro u hu
  simp only [rcells, newY, newWire, List.mem_cons, List.not_mem_nil, or_false] at hu
  rcases hu with rfl | rfl | rfl | rfl | rfl <;> rfl
theorem open_post {base : Nat} {w wr W w3 : World} {p : Nat} {v v' : Value} {ys : List (RW × Wire)} (h : RNet base w wr p v ys) (hl : ys.length < 256) (hq : Quiet wr W)
    (hown : w3.ownsRow base 71 5 v' (ys.length + 1) (rflat ys ++ rcells newY)) (hg : W.grownBy w3 v.ownBlock) :
    RPost base w wr p ys (wires ys ++ [newWire]) (w3.setCell ⟨p, 0, none⟩ v') := by
  have h2 := h.quiet hq
  have hv : ∀ k, v.ownBlock = some k → ∃ cur, W.heap[k]? = some (.cells cur 71 (0, 0)) ∧ base ≤ k := fun k hk => by
    obtain ⟨_, ⟨e, _⟩ | ⟨g', cap', cur, h3, h4, h5, _⟩⟩ := h2.own
    · rw [e] at hk; cases hk
    · rw [h3] at hk
      obtain rfl := Option.some.inj hk
      exact ⟨cur, h5, h4⟩
  have hO : Only (fun k => ∃ cur, W.heap[k]? = some (.cells cur 71 (0, 0)) ∧ base ≤ k) W w3 := (Only.refl _ W).of_grown hg (fun k hk _ => hv k hk)
  have hp3 : w3.heap[p]? = some (.cells #[v] 44 (0, 0)) := hO.keep h2.net (fun ⟨cur, hc, _⟩ => blk_ne h2.net hc (by decide) rfl)
  have far : ∀ {A : Option Addr} {n c : Nat} {xs : List Value}, Sl W 5 A n c xs → Sl w3 5 A n c xs := fun hS => hS.only hO (fun k hk ⟨cur, hc, _⟩ => by
    obtain ⟨cu, hc2⟩ := hS.type hk
    exact blk_ne hc2 hc (by decide) rfl)
  have hset : Only (· = p) w3 (w3.setCell ⟨p, 0, none⟩ v') := Only.setCell (S := (· = p)) (Only.refl _ _) (fun _ => rfl) _
  have hpl := lt_of_heap h2.net
  refine ⟨v', ys ++ [newY], ⟨?_, ?_, h.lo, ?_, fun y hy => ?_, by simp; omega, fun y hy => ?_⟩, by simp [wires, newY], ?_, fun k hk => ?_⟩
  · have := blk_set hp3 0 v'
    simpa using this
  · have e : rflat (ys ++ [newY]) = rflat ys ++ rcells newY := by rw [rflat_app]; simp [rflat]
    rw [e, List.length_append]
    obtain ⟨o1, o2⟩ := hown
    refine ⟨o1, o2.imp_right ?_⟩
    rintro ⟨g, cap, cur, e1, e2, e3, e4⟩
    exact ⟨g, cap, cur, e1, e2, hset.keep e3 (fun q => by subst q; exact blk_ne hp3 e3 (by decide) rfl), e4⟩
  · have hbot : Only (fun k => base ≤ k ∨ k = p) wr (w3.setCell ⟨p, 0, none⟩ v') := ((hq.mono (fun _ _ x => x.elim)).trans (hO.mono fun k _ ⟨_, _, q⟩ => .inl q)).trans (hset.mono fun k _ q => .inr q)
    exact h.q.over hbot (fun i hi q => by have := h.lo; omega)
  · rcases List.mem_append.1 hy with hy | hy
    · obtain ⟨s0, s1⟩ := h2.sl y hy
      refine ⟨(far s0).only hset (fun k hk q => ?_), (far s1).only hset (fun k hk q => ?_)⟩
      · obtain ⟨cu, hc⟩ := (far s0).type hk
        subst q
        exact blk_ne hc hp3 (by decide) rfl
      · obtain ⟨cu, hc⟩ := (far s1).type hk
        subst q
        exact blk_ne hc hp3 (by decide) rfl
    · obtain rfl := List.mem_singleton.1 hy
      exact ⟨Sl.nil _ _, Sl.nil _ _⟩
  · rcases List.mem_append.1 hy with hy | hy
    · exact h.gone y hy
    · obtain rfl := List.mem_singleton.1 hy
      exact fun e => by cases e
  · have h1 : Only (RSide W) W (w3.setCell ⟨p, 0, none⟩ v') := (hO.mono fun k _ ⟨cur, hc, _⟩ => ⟨cur, 71, hc, .inr rfl⟩).trans (hset.mono fun k hk q => by subst q; exact ⟨_, 44, h2.net, .inl rfl⟩)
    refine ⟨h1.os.trans hq.os, h1.tape.trans hq.tape, h1.output.trans hq.output, Nat.le_trans hq.size h1.size, fun i hi hs => ?_⟩
    have e := hq.block i hi (fun x => x)
    exact (h1.block i (Nat.lt_of_lt_of_le hi hq.size) (fun ⟨cur, t, hc, ht⟩ => hs ⟨cur, t, e.symm.trans hc, ht⟩)).trans e
  · obtain ⟨z, hz, hk⟩ := hk
    rcases List.mem_append.1 hz with hz | hz
    · exact .inl ⟨z, hz, hk⟩
    · obtain rfl := List.mem_singleton.1 hz
      rcases hk with ⟨a, e, _⟩ | ⟨a, e, _⟩ <;> cases e
theorem open_mid {base : Nat} {w wr W w3 : World} {p n cap : Nat} {A : Option Addr} {v' : Value} {ys : List (RW × Wire)} (h : RNet base w wr p (.slice A n cap) ys) (hn : n = ys.length) (hq : Quiet wr W)
    (hown : w3.ownsRow base 71 5 v' (n + 1) (rflat ys ++ rcells newY)) (hg : W.grownBy w3 (Value.slice A n cap).ownBlock) :
    w3.cell? ⟨p, 0, none⟩ = some (.slice A n cap) ∧ w3.frozen? ⟨p, 0, none⟩ = false ∧ p < w3.heap.size ∧ ∃ A' c', v' = .slice A' (n + 1) c' := by
  subst hn
  have h2 := h.quiet hq
  have hO : Only (fun k => ∃ cur, W.heap[k]? = some (.cells cur 71 (0, 0)) ∧ base ≤ k) W w3 := (Only.refl _ W).of_grown hg (fun k hk _ => by
    obtain ⟨_, ⟨e, _⟩ | ⟨g', cap', cur, h3, h4, h5, _⟩⟩ := h2.own
    · rw [e] at hk; cases hk
    · rw [h3] at hk
      obtain rfl := Option.some.inj hk
      exact ⟨cur, h5, h4⟩)
  have hp3 : w3.heap[p]? = some (.cells #[.slice A ys.length cap] 44 (0, 0)) := hO.keep h2.net (fun ⟨cur, hc, _⟩ => blk_ne h2.net hc (by decide) rfl)
  refine ⟨blk_cell hp3 0, blk_frozen hp3 0, lt_of_heap hp3, ?_⟩
  obtain ⟨_, ⟨_, e⟩ | ⟨g', cap', cur, h3, _⟩⟩ := hown
  · omega
  · exact ⟨_, _, h3⟩
set_option maxHeartbeats 4000000 in
theorem ropen_at {base : Nat} {w wr : World} {p : Nat} {v : Value} {ys : List (RW × Wire)} (h : RNet base w wr p v ys) (hb : base ≤ wr.heap.size) :
    Calls Try.prog 15 #[.pointer (some ⟨p, 0, none⟩)] wr fun e w' => e = .returned (.tuple #[.int .i64 (openF (wires ys)).1, .int .i64 (openF (wires ys)).2.1]) ∧ RPost base w wr p ys (openF (wires ys)).2.2 w' := by
  have hl : (wires ys).length = ys.length := by simp [wires]
  have c0 := blk_cell h.net 0
  simp only [List.getElem?_toArray, List.getElem?_cons_zero] at c0
  have f0 := blk_frozen h.net 0
  have ps := lt_of_heap h.net
  have hsm := h.small
  have H := Lib.hid h
  obtain ⟨A, cap, hv, hcm⟩ := h.shape
  unfold maxLen at hcm
  unfold openF
  rw [hl]
  by_cases hf : ys.length = 256
  · rw [if_pos hf]
    have d1 : ((ys.length : Int) == 256) = true := by simp; omega
    rw [hv] at c0
    have H := Lib.hid h; clear h hv hf hl
    go_enter Try.func15, Try.ntmps15
    go_wp2
    go_ret2
    exact ⟨rfl, RPost.same H.out (by repeat (first | exact Only.refl _ _ | refine Only.drewN ?_ _ | refine Only.drew ?_))⟩
  · rw [if_neg hf]
    have d1 : ((ys.length : Int) == 256) = false := by simp; omega
    have hlt : ys.length < 256 := by omega
    obtain ⟨i0, hi0, hz0, hz1, hz2⟩ := info_parts Try.info71
    have HO := Lib.hid h.own
    have HV := Lib.hid hv
    have NW := Lib.hid (news_new wr)
    rw [hv] at c0
    rw [hv] at HO
    clear h hv hf hl
    go_enter Try.func15, Try.ntmps15
    go_wp2_with (at_builtin; refine wpList_append_own _ rfl (.tmp 14) (.tmp 16) 42 rfl base 71 i0 (.agg #[.slice none 0 0, .slice none 0 0, .bool false, .bool false, .bool false]) 5 56 Try.underlying42 hi0 hz0 hz1 hz2 rfl (by decide) _ _ _ rfl (HO.out.alloc _) ⟨wr.heap.size, 0, none⟩ 1 1 (rcells newY) rfl rfl NW.out rcells_one (by unfold maxLen; omega) (by omega) (by first | (simp; omega) | omega) ?_; intro v' w3 hown hg _; have HW := Lib.hid hown; have HG := Lib.hid hg; obtain ⟨p3, p4, p5, A', c', hv'⟩ := open_mid (HV.out ▸ H.out) rfl ((Only.refl _ _).alloc _) hown hg; subst hv'; clear hown hg)
    go_wp2
    go_ret2
    exact ⟨rfl, open_post H.out hlt ((Only.refl _ _).alloc _) HW.out (HV.out ▸ HG.out)⟩
end Go.Proofs.Ytdigeppbflkknaa
