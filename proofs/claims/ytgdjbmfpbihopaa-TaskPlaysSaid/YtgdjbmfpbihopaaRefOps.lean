/-
  A task's operations for the reference. No conditions.
-/
import Derived.Test.YtgdjbmfpbihopaaRefTurn
namespace Go.Proofs.Ytgdjbmfpbihopaa
open Go.RowKit Go.MapKept
set_option linter.unusedVariables false
set_option linter.unusedSimpArgs false

theorem Try.info78 : (Try.prog.info? 78).map (fun i => (i.zero, i.size, i.bytes)) = some (some (.agg #[.int .i64 0, .int .i64 0, .int .i64 0]), 3, 24) := by kernel_rfl
theorem RopSl.nil (w : World) : RopSl w none 0 0 [] := ⟨rfl, Nat.le_refl _, by unfold maxLen; omega, fun _ => ⟨rfl, rfl⟩, fun a h => by cases h⟩
theorem own_ropsl {w : World} {base n : Nat} {v : Value} {l : List Op3} (h : w.ownsRow base 78 3 v n (opsF l)) (hl : l.length = n) : ∃ A c, v = .slice A n c ∧ RopSl w A n c l := by
  obtain ⟨h1, ⟨rfl, h2⟩ | ⟨g, cap, cur, rfl, h4, h5, h6, h7, h8, h9⟩⟩ := h
  · subst h2
    have : l = [] := List.eq_nil_of_length_eq_zero hl
    subst this
    exact ⟨none, 0, rfl, RopSl.nil w⟩
  · refine ⟨some ⟨g, 0, none⟩, cap, rfl, hl, h6, h7, (fun e => nomatch e), fun a ha => ?_⟩
    obtain rfl := Option.some.inj ha
    refine ⟨g, 0, cur, rfl, h5, fun i o ho j hj => ?_⟩
    have hi := (List.getElem?_eq_some_iff.1 ho).1
    rw [Nat.zero_add, ← opsF_at ho j hj, ← h9, List.getElem?_take, if_pos (by omega), Array.getElem?_toList]
/-- What has been laid so far. -/
structure RGat (wo : World) (l : List Op3) (v : Value) (wr : World) : Prop where
  own : wr.ownsRow wo.heap.size 78 3 v l.length (opsF l)
  q : Quiet wo wr
theorem RGat.next {wo : World} {l m : List Op3} {v : Value} {wr W' w3 : World} (h : RGat wo l v wr) (hq : Quiet wr W') {v' : Value} {n : Nat} {xs : List Value} (hown : w3.ownsRow wo.heap.size 78 3 v' n xs) (hn : n = m.length) (hx : xs = opsF m) (hg : W'.grownBy w3 v.ownBlock) : RGat wo m v' w3 := by
  subst hn hx
  refine ⟨hown, h.q.over ((hq.mono (fun _ _ x => x.elim)).trans ((Only.refl (fun k => v.ownBlock = some k) W').of_grown hg (fun k hk _ => hk))) (fun i hi q => ?_)⟩
  have := (h.own.lt i q).1
  omega
theorem RGat.row {wo : World} {l : List Op3} {v : Value} {wr : World} (h : RGat wo l v wr) {n : Nat} (hn : n = l.length) : wr.ownsRow wo.heap.size 78 3 v n (opsF l) := hn ▸ h.own
theorem rops_news (W : World) (a b c : Value) (e : TypeId) : ∀ (j : Nat) (u : Value), [a, b, c][j]? = some u → (W.alloc (.cells #[a, b, c] e)).cell? ((⟨W.heap.size, 0, none⟩ : Addr).add j) = some u := fun j u hu => by
  rw [Addr.add_lit, blk_cell (blk_new W _), Nat.zero_add]
  simpa using hu
theorem rops_one {a b c : Int} : ∀ u ∈ [Value.int .i64 a, .int .i64 b, .int .i64 c], u.oneCell' = true := by
  intro u hu
  simp only [List.mem_cons, List.not_mem_nil, or_false] at hu
  rcases hu with rfl | rfl | rfl <;> rfl
set_option maxRecDepth 8000 in
set_option maxHeartbeats 4000000 in
theorem rops {w : World} {A : Option Addr} {n c : Nat} {l : List Op3} (hr : OpRd w A n c l) (hn : n ≤ 1001) :
    Calls Try.prog 20 #[.slice A n c] w fun e w' => ∃ A' c', e = .returned (.slice A' n c') ∧ RopSl w' A' n c' l ∧ Quiet w w' := by
  obtain ⟨io, ho0, ho1, ho2, ho3⟩ := info_parts Try.info78
  have hcm := hr.cap
  have hle := hr.le
  unfold maxLen at hcm
  have HR := Lib.hid hr; clear hr
  have G0 := Lib.hid (show RGat w [] (.slice none 0 0) w from ⟨World.ownsRow_nil _ _ _ _, Only.refl _ _⟩)
  go_enter Try.func20, Try.ntmps20
  go_wp2_with fail
  go_loopw [3, 4] (fun v vk wr => ∃ k, vk = .int .i64 (k : Nat) ∧ k ≤ n ∧ RGat w (l.take k) v wr) (fun _ k _ => n - (intOf k).toNat)
  case atStart => exact ⟨0, rfl, by omega, G0.out⟩
  case round =>
    obtain ⟨k, rfl, hkn, hg⟩ := hrel
    have hln := HR.out.len
    obtain ⟨Av, cv, e1, _⟩ := own_ropsl hg.own rfl
    subst e1
    have hlen : (l.take k).length = k := by rw [List.length_take]; omega
    rw [hlen] at hg ⊢
    have HG := Lib.hid hg; clear hg G0
    have HLEN := Lib.hid hlen; clear hlen
    have HLN := Lib.hid hln; clear hln
    by_cases hk : k < n
    · have hd1 : decide ((k : Int) < (n : Int)) = true := by simpa using hk
      obtain ⟨b, off, rfl, hb, hcl⟩ := HR.out.src (by omega)
      obtain ⟨o, ho⟩ : ∃ o, l[k]? = some o := ⟨_, List.getElem?_eq_getElem (by have := HLN.out; omega)⟩
      have qc : ∀ j v, j < 3 → (opCells o)[j]? = some v → wr.cell? ⟨b, off + (k * 3 + j), none⟩ = some v := fun j v hj hv => (HG.out.q.cell (p := ⟨b, off + (k * 3 + j), none⟩) hb (fun x => x)).trans ((hcl k o ho j hj).trans hv)
      have q0 : wr.cell? ⟨b, off + k * 3, none⟩ = some (.int .i64 o.kind) := qc 0 _ (by omega) rfl
      have q1 : wr.cell? ⟨b, off + k * 3 + 1, none⟩ = some (.int .i64 o.a) := qc 1 _ (by omega) rfl
      have q2 : wr.cell? ⟨b, off + k * 3 + 2, none⟩ = some (.int .i64 o.b) := qc 2 _ (by omega) rfl
      have bl : b < wr.heap.size := Nat.lt_of_lt_of_le hb HG.out.q.size
      have HTK := Lib.hid (show l.take (k + 1) = l.take k ++ [o] by rw [List.take_add_one, ho]; rfl)
      have HLO := Lib.hid (show w.heap.size ≤ wr.heap.size from HG.out.q.size)
      clear qc hcl ho
      have k0 : (0 : Int) ≤ (k : Int) := by omega
      have k1 : (k : Int) < (n : Int) := by omega
      go_wp2_with (at_builtin; refine wpList_append_own _ rfl (.tmp 11) (.tmp 16) 62 rfl w.heap.size 78 io (.agg #[.int .i64 0, .int .i64 0, .int .i64 0]) 3 24 Try.underlying62 ho0 ho1 ho2 ho3 rfl (by decide) _ k (opsF (l.take k)) rfl ((HG.out.row HLEN.out.symm).alloc _) ⟨wr.heap.size, 0, none⟩ 1 1 [.int .i64 o.kind, .int .i64 o.a, .int .i64 o.b] rfl rfl (rops_news _ _ _ _ _) rops_one (by unfold maxLen; omega) (by omega) (by have := HLO.out; simp; omega) ?_; intro v' w3 hown hg _; have HG3 := Lib.hid (HG.out.next (m := l.take (k + 1)) ((Only.refl _ _).alloc _) hown (by rw [HTK.out, List.length_append, HLEN.out]; rfl) (by rw [HTK.out, opsF_app]; rfl) hg); clear hown hg)
      go_roundw
      case rel => exact ⟨k + 1, by go_num, by omega, HG3.out⟩
      case measure => simp [intOf]; omega
    · have hkn' : k = n := by omega
      subst hkn'
      have hd1 : decide ((k : Int) < (k : Int)) = false := by simp
      go_wp2_with fail
      go_ret
      have hg := HG.out
      have e : l.take k = l := List.take_of_length_le (by have := HLN.out; omega)
      rw [e] at hg
      obtain ⟨A', c', e2, h3⟩ := own_ropsl hg.own rfl
      refine ⟨Av, cv, rfl, ?_, hg.q⟩
      rw [Value.slice.injEq] at e2
      obtain ⟨rfl, _, rfl⟩ := e2
      rw [HLN.out] at h3
      exact h3
end Go.Proofs.Ytgdjbmfpbihopaa
