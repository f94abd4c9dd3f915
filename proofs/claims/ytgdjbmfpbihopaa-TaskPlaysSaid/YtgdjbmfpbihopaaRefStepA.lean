/-
  The reference's Step: locks and words. No conditions.
-/
import Derived.Test.YtgdjbmfpbihopaaRefStuck
import Derived.Test.YtgdjbmfpbihopaaRefTurn
import Derived.Deep.RegionHeld3
namespace Go.Proofs.Ytgdjbmfpbihopaa
open Go.RowKit Go.MapKept
set_option linter.unusedVariables false
set_option linter.unusedSimpArgs false

theorem Try.info3 : (Try.prog.info? 3).map (fun i => (i.zero, i.size, i.bytes)) = some (some (.int .i64 0), 1, 8) := by kernel_rfl
theorem cell_off {w : World} {g i j : Nat} (h : i ≠ j) (u : Value) : (w.setCell ⟨g, j, none⟩ u).cell? ⟨g, i, none⟩ = w.cell? ⟨g, i, none⟩ := World.cell?_setCell_other _ _ _ _ (fun e => h (by simpa using e.symm))
theorem i64s_one (l : List Int) : ∀ u ∈ i64s l, u.oneCell' = true := by
  intro u hu
  obtain ⟨b, _, rfl⟩ := List.mem_map.1 hu
  rfl
theorem sl_empty {w : World} {g : Nat} {e : TypeId} (h : w.heap[g]? = some (.cells #[] e (0, 0))) : Sl w e (some ⟨g, 0, none⟩) 0 0 [] := ⟨rfl, .inr ⟨g, 0, #[], rfl, h, by omega, by simp, by unfold maxLen; omega, fun i x hx => by simp at hx⟩⟩
theorem Only.trans' {S : Nat → Prop} {a b c : World} (h : Quiet a b) (k : Only S b c) : Only S a c := (h.mono (fun _ _ x => x.elim)).trans k
theorem chan_post {w W1 w8 : World} {M : RMem} {W : Wd} (h : RAt w M W) {a : Nat} {q : Pipe} {X : RRow} (hq : W.pipes[a]? = some q) (hX : M.cs[a]? = some X) (hQ : Quiet w W1) (ho : Only (RowOf X.A) W1 w8) {A8 : Option Addr} {c8 n : Nat} {l : List Int} (hn : n = l.length) (hs : Sl w8 3 A8 n c8 (i64s l))
    (hr : ∀ k, RowOf A8 k → RowOf X.A k ∨ W1.heap.size ≤ k) {gh oh : Nat} (hA : M.gA = some ⟨gh, oh, none⟩) (hf : FitW (setP W a ⟨l, q.size⟩)) : RPost M.base M.p w (setP W a ⟨l, q.size⟩) (w8.setCell ⟨gh, oh + a, none⟩ (.slice A8 n c8)) := by
  subst hn
  obtain ⟨h1, h2⟩ := (h.quiet hQ).setChan (x' := ⟨A8, c8, l⟩) hq hX ho hs hr hA hf
  exact RPost.of h1 (RSide.trans (RSide.quiet hQ) h2) rfl rfl
theorem fresh_app {w0 W1 w8 : World} {g : Nat} {A8 : Option Addr} (hq : Quiet w0 W1) (hg : w0.heap.size ≤ g) (ho : Only (RowOf (some ⟨g, 0, none⟩)) W1 w8) (hr : ∀ k, RowOf A8 k → RowOf (some ⟨g, 0, none⟩) k ∨ W1.heap.size ≤ k) : Quiet w0 w8 ∧ ∀ k, RowOf A8 k → w0.heap.size ≤ k := by
  have hk : ∀ k, RowOf (some ⟨g, 0, none⟩) k → k = g := fun k ⟨a, e, h⟩ => by
    obtain rfl := Option.some.inj e
    exact h.symm
  refine ⟨hq.over ho (fun i hi q => by have := hk i q; omega), fun k q => ?_⟩
  rcases hr k q with h | h
  · have := hk k h; omega
  · exact Nat.le_trans hq.size h
set_option maxRecDepth 8000 in
set_option maxHeartbeats 16000000 in
theorem rstep_lock {w : World} {M : RMem} {W : Wd} (h : RAt w M W) {i : Nat} {t : RTask} (ht : M.ts[i]? = some t) (he : t.next < t.all.length) {o : Op3} (ho : t.all[t.next]? = some o) (hd : t.all.drop t.next = o :: t.all.drop (t.next + 1)) (hw : waitsB W o = false) (hk : o.kind = 1) {a : Nat} (ha : o.a = (a : Int)) (hal : (a : Int) < W.locks) :
    Calls Try.prog 21 #[.pointer (some ⟨M.p, 0, none⟩), .int .i64 (i : Int)] w fun e w' => e = .returned (.tuple #[.int .i64 (stateF { (setT W i ⟨t.all.drop (t.next + 1), t.has⟩) with holds := fun x => if x = (a : Int) then some (i : Int) else W.holds x } (i : Int)), .int .i64 0]) ∧ RPost M.base M.p w { (setT W i ⟨t.all.drop (t.next + 1), t.has⟩) with holds := fun x => if x = (a : Int) then some (i : Int) else W.holds x } w' := by
  have HS := Lib.hid (rstate_at h (i : Int))
  have hst : stateF W (i : Int) = 1 := by
    rw [stateF_at (h.thread ht)]
    unfold stateT
    simp only [hd]
    rw [hw]; rfl
  rw [hst] at HS
  have c4 := h.head.2.2.2.2.1
  have ps := h.head.2.2.2.2.2
  obtain ⟨g, cap, hv, hc1, hc2, gs, g0, g1, g2⟩ := h.task ht
  obtain ⟨o', go, off, ho', hdd, hmy, hA, hc3, hc4, os, o0, o1, o2⟩ := h.op ht he
  rw [ho] at ho'
  obtain rfl := Option.some.inj ho'
  have hi := (List.getElem?_eq_some_iff.1 ht).1
  obtain ⟨hl, hl2⟩ := h.len
  have hln := (h.tl t (List.mem_of_getElem? ht)).2.2
  clear hdd hmy
  rw [hv] at c4
  obtain ⟨N, hN⟩ : ∃ N, N = M.ts.length := ⟨_, rfl⟩
  rw [← hN] at c4 hl2 hc1 hi hv
  obtain ⟨L, hL⟩ : ∃ L, L = t.all.length := ⟨_, rfl⟩
  obtain ⟨n, hn⟩ : ∃ n, n = t.next := ⟨_, rfl⟩
  obtain ⟨c, hc⟩ : ∃ c, c = t.c := ⟨_, rfl⟩
  rw [hA] at g0
  rw [← hL] at g0 hln he hc3
  rw [← hn] at g1 he o0 o1 o2
  rw [← hc] at g0 hc3 hc4
  unfold maxLen at hc2 hc4
  have HG0 := Lib.hid (show (Value.slice (some ⟨go, off, none⟩) L c) = .slice t.A t.all.length t.c by rw [hA, hL, hc])
  have HF := Lib.hid (fun (V : World) (hV : Quiet w V) => show (V.cell? ⟨M.p, 4, none⟩ = some (.slice (some ⟨g, 0, none⟩) N cap) ∧ V.cell? ⟨g, i * 3, none⟩ = some (.slice (some ⟨go, off, none⟩) L c) ∧ V.cell? ⟨g, i * 3 + 1, none⟩ = some (.int .i64 (n : Nat))) ∧
    (V.cell? ⟨go, off + n * 3, none⟩ = some (.int .i64 o.kind) ∧ V.cell? ⟨go, off + n * 3 + 1, none⟩ = some (.int .i64 o.a) ∧ V.cell? ⟨go, off + n * 3 + 2, none⟩ = some (.int .i64 o.b)) ∧ M.p < V.heap.size ∧ g < V.heap.size ∧ go < V.heap.size from
    ⟨⟨(hV.cell (p := ⟨M.p, 4, none⟩) ps (fun x => x)).trans c4, (hV.cell (p := ⟨g, i * 3, none⟩) gs (fun x => x)).trans g0, (hV.cell (p := ⟨g, i * 3 + 1, none⟩) gs (fun x => x)).trans g1⟩,
      ⟨(hV.cell (p := ⟨go, off + n * 3, none⟩) os (fun x => x)).trans o0, (hV.cell (p := ⟨go, off + n * 3 + 1, none⟩) os (fun x => x)).trans o1, (hV.cell (p := ⟨go, off + n * 3 + 2, none⟩) os (fun x => x)).trans o2⟩, Nat.lt_of_lt_of_le ps hV.size, Nat.lt_of_lt_of_le gs hV.size, Nat.lt_of_lt_of_le os hV.size⟩)
  have H := Lib.hid h
  have HT := Lib.hid ht
  have HV := Lib.hid (hN ▸ hv)
  have HN := Lib.hid hN
  have HL := Lib.hid hL
  have HNX := Lib.hid hn
  obtain ⟨kd, a0, b0⟩ := o
  have HKD := Lib.hid (show kd = 1 from hk)
  simp only at HF hk
  subst hk
  simp only at ha
  subst ha
  have HO := Lib.hid (show W = W from rfl)
  clear hv hl h hN hL ho ht hA hn hc ho' hd hw c4 g0 g1 g2 o0 o1 o2 hst ps gs os
  have d1 : decide ((i : Int) < 0) = false := by simp
  have d2 : decide ((N : Int) ≤ (i : Int)) = false := by simp; omega
  have i0 : (0 : Int) ≤ (i : Int) := by omega
  have i1 : (i : Int) < (N : Int) := by omega
  have n0 : (0 : Int) ≤ (n : Int) := by omega
  have n1 : (n : Int) < (L : Int) := by omega
  go_enter Try.func21, Try.ntmps21
  go_wp2_with (first
    | (go_at_call 23; refine HS.out.mono ?_; rintro e w2 ⟨rfl, hq⟩; have Q2 := Lib.hid hq; clear hq; obtain ⟨⟨t1, t2, t3⟩, ⟨t4, t5, t6⟩, t7, t8, t9⟩ := HF.out _ Q2.out))
  refine wp_region_noPanic ?_
  refine wp_region_held_drew (S := (fun w' => w'.cell? ⟨M.p, 4, none⟩ = some (.slice (some ⟨g, 0, none⟩) N cap) ∧ w'.cell? ⟨g, i * 3, none⟩ = some (.slice (some ⟨go, off, none⟩) L c) ∧ w'.cell? ⟨g, i * 3 + 1, none⟩ = some (.int .i64 (n : Nat)) ∧ w'.cell? ⟨go, off + n * 3, none⟩ = some (.int .i64 1) ∧ w'.cell? ⟨go, off + n * 3 + 1, none⟩ = some (.int .i64 (a : Int)) ∧ w'.cell? ⟨go, off + n * 3 + 2, none⟩ = some (.int .i64 b0))) (by kernel_rfl) ?_ (fun hHeld => ?_)
  · try dsimp only
    go_keep
  refine wpAnyH_take (i := 0) (v := ?_) (at_list rfl) (by kernel_rfl) (by kernel_rfl) (by kernel_rfl) (fun _ _ _ h => h) (Or.inl ⟨by rfl, ?_⟩) (by assumption) ?_
  rotate_left
  · intro w hSw
    try dsimp only at hSw
    go_simp
    try with_reducible rfl
  simp only [Act.put, List.setIfInBounds_toArray, List.set_cons_zero, List.set_cons_succ]
  refine wpAnyH_take (i := 1) (v := ?_) (at_list rfl) (by kernel_rfl) (by kernel_rfl) (by kernel_rfl) (fun _ _ _ h => h) (Or.inl ⟨by rfl, ?_⟩) (by assumption) ?_
  rotate_left
  · intro w hSw
    try dsimp only at hSw
    go_simp
    try with_reducible rfl
  simp only [Act.put, List.setIfInBounds_toArray, List.set_cons_zero, List.set_cons_succ]
  refine wpAnyH_take (i := 2) (v := ?_) (at_list rfl) (by kernel_rfl) (by kernel_rfl) (by kernel_rfl) (fun _ _ _ h => h) (Or.inl ⟨by rfl, ?_⟩) (by assumption) ?_
  rotate_left
  · intro w hSw
    try dsimp only at hSw
    go_simp
    try with_reducible rfl
  simp only [Act.put, List.setIfInBounds_toArray, List.set_cons_zero, List.set_cons_succ]
  refine wpAnyH_take (i := 3) (v := ?_) (at_list rfl) (by kernel_rfl) (by kernel_rfl) (by kernel_rfl) (fun _ _ _ h => h) (Or.inl ⟨by rfl, ?_⟩) (by assumption) ?_
  rotate_left
  · intro w hSw
    try dsimp only at hSw
    go_simp
    try with_reducible rfl
  simp only [Act.put, List.setIfInBounds_toArray, List.set_cons_zero, List.set_cons_succ]
  refine wpAnyH_take (i := 4) (v := ?_) (at_list rfl) (by kernel_rfl) (by kernel_rfl) (by kernel_rfl) (fun _ _ _ h => h) (Or.inl ⟨by rfl, ?_⟩) (by assumption) ?_
  rotate_left
  · intro w hSw
    try dsimp only at hSw
    go_simp
    try with_reducible rfl
  simp only [Act.put, List.setIfInBounds_toArray, List.set_cons_zero, List.set_cons_succ]
  refine wpAnyH_take (i := 5) (v := ?_) (at_list rfl) (by kernel_rfl) (by kernel_rfl) (by kernel_rfl) (fun _ _ _ h => h) (Or.inl ⟨by rfl, ?_⟩) (by assumption) ?_
  rotate_left
  · intro w hSw
    try dsimp only at hSw
    go_simp
    try with_reducible rfl
  simp only [Act.put, List.setIfInBounds_toArray, List.set_cons_zero, List.set_cons_succ]
  refine wpAnyH_take (i := 6) (v := ?_) (at_list rfl) (by kernel_rfl) (by kernel_rfl) (by kernel_rfl) (fun _ _ _ h => h) (Or.inl ⟨by rfl, ?_⟩) (by assumption) ?_
  rotate_left
  · intro w hSw
    try dsimp only at hSw
    go_simp
    try with_reducible rfl
  simp only [Act.put, List.setIfInBounds_toArray, List.set_cons_zero, List.set_cons_succ]
  refine wpAnyH_take (i := 7) (v := ?_) (at_list rfl) (by kernel_rfl) (by kernel_rfl) (by kernel_rfl) (fun _ _ _ h => h) (Or.inl ⟨by rfl, ?_⟩) (by assumption) ?_
  rotate_left
  · intro w hSw
    try dsimp only at hSw
    go_simp
    try with_reducible rfl
  simp only [Act.put, List.setIfInBounds_toArray, List.set_cons_zero, List.set_cons_succ]
  refine wpAnyH_take (i := 8) (v := ?_) (at_list rfl) (by kernel_rfl) (by kernel_rfl) (by kernel_rfl) (fun _ _ _ h => h) (Or.inl ⟨by rfl, ?_⟩) (by assumption) ?_
  rotate_left
  · intro w hSw
    try dsimp only at hSw
    go_simp
    try with_reducible rfl
  simp only [Act.put, List.setIfInBounds_toArray, List.set_cons_zero, List.set_cons_succ]
  refine wpAnyH_take (i := 9) (v := ?_) (at_list rfl) (by kernel_rfl) (by kernel_rfl) (by kernel_rfl) (fun _ _ _ h => h) (Or.inl ⟨by rfl, ?_⟩) (by assumption) ?_
  rotate_left
  · intro w hSw
    try dsimp only at hSw
    go_simp
    try with_reducible rfl
  simp only [Act.put, List.setIfInBounds_toArray, List.set_cons_zero, List.set_cons_succ]
  refine wpAnyH_take (i := 10) (v := ?_) (at_list rfl) (by kernel_rfl) (by kernel_rfl) (by kernel_rfl) (fun _ _ _ h => h) (Or.inl ⟨by rfl, ?_⟩) (by assumption) ?_
  rotate_left
  · intro w hSw
    try dsimp only at hSw
    go_simp
    try with_reducible rfl
  simp only [Act.put, List.setIfInBounds_toArray, List.set_cons_zero, List.set_cons_succ]
  refine wpAnyH_take (i := 11) (v := ?_) (at_list rfl) (by kernel_rfl) (by kernel_rfl) (by kernel_rfl) (fun _ _ _ h => h) (Or.inl ⟨by rfl, ?_⟩) (by assumption) ?_
  rotate_left
  · intro w hSw
    try dsimp only at hSw
    go_simp
    try with_reducible rfl
  simp only [Act.put, List.setIfInBounds_toArray, List.set_cons_zero, List.set_cons_succ]
  refine wpAnyH_take (i := 12) (v := ?_) (at_list rfl) (by kernel_rfl) (by kernel_rfl) (by kernel_rfl) (fun _ _ _ h => h) (Or.inl ⟨by rfl, ?_⟩) (by assumption) ?_
  rotate_left
  · intro w hSw
    try dsimp only at hSw
    go_simp
    try with_reducible rfl
  simp only [Act.put, List.setIfInBounds_toArray, List.set_cons_zero, List.set_cons_succ]
  refine wpAnyH_take (i := 13) (v := ?_) (at_list rfl) (by kernel_rfl) (by kernel_rfl) (by kernel_rfl) (fun _ _ _ h => h) (Or.inl ⟨by rfl, ?_⟩) (by assumption) ?_
  rotate_left
  · intro w hSw
    try dsimp only at hSw
    go_simp
    try with_reducible rfl
  simp only [Act.put, List.setIfInBounds_toArray, List.set_cons_zero, List.set_cons_succ]
  refine wpAnyH_take (i := 14) (v := ?_) (at_list rfl) (by kernel_rfl) (by kernel_rfl) (by kernel_rfl) (fun _ _ _ h => h) (Or.inl ⟨by rfl, ?_⟩) (by assumption) ?_
  rotate_left
  · intro w hSw
    try dsimp only at hSw
    go_simp
    try with_reducible rfl
  simp only [Act.put, List.setIfInBounds_toArray, List.set_cons_zero, List.set_cons_succ]
  refine wpAnyH_take (i := 15) (v := ?_) (at_list rfl) (by kernel_rfl) (by kernel_rfl) (by kernel_rfl) (fun _ _ _ h => h) (Or.inl ⟨by rfl, ?_⟩) (by assumption) ?_
  rotate_left
  · intro w hSw
    try dsimp only at hSw
    go_simp
    try with_reducible rfl
  simp only [Act.put, List.setIfInBounds_toArray, List.set_cons_zero, List.set_cons_succ]
  refine wpAnyH_take (i := 16) (v := ?_) (at_list rfl) (by kernel_rfl) (by kernel_rfl) (by kernel_rfl) (fun _ _ _ h => h) (Or.inl ⟨by rfl, ?_⟩) (by assumption) ?_
  rotate_left
  · intro w hSw
    try dsimp only at hSw
    go_simp
    try with_reducible rfl
  simp only [Act.put, List.setIfInBounds_toArray, List.set_cons_zero, List.set_cons_succ]
  refine wpAnyH_take (i := 17) (v := ?_) (at_list rfl) (by kernel_rfl) (by kernel_rfl) (by kernel_rfl) (fun _ _ _ h => h) (Or.inl ⟨by rfl, ?_⟩) (by assumption) ?_
  rotate_left
  · intro w hSw
    try dsimp only at hSw
    go_simp
    try with_reducible rfl
  simp only [Act.put, List.setIfInBounds_toArray, List.set_cons_zero, List.set_cons_succ]
  refine wpAnyH_ready (rs := [18]) (by kernel_rfl) (by simp) ?_
  refine AllReadyH.cons (at_list rfl) (fun KK hKK => ?_) AllReadyH.nil
  go_simp
  refine hKK.out _ _ ?_ (fun hHeld2 => ?_)
  · try dsimp only
    go_keep
  clear hKK KK hHeld
  rename _ => hHeld
  try simp only [Act.put, List.setIfInBounds_toArray, List.set_cons_zero, List.set_cons_succ]
  refine wpAnyH_ready (rs := [19]) (by kernel_rfl) (by simp) ?_
  refine AllReadyH.cons (at_list rfl) (fun KK hKK => ?_) AllReadyH.nil
  go_simp
  refine hKK.out _ _ ?_ (fun hHeld2 => ?_)
  · try dsimp only
    go_keep
  clear hKK KK hHeld
  rename _ => hHeld
  try simp only [Act.put, List.setIfInBounds_toArray, List.set_cons_zero, List.set_cons_succ]
  refine wpAnyH_done (by kernel_rfl) ?_ _
  refine NoPanic.normal ?_
  obtain ⟨b, hb⟩ : ∃ b, b = w2.heap.size := ⟨_, rfl⟩
  have HB3 := Lib.hid (show ((w2.alloc (.cells #[.int .i64 1, .int .i64 (a : Int), .int .i64 b0] 78)).drew).heap[b]? = some (.cells #[.int .i64 1, .int .i64 (a : Int), .int .i64 b0] 78 (0, 0)) by rw [hb]; exact blk_drew (blk_new _ _))
  have Q3 := Lib.hid (show Quiet w ((w2.alloc (.cells #[.int .i64 1, .int .i64 (a : Int), .int .i64 b0] 78)).drew) from (Q2.out.alloc _).drew)
  rw [← hb]
  clear hHeld t1 t2 t3 t4 t5 t6 t7 t8 t9 hb
  generalize (w2.alloc (.cells #[.int .i64 1, .int .i64 (a : Int), .int .i64 b0] 78)).drew = w3 at HB3 Q3 ⊢
  obtain ⟨⟨t1, t2, t3⟩, t4, t7, t8, t9⟩ := HF.out _ Q3.out
  clear t4 t9
  obtain ⟨cu, hcu⟩ := row_ownB (H.out.quiet Q3.out).tasks (k := g) (by rw [HV.out]; rfl)
  have hfz : w3.frozen? ⟨g, i * 3 + 1, none⟩ = false := blk_frozen hcu _
  have hbg : b ≠ g := blk_ne HB3.out hcu (by decide)
  have HB4 := Lib.hid (blk_far HB3.out (p := ⟨g, i * 3 + 1, none⟩) hbg (.int .i64 ((n : Int) + 1)))
  obtain ⟨hm4, ho4⟩ := (H.out.quiet Q3.out).setTask HT.out HV.out ⟨t.A, t.c, t.all, t.next + 1, t.has⟩ 1 (.int .i64 ((n : Int) + 1)) (by decide) (by rw [HNX.out]; simp [rtc]) ⟨rfl, rfl, rfl⟩ ⟨by simp, by show t.next + 1 ≤ t.all.length; have := HNX.out; have := HL.out; omega⟩ (H.out.fit.tz _ (List.mem_of_getElem? (H.out.thread HT.out))).2.1
  have H4 := Lib.hid hm4
  have O4 := Lib.hid (RSide.trans (RSide.quiet Q3.out) ho4)
  clear hm4 ho4 hcu
  go_upto_region 10 with (fail)
  clear t1 t2 t3 t7 t8 hfz
  generalize w3.setCell ⟨g, i * 3 + 1, none⟩ (.int .i64 ((n : Int) + 1)) = w4 at HB4 H4 O4 ⊢
  have x0 : w4.cell? ⟨b, 0, none⟩ = some (.int .i64 1) := blk_cell HB4.out 0
  have x1 : w4.cell? ⟨b, 1, none⟩ = some (.int .i64 (a : Int)) := blk_cell HB4.out 1
  have x2 : w4.cell? ⟨b, 2, none⟩ = some (.int .i64 b0) := blk_cell HB4.out 2
  have hbs : b < w4.heap.size := lt_of_heap HB4.out
  obtain ⟨gl, ol, hlA, gls, hll, hlc, hlm, hlx, hnn⟩ := H4.out.lock (a := a) hal
  have c0 := H4.out.head.1
  have c5 := H4.out.head.2.2.2.2.2
  have HLA := Lib.hid hlA
  rw [RRow.v, show ({ M with ts := M.ts.set i ⟨t.A, t.c, t.all, t.next + 1, t.has⟩ } : RMem).lk = M.lk from rfl, show ({ M with ts := M.ts.set i ⟨t.A, t.c, t.all, t.next + 1, t.has⟩ } : RMem).p = M.p from rfl] at c0
  rw [show ({ M with ts := M.ts.set i ⟨t.A, t.c, t.all, t.next + 1, t.has⟩ } : RMem).lk = M.lk from rfl] at hlA hll hlc hlm
  rw [hlA] at c0
  obtain ⟨nl, hnl⟩ : ∃ n, n = M.lk.l.length := ⟨_, rfl⟩
  obtain ⟨cl, hcl⟩ : ∃ n, n = M.lk.c := ⟨_, rfl⟩
  rw [← hnl] at c0 hll hlc
  rw [← hcl] at c0 hlc hlm
  unfold maxLen at hlm
  have HAL := Lib.hid hal
  obtain ⟨cul, hcul⟩ := (H4.out.rows _ (.head _)).type (k := gl) ⟨_, HLA.out, rfl⟩
  have hfl : w4.frozen? ⟨gl, ol + a, none⟩ = false := blk_frozen hcul _
  have hbl : b ≠ gl := blk_ne HB4.out hcul (by decide)
  have hp5 : M.p ≠ gl := blk_ne H4.out.blk hcul (by decide)
  have iw : IntKind.i64.wrap ((i : Int) + 1) = (i : Int) + 1 := by have := IntKind.wrap_i64 ((i : Int) + 1); omega
  have a0' : (0 : Int) ≤ (a : Int) := by omega
  have a1' : (a : Int) < (nl : Int) := by omega
  clear hlA hnl hcl hal hcul
  go_wp2_with fail
  refine wp_region_noPanic ?_
  refine wp_region_held_drew (S := (fun w' => w'.cell? ⟨M.p, 0, none⟩ = some (.slice (some ⟨gl, ol, none⟩) nl cl) ∧ w'.cell? ⟨b, 1, none⟩ = some (.int .i64 (a : Int)))) (by kernel_rfl) ?_ (fun hHeld => ?_)
  · try dsimp only
    (first | exact ⟨(cell_far hp5 _ trivial).trans c0, (cell_far hbl _ trivial).trans x1⟩ | go_keep)
  refine wpAnyH_take (i := 0) (v := ?_) (at_list rfl) (by kernel_rfl) (by kernel_rfl) (by kernel_rfl) (fun _ _ _ h => h) (Or.inl ⟨by rfl, ?_⟩) (by assumption) ?_
  rotate_left
  · intro w hSw
    try dsimp only at hSw
    go_simp
    try with_reducible rfl
  simp only [Act.put, List.setIfInBounds_toArray, List.set_cons_zero, List.set_cons_succ]
  refine wpAnyH_take (i := 1) (v := ?_) (at_list rfl) (by kernel_rfl) (by kernel_rfl) (by kernel_rfl) (fun _ _ _ h => h) (Or.inl ⟨by rfl, ?_⟩) (by assumption) ?_
  rotate_left
  · intro w hSw
    try dsimp only at hSw
    go_simp
    try with_reducible rfl
  simp only [Act.put, List.setIfInBounds_toArray, List.set_cons_zero, List.set_cons_succ]
  refine wpAnyH_take (i := 2) (v := ?_) (at_list rfl) (by kernel_rfl) (by kernel_rfl) (by kernel_rfl) (fun _ _ _ h => h) (Or.inl ⟨by rfl, ?_⟩) (by assumption) ?_
  rotate_left
  · intro w hSw
    try dsimp only at hSw
    go_simp
    try with_reducible rfl
  simp only [Act.put, List.setIfInBounds_toArray, List.set_cons_zero, List.set_cons_succ]
  refine wpAnyH_take (i := 3) (v := ?_) (at_list rfl) (by kernel_rfl) (by kernel_rfl) (by kernel_rfl) (fun _ _ _ h => h) (Or.inl ⟨by rfl, ?_⟩) (by assumption) ?_
  rotate_left
  · intro w hSw
    try dsimp only at hSw
    go_simp
    try with_reducible rfl
  simp only [Act.put, List.setIfInBounds_toArray, List.set_cons_zero, List.set_cons_succ]
  refine wpAnyH_take (i := 4) (v := ?_) (at_list rfl) (by kernel_rfl) (by kernel_rfl) (by kernel_rfl) (fun _ _ _ h => h) (Or.inl ⟨by rfl, ?_⟩) (by assumption) ?_
  rotate_left
  · intro w hSw
    try dsimp only at hSw
    go_simp
    try with_reducible rfl
  simp only [Act.put, List.setIfInBounds_toArray, List.set_cons_zero, List.set_cons_succ]
  refine wpAnyH_take (i := 5) (v := ?_) (at_list rfl) (by kernel_rfl) (by kernel_rfl) (by kernel_rfl) (fun _ _ _ h => h) (Or.inl ⟨by rfl, ?_⟩) (by assumption) ?_
  rotate_left
  · intro w hSw
    try dsimp only at hSw
    go_simp
    try with_reducible rfl
  simp only [Act.put, List.setIfInBounds_toArray, List.set_cons_zero, List.set_cons_succ]
  refine wpAnyH_take (i := 6) (v := ?_) (at_list rfl) (by kernel_rfl) (by kernel_rfl) (by kernel_rfl) (fun _ _ _ h => h) (Or.inl ⟨by rfl, ?_⟩) (by assumption) ?_
  rotate_left
  · intro w hSw
    try dsimp only at hSw
    go_simp
    try with_reducible rfl
  simp only [Act.put, List.setIfInBounds_toArray, List.set_cons_zero, List.set_cons_succ]
  refine wpAnyH_take (i := 7) (v := ?_) (at_list rfl) (by kernel_rfl) (by kernel_rfl) (by kernel_rfl) (fun _ _ _ h => h) (Or.inl ⟨by rfl, ?_⟩) (by assumption) ?_
  rotate_left
  · intro w hSw
    try dsimp only at hSw
    go_simp
    try with_reducible rfl
  simp only [Act.put, List.setIfInBounds_toArray, List.set_cons_zero, List.set_cons_succ]
  refine wpAnyH_take (i := 8) (v := ?_) (at_list rfl) (by kernel_rfl) (by kernel_rfl) (by kernel_rfl) (fun _ _ _ h => h) (Or.inl ⟨by rfl, ?_⟩) (by assumption) ?_
  rotate_left
  · intro w hSw
    try dsimp only at hSw
    go_simp
    try with_reducible rfl
  simp only [Act.put, List.setIfInBounds_toArray, List.set_cons_zero, List.set_cons_succ]
  refine wpAnyH_ready (rs := [9]) (by kernel_rfl) (by simp) ?_
  refine AllReadyH.cons (at_list rfl) (fun KK hKK => ?_) AllReadyH.nil
  go_simp
  refine hKK.out _ _ ?_ (fun hHeld2 => ?_)
  · try dsimp only
    (first | exact ⟨(cell_far hp5 _ trivial).trans c0, (cell_far hbl _ trivial).trans x1⟩ | go_keep)
  clear hKK KK hHeld
  rename _ => hHeld
  try simp only [Act.put, List.setIfInBounds_toArray, List.set_cons_zero, List.set_cons_succ]
  refine wpAnyH_done (by kernel_rfl) ?_ _
  refine NoPanic.normal ?_
  obtain ⟨hm5, ho5⟩ := H4.out.setLock (a := a) HAL.out HLA.out (some (i : Int)) (fun x e => by cases e; omega)
  have HP := Lib.hid (show RPost M.base M.p w { (setT W i ⟨t.all.drop (t.next + 1), t.has⟩) with holds := fun x => if x = (a : Int) then some (i : Int) else W.holds x } ((w4.setCell ⟨gl, ol + a, none⟩ (.int .i64 ((i : Int) + 1))).drew) from (RPost.of hm5 (RSide.trans O4.out ho5) rfl rfl).quiet (Only.refl _ _).drew)
  go_wp2_with (go_at_call 23; refine (rstate HP.out.1 (i : Int)).mono ?_; rintro e w6 ⟨rfl, hq6⟩; have Q6 := Lib.hid hq6; clear hq6)
  go_ret2
  exact ⟨rfl, HP.out.quiet Q6.out⟩
set_option maxRecDepth 8000 in
set_option maxHeartbeats 16000000 in
theorem rstep_unlock {w : World} {M : RMem} {W : Wd} (h : RAt w M W) {i : Nat} {t : RTask} (ht : M.ts[i]? = some t) (he : t.next < t.all.length) {o : Op3} (ho : t.all[t.next]? = some o) (hd : t.all.drop t.next = o :: t.all.drop (t.next + 1)) (hw : waitsB W o = false) (hk : o.kind = 2) {a : Nat} (ha : o.a = (a : Int)) (hal : (a : Int) < W.locks) (hh : W.holds (a : Int) = some (i : Int)) :
    Calls Try.prog 21 #[.pointer (some ⟨M.p, 0, none⟩), .int .i64 (i : Int)] w fun e w' => e = .returned (.tuple #[.int .i64 (stateF { (setT W i ⟨t.all.drop (t.next + 1), t.has⟩) with holds := fun x => if x = (a : Int) then none else W.holds x } (i : Int)), .int .i64 0]) ∧ RPost M.base M.p w { (setT W i ⟨t.all.drop (t.next + 1), t.has⟩) with holds := fun x => if x = (a : Int) then none else W.holds x } w' := by
  have HS := Lib.hid (rstate_at h (i : Int))
  have hst : stateF W (i : Int) = 1 := by
    rw [stateF_at (h.thread ht)]
    unfold stateT
    simp only [hd]
    rw [hw]; rfl
  rw [hst] at HS
  have c4 := h.head.2.2.2.2.1
  have ps := h.head.2.2.2.2.2
  obtain ⟨g, cap, hv, hc1, hc2, gs, g0, g1, g2⟩ := h.task ht
  obtain ⟨o', go, off, ho', hdd, hmy, hA, hc3, hc4, os, o0, o1, o2⟩ := h.op ht he
  rw [ho] at ho'
  obtain rfl := Option.some.inj ho'
  have hi := (List.getElem?_eq_some_iff.1 ht).1
  obtain ⟨hl, hl2⟩ := h.len
  have hln := (h.tl t (List.mem_of_getElem? ht)).2.2
  clear hdd hmy
  rw [hv] at c4
  obtain ⟨N, hN⟩ : ∃ N, N = M.ts.length := ⟨_, rfl⟩
  rw [← hN] at c4 hl2 hc1 hi hv
  obtain ⟨L, hL⟩ : ∃ L, L = t.all.length := ⟨_, rfl⟩
  obtain ⟨n, hn⟩ : ∃ n, n = t.next := ⟨_, rfl⟩
  obtain ⟨c, hc⟩ : ∃ c, c = t.c := ⟨_, rfl⟩
  rw [hA] at g0
  rw [← hL] at g0 hln he hc3
  rw [← hn] at g1 he o0 o1 o2
  rw [← hc] at g0 hc3 hc4
  unfold maxLen at hc2 hc4
  have HG0 := Lib.hid (show (Value.slice (some ⟨go, off, none⟩) L c) = .slice t.A t.all.length t.c by rw [hA, hL, hc])
  have HF := Lib.hid (fun (V : World) (hV : Quiet w V) => show (V.cell? ⟨M.p, 4, none⟩ = some (.slice (some ⟨g, 0, none⟩) N cap) ∧ V.cell? ⟨g, i * 3, none⟩ = some (.slice (some ⟨go, off, none⟩) L c) ∧ V.cell? ⟨g, i * 3 + 1, none⟩ = some (.int .i64 (n : Nat))) ∧
    (V.cell? ⟨go, off + n * 3, none⟩ = some (.int .i64 o.kind) ∧ V.cell? ⟨go, off + n * 3 + 1, none⟩ = some (.int .i64 o.a) ∧ V.cell? ⟨go, off + n * 3 + 2, none⟩ = some (.int .i64 o.b)) ∧ M.p < V.heap.size ∧ g < V.heap.size ∧ go < V.heap.size from
    ⟨⟨(hV.cell (p := ⟨M.p, 4, none⟩) ps (fun x => x)).trans c4, (hV.cell (p := ⟨g, i * 3, none⟩) gs (fun x => x)).trans g0, (hV.cell (p := ⟨g, i * 3 + 1, none⟩) gs (fun x => x)).trans g1⟩,
      ⟨(hV.cell (p := ⟨go, off + n * 3, none⟩) os (fun x => x)).trans o0, (hV.cell (p := ⟨go, off + n * 3 + 1, none⟩) os (fun x => x)).trans o1, (hV.cell (p := ⟨go, off + n * 3 + 2, none⟩) os (fun x => x)).trans o2⟩, Nat.lt_of_lt_of_le ps hV.size, Nat.lt_of_lt_of_le gs hV.size, Nat.lt_of_lt_of_le os hV.size⟩)
  have H := Lib.hid h
  have HT := Lib.hid ht
  have HV := Lib.hid (hN ▸ hv)
  have HN := Lib.hid hN
  have HL := Lib.hid hL
  have HNX := Lib.hid hn
  obtain ⟨kd, a0, b0⟩ := o
  have HKD := Lib.hid (show kd = 2 from hk)
  simp only at HF hk
  subst hk
  simp only at ha
  subst ha
  have HH := Lib.hid hh
  clear hh
  have HO := Lib.hid (show W = W from rfl)
  clear hv hl h hN hL ho ht hA hn hc ho' hd hw c4 g0 g1 g2 o0 o1 o2 hst ps gs os
  have d1 : decide ((i : Int) < 0) = false := by simp
  have d2 : decide ((N : Int) ≤ (i : Int)) = false := by simp; omega
  have i0 : (0 : Int) ≤ (i : Int) := by omega
  have i1 : (i : Int) < (N : Int) := by omega
  have n0 : (0 : Int) ≤ (n : Int) := by omega
  have n1 : (n : Int) < (L : Int) := by omega
  go_enter Try.func21, Try.ntmps21
  go_wp2_with (first
    | (go_at_call 23; refine HS.out.mono ?_; rintro e w2 ⟨rfl, hq⟩; have Q2 := Lib.hid hq; clear hq; obtain ⟨⟨t1, t2, t3⟩, ⟨t4, t5, t6⟩, t7, t8, t9⟩ := HF.out _ Q2.out))
  refine wp_region_noPanic ?_
  refine wp_region_held_drew (S := (fun w' => w'.cell? ⟨M.p, 4, none⟩ = some (.slice (some ⟨g, 0, none⟩) N cap) ∧ w'.cell? ⟨g, i * 3, none⟩ = some (.slice (some ⟨go, off, none⟩) L c) ∧ w'.cell? ⟨g, i * 3 + 1, none⟩ = some (.int .i64 (n : Nat)) ∧ w'.cell? ⟨go, off + n * 3, none⟩ = some (.int .i64 2) ∧ w'.cell? ⟨go, off + n * 3 + 1, none⟩ = some (.int .i64 (a : Int)) ∧ w'.cell? ⟨go, off + n * 3 + 2, none⟩ = some (.int .i64 b0))) (by kernel_rfl) ?_ (fun hHeld => ?_)
  · try dsimp only
    go_keep
  refine wpAnyH_take (i := 0) (v := ?_) (at_list rfl) (by kernel_rfl) (by kernel_rfl) (by kernel_rfl) (fun _ _ _ h => h) (Or.inl ⟨by rfl, ?_⟩) (by assumption) ?_
  rotate_left
  · intro w hSw
    try dsimp only at hSw
    go_simp
    try with_reducible rfl
  simp only [Act.put, List.setIfInBounds_toArray, List.set_cons_zero, List.set_cons_succ]
  refine wpAnyH_take (i := 1) (v := ?_) (at_list rfl) (by kernel_rfl) (by kernel_rfl) (by kernel_rfl) (fun _ _ _ h => h) (Or.inl ⟨by rfl, ?_⟩) (by assumption) ?_
  rotate_left
  · intro w hSw
    try dsimp only at hSw
    go_simp
    try with_reducible rfl
  simp only [Act.put, List.setIfInBounds_toArray, List.set_cons_zero, List.set_cons_succ]
  refine wpAnyH_take (i := 2) (v := ?_) (at_list rfl) (by kernel_rfl) (by kernel_rfl) (by kernel_rfl) (fun _ _ _ h => h) (Or.inl ⟨by rfl, ?_⟩) (by assumption) ?_
  rotate_left
  · intro w hSw
    try dsimp only at hSw
    go_simp
    try with_reducible rfl
  simp only [Act.put, List.setIfInBounds_toArray, List.set_cons_zero, List.set_cons_succ]
  refine wpAnyH_take (i := 3) (v := ?_) (at_list rfl) (by kernel_rfl) (by kernel_rfl) (by kernel_rfl) (fun _ _ _ h => h) (Or.inl ⟨by rfl, ?_⟩) (by assumption) ?_
  rotate_left
  · intro w hSw
    try dsimp only at hSw
    go_simp
    try with_reducible rfl
  simp only [Act.put, List.setIfInBounds_toArray, List.set_cons_zero, List.set_cons_succ]
  refine wpAnyH_take (i := 4) (v := ?_) (at_list rfl) (by kernel_rfl) (by kernel_rfl) (by kernel_rfl) (fun _ _ _ h => h) (Or.inl ⟨by rfl, ?_⟩) (by assumption) ?_
  rotate_left
  · intro w hSw
    try dsimp only at hSw
    go_simp
    try with_reducible rfl
  simp only [Act.put, List.setIfInBounds_toArray, List.set_cons_zero, List.set_cons_succ]
  refine wpAnyH_take (i := 5) (v := ?_) (at_list rfl) (by kernel_rfl) (by kernel_rfl) (by kernel_rfl) (fun _ _ _ h => h) (Or.inl ⟨by rfl, ?_⟩) (by assumption) ?_
  rotate_left
  · intro w hSw
    try dsimp only at hSw
    go_simp
    try with_reducible rfl
  simp only [Act.put, List.setIfInBounds_toArray, List.set_cons_zero, List.set_cons_succ]
  refine wpAnyH_take (i := 6) (v := ?_) (at_list rfl) (by kernel_rfl) (by kernel_rfl) (by kernel_rfl) (fun _ _ _ h => h) (Or.inl ⟨by rfl, ?_⟩) (by assumption) ?_
  rotate_left
  · intro w hSw
    try dsimp only at hSw
    go_simp
    try with_reducible rfl
  simp only [Act.put, List.setIfInBounds_toArray, List.set_cons_zero, List.set_cons_succ]
  refine wpAnyH_take (i := 7) (v := ?_) (at_list rfl) (by kernel_rfl) (by kernel_rfl) (by kernel_rfl) (fun _ _ _ h => h) (Or.inl ⟨by rfl, ?_⟩) (by assumption) ?_
  rotate_left
  · intro w hSw
    try dsimp only at hSw
    go_simp
    try with_reducible rfl
  simp only [Act.put, List.setIfInBounds_toArray, List.set_cons_zero, List.set_cons_succ]
  refine wpAnyH_take (i := 8) (v := ?_) (at_list rfl) (by kernel_rfl) (by kernel_rfl) (by kernel_rfl) (fun _ _ _ h => h) (Or.inl ⟨by rfl, ?_⟩) (by assumption) ?_
  rotate_left
  · intro w hSw
    try dsimp only at hSw
    go_simp
    try with_reducible rfl
  simp only [Act.put, List.setIfInBounds_toArray, List.set_cons_zero, List.set_cons_succ]
  refine wpAnyH_take (i := 9) (v := ?_) (at_list rfl) (by kernel_rfl) (by kernel_rfl) (by kernel_rfl) (fun _ _ _ h => h) (Or.inl ⟨by rfl, ?_⟩) (by assumption) ?_
  rotate_left
  · intro w hSw
    try dsimp only at hSw
    go_simp
    try with_reducible rfl
  simp only [Act.put, List.setIfInBounds_toArray, List.set_cons_zero, List.set_cons_succ]
  refine wpAnyH_take (i := 10) (v := ?_) (at_list rfl) (by kernel_rfl) (by kernel_rfl) (by kernel_rfl) (fun _ _ _ h => h) (Or.inl ⟨by rfl, ?_⟩) (by assumption) ?_
  rotate_left
  · intro w hSw
    try dsimp only at hSw
    go_simp
    try with_reducible rfl
  simp only [Act.put, List.setIfInBounds_toArray, List.set_cons_zero, List.set_cons_succ]
  refine wpAnyH_take (i := 11) (v := ?_) (at_list rfl) (by kernel_rfl) (by kernel_rfl) (by kernel_rfl) (fun _ _ _ h => h) (Or.inl ⟨by rfl, ?_⟩) (by assumption) ?_
  rotate_left
  · intro w hSw
    try dsimp only at hSw
    go_simp
    try with_reducible rfl
  simp only [Act.put, List.setIfInBounds_toArray, List.set_cons_zero, List.set_cons_succ]
  refine wpAnyH_take (i := 12) (v := ?_) (at_list rfl) (by kernel_rfl) (by kernel_rfl) (by kernel_rfl) (fun _ _ _ h => h) (Or.inl ⟨by rfl, ?_⟩) (by assumption) ?_
  rotate_left
  · intro w hSw
    try dsimp only at hSw
    go_simp
    try with_reducible rfl
  simp only [Act.put, List.setIfInBounds_toArray, List.set_cons_zero, List.set_cons_succ]
  refine wpAnyH_take (i := 13) (v := ?_) (at_list rfl) (by kernel_rfl) (by kernel_rfl) (by kernel_rfl) (fun _ _ _ h => h) (Or.inl ⟨by rfl, ?_⟩) (by assumption) ?_
  rotate_left
  · intro w hSw
    try dsimp only at hSw
    go_simp
    try with_reducible rfl
  simp only [Act.put, List.setIfInBounds_toArray, List.set_cons_zero, List.set_cons_succ]
  refine wpAnyH_take (i := 14) (v := ?_) (at_list rfl) (by kernel_rfl) (by kernel_rfl) (by kernel_rfl) (fun _ _ _ h => h) (Or.inl ⟨by rfl, ?_⟩) (by assumption) ?_
  rotate_left
  · intro w hSw
    try dsimp only at hSw
    go_simp
    try with_reducible rfl
  simp only [Act.put, List.setIfInBounds_toArray, List.set_cons_zero, List.set_cons_succ]
  refine wpAnyH_take (i := 15) (v := ?_) (at_list rfl) (by kernel_rfl) (by kernel_rfl) (by kernel_rfl) (fun _ _ _ h => h) (Or.inl ⟨by rfl, ?_⟩) (by assumption) ?_
  rotate_left
  · intro w hSw
    try dsimp only at hSw
    go_simp
    try with_reducible rfl
  simp only [Act.put, List.setIfInBounds_toArray, List.set_cons_zero, List.set_cons_succ]
  refine wpAnyH_take (i := 16) (v := ?_) (at_list rfl) (by kernel_rfl) (by kernel_rfl) (by kernel_rfl) (fun _ _ _ h => h) (Or.inl ⟨by rfl, ?_⟩) (by assumption) ?_
  rotate_left
  · intro w hSw
    try dsimp only at hSw
    go_simp
    try with_reducible rfl
  simp only [Act.put, List.setIfInBounds_toArray, List.set_cons_zero, List.set_cons_succ]
  refine wpAnyH_take (i := 17) (v := ?_) (at_list rfl) (by kernel_rfl) (by kernel_rfl) (by kernel_rfl) (fun _ _ _ h => h) (Or.inl ⟨by rfl, ?_⟩) (by assumption) ?_
  rotate_left
  · intro w hSw
    try dsimp only at hSw
    go_simp
    try with_reducible rfl
  simp only [Act.put, List.setIfInBounds_toArray, List.set_cons_zero, List.set_cons_succ]
  refine wpAnyH_ready (rs := [18]) (by kernel_rfl) (by simp) ?_
  refine AllReadyH.cons (at_list rfl) (fun KK hKK => ?_) AllReadyH.nil
  go_simp
  refine hKK.out _ _ ?_ (fun hHeld2 => ?_)
  · try dsimp only
    go_keep
  clear hKK KK hHeld
  rename _ => hHeld
  try simp only [Act.put, List.setIfInBounds_toArray, List.set_cons_zero, List.set_cons_succ]
  refine wpAnyH_ready (rs := [19]) (by kernel_rfl) (by simp) ?_
  refine AllReadyH.cons (at_list rfl) (fun KK hKK => ?_) AllReadyH.nil
  go_simp
  refine hKK.out _ _ ?_ (fun hHeld2 => ?_)
  · try dsimp only
    go_keep
  clear hKK KK hHeld
  rename _ => hHeld
  try simp only [Act.put, List.setIfInBounds_toArray, List.set_cons_zero, List.set_cons_succ]
  refine wpAnyH_done (by kernel_rfl) ?_ _
  refine NoPanic.normal ?_
  obtain ⟨b, hb⟩ : ∃ b, b = w2.heap.size := ⟨_, rfl⟩
  have HB3 := Lib.hid (show ((w2.alloc (.cells #[.int .i64 2, .int .i64 (a : Int), .int .i64 b0] 78)).drew).heap[b]? = some (.cells #[.int .i64 2, .int .i64 (a : Int), .int .i64 b0] 78 (0, 0)) by rw [hb]; exact blk_drew (blk_new _ _))
  have Q3 := Lib.hid (show Quiet w ((w2.alloc (.cells #[.int .i64 2, .int .i64 (a : Int), .int .i64 b0] 78)).drew) from (Q2.out.alloc _).drew)
  rw [← hb]
  clear hHeld t1 t2 t3 t4 t5 t6 t7 t8 t9 hb
  generalize (w2.alloc (.cells #[.int .i64 2, .int .i64 (a : Int), .int .i64 b0] 78)).drew = w3 at HB3 Q3 ⊢
  obtain ⟨⟨t1, t2, t3⟩, t4, t7, t8, t9⟩ := HF.out _ Q3.out
  clear t4 t9
  obtain ⟨cu, hcu⟩ := row_ownB (H.out.quiet Q3.out).tasks (k := g) (by rw [HV.out]; rfl)
  have hfz : w3.frozen? ⟨g, i * 3 + 1, none⟩ = false := blk_frozen hcu _
  have hbg : b ≠ g := blk_ne HB3.out hcu (by decide)
  have HB4 := Lib.hid (blk_far HB3.out (p := ⟨g, i * 3 + 1, none⟩) hbg (.int .i64 ((n : Int) + 1)))
  obtain ⟨hm4, ho4⟩ := (H.out.quiet Q3.out).setTask HT.out HV.out ⟨t.A, t.c, t.all, t.next + 1, t.has⟩ 1 (.int .i64 ((n : Int) + 1)) (by decide) (by rw [HNX.out]; simp [rtc]) ⟨rfl, rfl, rfl⟩ ⟨by simp, by show t.next + 1 ≤ t.all.length; have := HNX.out; have := HL.out; omega⟩ (H.out.fit.tz _ (List.mem_of_getElem? (H.out.thread HT.out))).2.1
  have H4 := Lib.hid hm4
  have O4 := Lib.hid (RSide.trans (RSide.quiet Q3.out) ho4)
  clear hm4 ho4 hcu
  go_upto_region 10 with (fail)
  clear t1 t2 t3 t7 t8 hfz
  generalize w3.setCell ⟨g, i * 3 + 1, none⟩ (.int .i64 ((n : Int) + 1)) = w4 at HB4 H4 O4 ⊢
  have x0 : w4.cell? ⟨b, 0, none⟩ = some (.int .i64 2) := blk_cell HB4.out 0
  have x1 : w4.cell? ⟨b, 1, none⟩ = some (.int .i64 (a : Int)) := blk_cell HB4.out 1
  have x2 : w4.cell? ⟨b, 2, none⟩ = some (.int .i64 b0) := blk_cell HB4.out 2
  have hbs : b < w4.heap.size := lt_of_heap HB4.out
  obtain ⟨gl, ol, hlA, gls, hll, hlc, hlm, hlx, hnn⟩ := H4.out.lock (a := a) hal
  have c0 := H4.out.head.1
  have c5 := H4.out.head.2.2.2.2.2
  have HLA := Lib.hid hlA
  rw [RRow.v, show ({ M with ts := M.ts.set i ⟨t.A, t.c, t.all, t.next + 1, t.has⟩ } : RMem).lk = M.lk from rfl, show ({ M with ts := M.ts.set i ⟨t.A, t.c, t.all, t.next + 1, t.has⟩ } : RMem).p = M.p from rfl] at c0
  rw [show ({ M with ts := M.ts.set i ⟨t.A, t.c, t.all, t.next + 1, t.has⟩ } : RMem).lk = M.lk from rfl] at hlA hll hlc hlm
  rw [hlA] at c0
  obtain ⟨nl, hnl⟩ : ∃ n, n = M.lk.l.length := ⟨_, rfl⟩
  obtain ⟨cl, hcl⟩ : ∃ n, n = M.lk.c := ⟨_, rfl⟩
  rw [← hnl] at c0 hll hlc
  rw [← hcl] at c0 hlc hlm
  unfold maxLen at hlm
  have HAL := Lib.hid hal
  obtain ⟨cul, hcul⟩ := (H4.out.rows _ (.head _)).type (k := gl) ⟨_, HLA.out, rfl⟩
  have hfl : w4.frozen? ⟨gl, ol + a, none⟩ = false := blk_frozen hcul _
  have hbl : b ≠ gl := blk_ne HB4.out hcul (by decide)
  have hp5 : M.p ≠ gl := blk_ne H4.out.blk hcul (by decide)
  have iw : IntKind.i64.wrap ((i : Int) + 1) = (i : Int) + 1 := by have := IntKind.wrap_i64 ((i : Int) + 1); omega
  have a0' : (0 : Int) ≤ (a : Int) := by omega
  have a1' : (a : Int) < (nl : Int) := by omega
  clear hlA hnl hcl hal hcul
  rw [show (setT W i ⟨t.all.drop (t.next + 1), t.has⟩).holds (a : Int) = some (i : Int) from HH.out] at hlx
  simp only [lockV] at hlx
  clear hnn
  go_wp2_with fail
  go_quiet (fail)
  go_wp2_with fail
  refine wp_region_noPanic ?_
  refine wp_region_held_drew (S := (fun w' => w'.cell? ⟨M.p, 0, none⟩ = some (.slice (some ⟨gl, ol, none⟩) nl cl) ∧ w'.cell? ⟨b, 1, none⟩ = some (.int .i64 (a : Int)))) (by kernel_rfl) ?_ (fun hHeld => ?_)
  · try dsimp only
    (first | exact ⟨(cell_far hp5 _ trivial).trans c0, (cell_far hbl _ trivial).trans x1⟩ | go_keep)
  refine wpAnyH_take (i := 0) (v := ?_) (at_list rfl) (by kernel_rfl) (by kernel_rfl) (by kernel_rfl) (fun _ _ _ h => h) (Or.inl ⟨by rfl, ?_⟩) (by assumption) ?_
  rotate_left
  · intro w hSw
    try dsimp only at hSw
    go_simp
    try with_reducible rfl
  simp only [Act.put, List.setIfInBounds_toArray, List.set_cons_zero, List.set_cons_succ]
  refine wpAnyH_take (i := 1) (v := ?_) (at_list rfl) (by kernel_rfl) (by kernel_rfl) (by kernel_rfl) (fun _ _ _ h => h) (Or.inl ⟨by rfl, ?_⟩) (by assumption) ?_
  rotate_left
  · intro w hSw
    try dsimp only at hSw
    go_simp
    try with_reducible rfl
  simp only [Act.put, List.setIfInBounds_toArray, List.set_cons_zero, List.set_cons_succ]
  refine wpAnyH_take (i := 2) (v := ?_) (at_list rfl) (by kernel_rfl) (by kernel_rfl) (by kernel_rfl) (fun _ _ _ h => h) (Or.inl ⟨by rfl, ?_⟩) (by assumption) ?_
  rotate_left
  · intro w hSw
    try dsimp only at hSw
    go_simp
    try with_reducible rfl
  simp only [Act.put, List.setIfInBounds_toArray, List.set_cons_zero, List.set_cons_succ]
  refine wpAnyH_take (i := 3) (v := ?_) (at_list rfl) (by kernel_rfl) (by kernel_rfl) (by kernel_rfl) (fun _ _ _ h => h) (Or.inl ⟨by rfl, ?_⟩) (by assumption) ?_
  rotate_left
  · intro w hSw
    try dsimp only at hSw
    go_simp
    try with_reducible rfl
  simp only [Act.put, List.setIfInBounds_toArray, List.set_cons_zero, List.set_cons_succ]
  refine wpAnyH_take (i := 4) (v := ?_) (at_list rfl) (by kernel_rfl) (by kernel_rfl) (by kernel_rfl) (fun _ _ _ h => h) (Or.inl ⟨by rfl, ?_⟩) (by assumption) ?_
  rotate_left
  · intro w hSw
    try dsimp only at hSw
    go_simp
    try with_reducible rfl
  simp only [Act.put, List.setIfInBounds_toArray, List.set_cons_zero, List.set_cons_succ]
  refine wpAnyH_take (i := 5) (v := ?_) (at_list rfl) (by kernel_rfl) (by kernel_rfl) (by kernel_rfl) (fun _ _ _ h => h) (Or.inl ⟨by rfl, ?_⟩) (by assumption) ?_
  rotate_left
  · intro w hSw
    try dsimp only at hSw
    go_simp
    try with_reducible rfl
  simp only [Act.put, List.setIfInBounds_toArray, List.set_cons_zero, List.set_cons_succ]
  refine wpAnyH_take (i := 6) (v := ?_) (at_list rfl) (by kernel_rfl) (by kernel_rfl) (by kernel_rfl) (fun _ _ _ h => h) (Or.inl ⟨by rfl, ?_⟩) (by assumption) ?_
  rotate_left
  · intro w hSw
    try dsimp only at hSw
    go_simp
    try with_reducible rfl
  simp only [Act.put, List.setIfInBounds_toArray, List.set_cons_zero, List.set_cons_succ]
  refine wpAnyH_ready (rs := [7]) (by kernel_rfl) (by simp) ?_
  refine AllReadyH.cons (at_list rfl) (fun KK hKK => ?_) AllReadyH.nil
  go_simp
  refine hKK.out _ _ ?_ (fun hHeld2 => ?_)
  · try dsimp only
    (first | exact ⟨(cell_far hp5 _ trivial).trans c0, (cell_far hbl _ trivial).trans x1⟩ | go_keep)
  clear hKK KK hHeld
  rename _ => hHeld
  try simp only [Act.put, List.setIfInBounds_toArray, List.set_cons_zero, List.set_cons_succ]
  refine wpAnyH_done (by kernel_rfl) ?_ _
  refine NoPanic.normal ?_
  have HQ5 := Lib.hid (show Quiet w4 (w4.drewN (nq + 1)) from (Only.refl _ _).drewN _)
  obtain ⟨hm5, ho5⟩ := (H4.out.quiet HQ5.out).setLock (a := a) HAL.out HLA.out none (fun x e => by cases e)
  have HP := Lib.hid (RPost.of hm5 (RSide.trans O4.out (RSide.trans (RSide.quiet HQ5.out) ho5)) rfl rfl)
  go_wp2_with (go_at_call 23; refine (rstate HP.out.1 (i : Int)).mono ?_; rintro e w6 ⟨rfl, hq6⟩; have Q6 := Lib.hid hq6; clear hq6)
  go_ret2
  exact ⟨rfl, HP.out.quiet Q6.out⟩
set_option maxRecDepth 8000 in
set_option maxHeartbeats 16000000 in
theorem rstep_held {w : World} {M : RMem} {W : Wd} (h : RAt w M W) {i : Nat} {t : RTask} (ht : M.ts[i]? = some t) (he : t.next < t.all.length) {o : Op3} (ho : t.all[t.next]? = some o) (hd : t.all.drop t.next = o :: t.all.drop (t.next + 1)) (hw : waitsB W o = false) (hk : o.kind = 2) {a : Nat} (ha : o.a = (a : Int)) (hal : (a : Int) < W.locks) (hh : W.holds (a : Int) ≠ some (i : Int)) :
    Calls Try.prog 21 #[.pointer (some ⟨M.p, 0, none⟩), .int .i64 (i : Int)] w fun e w' => e = .returned (.tuple #[.int .i64 3, .int .i64 19]) ∧ RPost M.base M.p w (setT (setT W i ⟨t.all.drop (t.next + 1), t.has⟩) i ⟨[], t.has⟩) w' := by
  have HS := Lib.hid (rstate_at h (i : Int))
  have hst : stateF W (i : Int) = 1 := by
    rw [stateF_at (h.thread ht)]
    unfold stateT
    simp only [hd]
    rw [hw]; rfl
  rw [hst] at HS
  have c4 := h.head.2.2.2.2.1
  have ps := h.head.2.2.2.2.2
  obtain ⟨g, cap, hv, hc1, hc2, gs, g0, g1, g2⟩ := h.task ht
  obtain ⟨o', go, off, ho', hdd, hmy, hA, hc3, hc4, os, o0, o1, o2⟩ := h.op ht he
  rw [ho] at ho'
  obtain rfl := Option.some.inj ho'
  have hi := (List.getElem?_eq_some_iff.1 ht).1
  obtain ⟨hl, hl2⟩ := h.len
  have hln := (h.tl t (List.mem_of_getElem? ht)).2.2
  clear hdd hmy
  rw [hv] at c4
  obtain ⟨N, hN⟩ : ∃ N, N = M.ts.length := ⟨_, rfl⟩
  rw [← hN] at c4 hl2 hc1 hi hv
  obtain ⟨L, hL⟩ : ∃ L, L = t.all.length := ⟨_, rfl⟩
  obtain ⟨n, hn⟩ : ∃ n, n = t.next := ⟨_, rfl⟩
  obtain ⟨c, hc⟩ : ∃ c, c = t.c := ⟨_, rfl⟩
  rw [hA] at g0
  rw [← hL] at g0 hln he hc3
  rw [← hn] at g1 he o0 o1 o2
  rw [← hc] at g0 hc3 hc4
  unfold maxLen at hc2 hc4
  have HG0 := Lib.hid (show (Value.slice (some ⟨go, off, none⟩) L c) = .slice t.A t.all.length t.c by rw [hA, hL, hc])
  have HF := Lib.hid (fun (V : World) (hV : Quiet w V) => show (V.cell? ⟨M.p, 4, none⟩ = some (.slice (some ⟨g, 0, none⟩) N cap) ∧ V.cell? ⟨g, i * 3, none⟩ = some (.slice (some ⟨go, off, none⟩) L c) ∧ V.cell? ⟨g, i * 3 + 1, none⟩ = some (.int .i64 (n : Nat))) ∧
    (V.cell? ⟨go, off + n * 3, none⟩ = some (.int .i64 o.kind) ∧ V.cell? ⟨go, off + n * 3 + 1, none⟩ = some (.int .i64 o.a) ∧ V.cell? ⟨go, off + n * 3 + 2, none⟩ = some (.int .i64 o.b)) ∧ M.p < V.heap.size ∧ g < V.heap.size ∧ go < V.heap.size from
    ⟨⟨(hV.cell (p := ⟨M.p, 4, none⟩) ps (fun x => x)).trans c4, (hV.cell (p := ⟨g, i * 3, none⟩) gs (fun x => x)).trans g0, (hV.cell (p := ⟨g, i * 3 + 1, none⟩) gs (fun x => x)).trans g1⟩,
      ⟨(hV.cell (p := ⟨go, off + n * 3, none⟩) os (fun x => x)).trans o0, (hV.cell (p := ⟨go, off + n * 3 + 1, none⟩) os (fun x => x)).trans o1, (hV.cell (p := ⟨go, off + n * 3 + 2, none⟩) os (fun x => x)).trans o2⟩, Nat.lt_of_lt_of_le ps hV.size, Nat.lt_of_lt_of_le gs hV.size, Nat.lt_of_lt_of_le os hV.size⟩)
  have H := Lib.hid h
  have HT := Lib.hid ht
  have HV := Lib.hid (hN ▸ hv)
  have HN := Lib.hid hN
  have HL := Lib.hid hL
  have HNX := Lib.hid hn
  obtain ⟨kd, a0, b0⟩ := o
  have HKD := Lib.hid (show kd = 2 from hk)
  simp only at HF hk
  subst hk
  simp only at ha
  subst ha
  have HH := Lib.hid hh
  clear hh
  have HO := Lib.hid (show W = W from rfl)
  clear hv hl h hN hL ho ht hA hn hc ho' hd hw c4 g0 g1 g2 o0 o1 o2 hst ps gs os
  have d1 : decide ((i : Int) < 0) = false := by simp
  have d2 : decide ((N : Int) ≤ (i : Int)) = false := by simp; omega
  have i0 : (0 : Int) ≤ (i : Int) := by omega
  have i1 : (i : Int) < (N : Int) := by omega
  have n0 : (0 : Int) ≤ (n : Int) := by omega
  have n1 : (n : Int) < (L : Int) := by omega
  go_enter Try.func21, Try.ntmps21
  go_wp2_with (first
    | (go_at_call 23; refine HS.out.mono ?_; rintro e w2 ⟨rfl, hq⟩; have Q2 := Lib.hid hq; clear hq; obtain ⟨⟨t1, t2, t3⟩, ⟨t4, t5, t6⟩, t7, t8, t9⟩ := HF.out _ Q2.out))
  refine wp_region_noPanic ?_
  refine wp_region_held_drew (S := (fun w' => w'.cell? ⟨M.p, 4, none⟩ = some (.slice (some ⟨g, 0, none⟩) N cap) ∧ w'.cell? ⟨g, i * 3, none⟩ = some (.slice (some ⟨go, off, none⟩) L c) ∧ w'.cell? ⟨g, i * 3 + 1, none⟩ = some (.int .i64 (n : Nat)) ∧ w'.cell? ⟨go, off + n * 3, none⟩ = some (.int .i64 2) ∧ w'.cell? ⟨go, off + n * 3 + 1, none⟩ = some (.int .i64 (a : Int)) ∧ w'.cell? ⟨go, off + n * 3 + 2, none⟩ = some (.int .i64 b0))) (by kernel_rfl) ?_ (fun hHeld => ?_)
  · try dsimp only
    go_keep
  refine wpAnyH_take (i := 0) (v := ?_) (at_list rfl) (by kernel_rfl) (by kernel_rfl) (by kernel_rfl) (fun _ _ _ h => h) (Or.inl ⟨by rfl, ?_⟩) (by assumption) ?_
  rotate_left
  · intro w hSw
    try dsimp only at hSw
    go_simp
    try with_reducible rfl
  simp only [Act.put, List.setIfInBounds_toArray, List.set_cons_zero, List.set_cons_succ]
  refine wpAnyH_take (i := 1) (v := ?_) (at_list rfl) (by kernel_rfl) (by kernel_rfl) (by kernel_rfl) (fun _ _ _ h => h) (Or.inl ⟨by rfl, ?_⟩) (by assumption) ?_
  rotate_left
  · intro w hSw
    try dsimp only at hSw
    go_simp
    try with_reducible rfl
  simp only [Act.put, List.setIfInBounds_toArray, List.set_cons_zero, List.set_cons_succ]
  refine wpAnyH_take (i := 2) (v := ?_) (at_list rfl) (by kernel_rfl) (by kernel_rfl) (by kernel_rfl) (fun _ _ _ h => h) (Or.inl ⟨by rfl, ?_⟩) (by assumption) ?_
  rotate_left
  · intro w hSw
    try dsimp only at hSw
    go_simp
    try with_reducible rfl
  simp only [Act.put, List.setIfInBounds_toArray, List.set_cons_zero, List.set_cons_succ]
  refine wpAnyH_take (i := 3) (v := ?_) (at_list rfl) (by kernel_rfl) (by kernel_rfl) (by kernel_rfl) (fun _ _ _ h => h) (Or.inl ⟨by rfl, ?_⟩) (by assumption) ?_
  rotate_left
  · intro w hSw
    try dsimp only at hSw
    go_simp
    try with_reducible rfl
  simp only [Act.put, List.setIfInBounds_toArray, List.set_cons_zero, List.set_cons_succ]
  refine wpAnyH_take (i := 4) (v := ?_) (at_list rfl) (by kernel_rfl) (by kernel_rfl) (by kernel_rfl) (fun _ _ _ h => h) (Or.inl ⟨by rfl, ?_⟩) (by assumption) ?_
  rotate_left
  · intro w hSw
    try dsimp only at hSw
    go_simp
    try with_reducible rfl
  simp only [Act.put, List.setIfInBounds_toArray, List.set_cons_zero, List.set_cons_succ]
  refine wpAnyH_take (i := 5) (v := ?_) (at_list rfl) (by kernel_rfl) (by kernel_rfl) (by kernel_rfl) (fun _ _ _ h => h) (Or.inl ⟨by rfl, ?_⟩) (by assumption) ?_
  rotate_left
  · intro w hSw
    try dsimp only at hSw
    go_simp
    try with_reducible rfl
  simp only [Act.put, List.setIfInBounds_toArray, List.set_cons_zero, List.set_cons_succ]
  refine wpAnyH_take (i := 6) (v := ?_) (at_list rfl) (by kernel_rfl) (by kernel_rfl) (by kernel_rfl) (fun _ _ _ h => h) (Or.inl ⟨by rfl, ?_⟩) (by assumption) ?_
  rotate_left
  · intro w hSw
    try dsimp only at hSw
    go_simp
    try with_reducible rfl
  simp only [Act.put, List.setIfInBounds_toArray, List.set_cons_zero, List.set_cons_succ]
  refine wpAnyH_take (i := 7) (v := ?_) (at_list rfl) (by kernel_rfl) (by kernel_rfl) (by kernel_rfl) (fun _ _ _ h => h) (Or.inl ⟨by rfl, ?_⟩) (by assumption) ?_
  rotate_left
  · intro w hSw
    try dsimp only at hSw
    go_simp
    try with_reducible rfl
  simp only [Act.put, List.setIfInBounds_toArray, List.set_cons_zero, List.set_cons_succ]
  refine wpAnyH_take (i := 8) (v := ?_) (at_list rfl) (by kernel_rfl) (by kernel_rfl) (by kernel_rfl) (fun _ _ _ h => h) (Or.inl ⟨by rfl, ?_⟩) (by assumption) ?_
  rotate_left
  · intro w hSw
    try dsimp only at hSw
    go_simp
    try with_reducible rfl
  simp only [Act.put, List.setIfInBounds_toArray, List.set_cons_zero, List.set_cons_succ]
  refine wpAnyH_take (i := 9) (v := ?_) (at_list rfl) (by kernel_rfl) (by kernel_rfl) (by kernel_rfl) (fun _ _ _ h => h) (Or.inl ⟨by rfl, ?_⟩) (by assumption) ?_
  rotate_left
  · intro w hSw
    try dsimp only at hSw
    go_simp
    try with_reducible rfl
  simp only [Act.put, List.setIfInBounds_toArray, List.set_cons_zero, List.set_cons_succ]
  refine wpAnyH_take (i := 10) (v := ?_) (at_list rfl) (by kernel_rfl) (by kernel_rfl) (by kernel_rfl) (fun _ _ _ h => h) (Or.inl ⟨by rfl, ?_⟩) (by assumption) ?_
  rotate_left
  · intro w hSw
    try dsimp only at hSw
    go_simp
    try with_reducible rfl
  simp only [Act.put, List.setIfInBounds_toArray, List.set_cons_zero, List.set_cons_succ]
  refine wpAnyH_take (i := 11) (v := ?_) (at_list rfl) (by kernel_rfl) (by kernel_rfl) (by kernel_rfl) (fun _ _ _ h => h) (Or.inl ⟨by rfl, ?_⟩) (by assumption) ?_
  rotate_left
  · intro w hSw
    try dsimp only at hSw
    go_simp
    try with_reducible rfl
  simp only [Act.put, List.setIfInBounds_toArray, List.set_cons_zero, List.set_cons_succ]
  refine wpAnyH_take (i := 12) (v := ?_) (at_list rfl) (by kernel_rfl) (by kernel_rfl) (by kernel_rfl) (fun _ _ _ h => h) (Or.inl ⟨by rfl, ?_⟩) (by assumption) ?_
  rotate_left
  · intro w hSw
    try dsimp only at hSw
    go_simp
    try with_reducible rfl
  simp only [Act.put, List.setIfInBounds_toArray, List.set_cons_zero, List.set_cons_succ]
  refine wpAnyH_take (i := 13) (v := ?_) (at_list rfl) (by kernel_rfl) (by kernel_rfl) (by kernel_rfl) (fun _ _ _ h => h) (Or.inl ⟨by rfl, ?_⟩) (by assumption) ?_
  rotate_left
  · intro w hSw
    try dsimp only at hSw
    go_simp
    try with_reducible rfl
  simp only [Act.put, List.setIfInBounds_toArray, List.set_cons_zero, List.set_cons_succ]
  refine wpAnyH_take (i := 14) (v := ?_) (at_list rfl) (by kernel_rfl) (by kernel_rfl) (by kernel_rfl) (fun _ _ _ h => h) (Or.inl ⟨by rfl, ?_⟩) (by assumption) ?_
  rotate_left
  · intro w hSw
    try dsimp only at hSw
    go_simp
    try with_reducible rfl
  simp only [Act.put, List.setIfInBounds_toArray, List.set_cons_zero, List.set_cons_succ]
  refine wpAnyH_take (i := 15) (v := ?_) (at_list rfl) (by kernel_rfl) (by kernel_rfl) (by kernel_rfl) (fun _ _ _ h => h) (Or.inl ⟨by rfl, ?_⟩) (by assumption) ?_
  rotate_left
  · intro w hSw
    try dsimp only at hSw
    go_simp
    try with_reducible rfl
  simp only [Act.put, List.setIfInBounds_toArray, List.set_cons_zero, List.set_cons_succ]
  refine wpAnyH_take (i := 16) (v := ?_) (at_list rfl) (by kernel_rfl) (by kernel_rfl) (by kernel_rfl) (fun _ _ _ h => h) (Or.inl ⟨by rfl, ?_⟩) (by assumption) ?_
  rotate_left
  · intro w hSw
    try dsimp only at hSw
    go_simp
    try with_reducible rfl
  simp only [Act.put, List.setIfInBounds_toArray, List.set_cons_zero, List.set_cons_succ]
  refine wpAnyH_take (i := 17) (v := ?_) (at_list rfl) (by kernel_rfl) (by kernel_rfl) (by kernel_rfl) (fun _ _ _ h => h) (Or.inl ⟨by rfl, ?_⟩) (by assumption) ?_
  rotate_left
  · intro w hSw
    try dsimp only at hSw
    go_simp
    try with_reducible rfl
  simp only [Act.put, List.setIfInBounds_toArray, List.set_cons_zero, List.set_cons_succ]
  refine wpAnyH_ready (rs := [18]) (by kernel_rfl) (by simp) ?_
  refine AllReadyH.cons (at_list rfl) (fun KK hKK => ?_) AllReadyH.nil
  go_simp
  refine hKK.out _ _ ?_ (fun hHeld2 => ?_)
  · try dsimp only
    go_keep
  clear hKK KK hHeld
  rename _ => hHeld
  try simp only [Act.put, List.setIfInBounds_toArray, List.set_cons_zero, List.set_cons_succ]
  refine wpAnyH_ready (rs := [19]) (by kernel_rfl) (by simp) ?_
  refine AllReadyH.cons (at_list rfl) (fun KK hKK => ?_) AllReadyH.nil
  go_simp
  refine hKK.out _ _ ?_ (fun hHeld2 => ?_)
  · try dsimp only
    go_keep
  clear hKK KK hHeld
  rename _ => hHeld
  try simp only [Act.put, List.setIfInBounds_toArray, List.set_cons_zero, List.set_cons_succ]
  refine wpAnyH_done (by kernel_rfl) ?_ _
  refine NoPanic.normal ?_
  obtain ⟨b, hb⟩ : ∃ b, b = w2.heap.size := ⟨_, rfl⟩
  have HB3 := Lib.hid (show ((w2.alloc (.cells #[.int .i64 2, .int .i64 (a : Int), .int .i64 b0] 78)).drew).heap[b]? = some (.cells #[.int .i64 2, .int .i64 (a : Int), .int .i64 b0] 78 (0, 0)) by rw [hb]; exact blk_drew (blk_new _ _))
  have Q3 := Lib.hid (show Quiet w ((w2.alloc (.cells #[.int .i64 2, .int .i64 (a : Int), .int .i64 b0] 78)).drew) from (Q2.out.alloc _).drew)
  rw [← hb]
  clear hHeld t1 t2 t3 t4 t5 t6 t7 t8 t9 hb
  generalize (w2.alloc (.cells #[.int .i64 2, .int .i64 (a : Int), .int .i64 b0] 78)).drew = w3 at HB3 Q3 ⊢
  obtain ⟨⟨t1, t2, t3⟩, t4, t7, t8, t9⟩ := HF.out _ Q3.out
  clear t4 t9
  obtain ⟨cu, hcu⟩ := row_ownB (H.out.quiet Q3.out).tasks (k := g) (by rw [HV.out]; rfl)
  have hfz : w3.frozen? ⟨g, i * 3 + 1, none⟩ = false := blk_frozen hcu _
  have hbg : b ≠ g := blk_ne HB3.out hcu (by decide)
  have HB4 := Lib.hid (blk_far HB3.out (p := ⟨g, i * 3 + 1, none⟩) hbg (.int .i64 ((n : Int) + 1)))
  obtain ⟨hm4, ho4⟩ := (H.out.quiet Q3.out).setTask HT.out HV.out ⟨t.A, t.c, t.all, t.next + 1, t.has⟩ 1 (.int .i64 ((n : Int) + 1)) (by decide) (by rw [HNX.out]; simp [rtc]) ⟨rfl, rfl, rfl⟩ ⟨by simp, by show t.next + 1 ≤ t.all.length; have := HNX.out; have := HL.out; omega⟩ (H.out.fit.tz _ (List.mem_of_getElem? (H.out.thread HT.out))).2.1
  have H4 := Lib.hid hm4
  have O4 := Lib.hid (RSide.trans (RSide.quiet Q3.out) ho4)
  clear hm4 ho4 hcu
  go_upto_region 10 with (fail)
  clear t1 t2 t3 t7 t8 hfz
  generalize w3.setCell ⟨g, i * 3 + 1, none⟩ (.int .i64 ((n : Int) + 1)) = w4 at HB4 H4 O4 ⊢
  have x0 : w4.cell? ⟨b, 0, none⟩ = some (.int .i64 2) := blk_cell HB4.out 0
  have x1 : w4.cell? ⟨b, 1, none⟩ = some (.int .i64 (a : Int)) := blk_cell HB4.out 1
  have x2 : w4.cell? ⟨b, 2, none⟩ = some (.int .i64 b0) := blk_cell HB4.out 2
  have hbs : b < w4.heap.size := lt_of_heap HB4.out
  obtain ⟨gl, ol, hlA, gls, hll, hlc, hlm, hlx, hnn⟩ := H4.out.lock (a := a) hal
  have c0 := H4.out.head.1
  have c5 := H4.out.head.2.2.2.2.2
  have HLA := Lib.hid hlA
  rw [RRow.v, show ({ M with ts := M.ts.set i ⟨t.A, t.c, t.all, t.next + 1, t.has⟩ } : RMem).lk = M.lk from rfl, show ({ M with ts := M.ts.set i ⟨t.A, t.c, t.all, t.next + 1, t.has⟩ } : RMem).p = M.p from rfl] at c0
  rw [show ({ M with ts := M.ts.set i ⟨t.A, t.c, t.all, t.next + 1, t.has⟩ } : RMem).lk = M.lk from rfl] at hlA hll hlc hlm
  rw [hlA] at c0
  obtain ⟨nl, hnl⟩ : ∃ n, n = M.lk.l.length := ⟨_, rfl⟩
  obtain ⟨cl, hcl⟩ : ∃ n, n = M.lk.c := ⟨_, rfl⟩
  rw [← hnl] at c0 hll hlc
  rw [← hcl] at c0 hlc hlm
  unfold maxLen at hlm
  have HAL := Lib.hid hal
  obtain ⟨cul, hcul⟩ := (H4.out.rows _ (.head _)).type (k := gl) ⟨_, HLA.out, rfl⟩
  have hfl : w4.frozen? ⟨gl, ol + a, none⟩ = false := blk_frozen hcul _
  have hbl : b ≠ gl := blk_ne HB4.out hcul (by decide)
  have hp5 : M.p ≠ gl := blk_ne H4.out.blk hcul (by decide)
  have iw : IntKind.i64.wrap ((i : Int) + 1) = (i : Int) + 1 := by have := IntKind.wrap_i64 ((i : Int) + 1); omega
  have a0' : (0 : Int) ≤ (a : Int) := by omega
  have a1' : (a : Int) < (nl : Int) := by omega
  clear hlA hnl hcl hal hcul
  obtain ⟨xl, hxl⟩ : ∃ xl, xl = lockV ((setT W i ⟨t.all.drop (t.next + 1), t.has⟩).holds (a : Int)) := ⟨_, rfl⟩
  rw [← hxl] at hlx
  have hxi : xl ≠ (i : Int) + 1 := by
    have hh := HH.out
    have e : (setT W i ⟨t.all.drop (t.next + 1), t.has⟩).holds (a : Int) = W.holds (a : Int) := rfl
    rw [e] at hxl hnn
    rw [hxl]
    cases hc : W.holds (a : Int) with
    | none => simp only [lockV]; omega
    | some y => simp only [lockV]; intro q; exact hh (by rw [hc]; congr 1; omega)
  have dne : (xl != (i : Int) + 1) = true := by simpa using hxi
  clear hnn hxl hxi
  have HT4 := Lib.hid (show ({ M with ts := M.ts.set i ⟨t.A, t.c, t.all, t.next + 1, t.has⟩ } : RMem).ts[i]? = some ⟨t.A, t.c, t.all, t.next + 1, t.has⟩ from List.getElem?_set_self (by have := HN.out; omega))
  have HV4 := Lib.hid (show ({ M with ts := M.ts.set i ⟨t.A, t.c, t.all, t.next + 1, t.has⟩ } : RMem).vt = .slice (some ⟨g, 0, none⟩) ({ M with ts := M.ts.set i ⟨t.A, t.c, t.all, t.next + 1, t.has⟩ } : RMem).ts.length cap by rw [HV.out]; simp)
  obtain ⟨cug, hcug⟩ := row_ownB H4.out.tasks (k := g) (by rw [HV4.out]; rfl)
  have hpg : M.p ≠ g := blk_ne H4.out.blk hcug (by decide)
  have hbg4 : b ≠ g := blk_ne HB4.out hcug (by decide)
  have hfg : w4.frozen? ⟨g, i * 3 + 1, none⟩ = false := blk_frozen hcug _
  have hgs : g < w4.heap.size := lt_of_heap hcug
  have s4 : w4.cell? ⟨M.p, 4, none⟩ = some (.slice (some ⟨g, 0, none⟩) N cap) := by have := H4.out.head.2.2.2.2.1; rw [HV4.out] at this; rw [HN.out]; simpa using this
  obtain ⟨s0, s1, s2⟩ : w4.cell? ⟨g, i * 3, none⟩ = some (.slice (some ⟨go, off, none⟩) L c) ∧ w4.cell? ⟨g, i * 3 + 1, none⟩ = some (.int .i64 ((n : Int) + 1)) ∧ w4.cell? ⟨g, i * 3 + 2, none⟩ = some (.int .i64 t.has) := by
    obtain ⟨g', cap', e1, _, _, _, e2, e3, e4⟩ := H4.out.task HT4.out
    rw [HV4.out] at e1
    simp only [Value.slice.injEq, Option.some.injEq, Addr.mk.injEq] at e1
    obtain ⟨⟨rfl, _⟩, _⟩ := e1
    rw [HG0.out, HNX.out]; exact ⟨e2, by rw [e3]; simp, e4⟩
  clear hcug
  go_wp2_with fail
  go_quiet (fail)
  go_wp2_with fail
  refine wp_region_noPanic ?_
  refine wp_region_held_drew (S := (fun w' => w'.cell? ⟨M.p, 4, none⟩ = some (.slice (some ⟨g, 0, none⟩) N cap) ∧ w'.cell? ⟨g, i * 3, none⟩ = some (.slice (some ⟨go, off, none⟩) L c))) (by kernel_rfl) ?_ (fun hHeld => ?_)
  · try dsimp only
    (first | exact ⟨(cell_far hpg _ trivial).trans s4, (cell_off (by omega) _).trans s0⟩ | go_keep)
  refine wpAnyH_take (i := 0) (v := ?_) (at_list rfl) (by kernel_rfl) (by kernel_rfl) (by kernel_rfl) (fun _ _ _ h => h) (Or.inl ⟨by rfl, ?_⟩) (by assumption) ?_
  rotate_left
  · intro w hSw
    try dsimp only at hSw
    go_simp
    try with_reducible rfl
  simp only [Act.put, List.setIfInBounds_toArray, List.set_cons_zero, List.set_cons_succ]
  refine wpAnyH_take (i := 1) (v := ?_) (at_list rfl) (by kernel_rfl) (by kernel_rfl) (by kernel_rfl) (fun _ _ _ h => h) (Or.inl ⟨by rfl, ?_⟩) (by assumption) ?_
  rotate_left
  · intro w hSw
    try dsimp only at hSw
    go_simp
    try with_reducible rfl
  simp only [Act.put, List.setIfInBounds_toArray, List.set_cons_zero, List.set_cons_succ]
  refine wpAnyH_take (i := 2) (v := ?_) (at_list rfl) (by kernel_rfl) (by kernel_rfl) (by kernel_rfl) (fun _ _ _ h => h) (Or.inl ⟨by rfl, ?_⟩) (by assumption) ?_
  rotate_left
  · intro w hSw
    try dsimp only at hSw
    go_simp
    try with_reducible rfl
  simp only [Act.put, List.setIfInBounds_toArray, List.set_cons_zero, List.set_cons_succ]
  refine wpAnyH_take (i := 3) (v := ?_) (at_list rfl) (by kernel_rfl) (by kernel_rfl) (by kernel_rfl) (fun _ _ _ h => h) (Or.inl ⟨by rfl, ?_⟩) (by assumption) ?_
  rotate_left
  · intro w hSw
    try dsimp only at hSw
    go_simp
    try with_reducible rfl
  simp only [Act.put, List.setIfInBounds_toArray, List.set_cons_zero, List.set_cons_succ]
  refine wpAnyH_take (i := 4) (v := ?_) (at_list rfl) (by kernel_rfl) (by kernel_rfl) (by kernel_rfl) (fun _ _ _ h => h) (Or.inl ⟨by rfl, ?_⟩) (by assumption) ?_
  rotate_left
  · intro w hSw
    try dsimp only at hSw
    go_simp
    try with_reducible rfl
  simp only [Act.put, List.setIfInBounds_toArray, List.set_cons_zero, List.set_cons_succ]
  refine wpAnyH_take (i := 5) (v := ?_) (at_list rfl) (by kernel_rfl) (by kernel_rfl) (by kernel_rfl) (fun _ _ _ h => h) (Or.inl ⟨by rfl, ?_⟩) (by assumption) ?_
  rotate_left
  · intro w hSw
    try dsimp only at hSw
    go_simp
    try with_reducible rfl
  simp only [Act.put, List.setIfInBounds_toArray, List.set_cons_zero, List.set_cons_succ]
  refine wpAnyH_take (i := 6) (v := ?_) (at_list rfl) (by kernel_rfl) (by kernel_rfl) (by kernel_rfl) (fun _ _ _ h => h) (Or.inl ⟨by rfl, ?_⟩) (by assumption) ?_
  rotate_left
  · intro w hSw
    try dsimp only at hSw
    go_simp
    try with_reducible rfl
  simp only [Act.put, List.setIfInBounds_toArray, List.set_cons_zero, List.set_cons_succ]
  refine wpAnyH_take (i := 7) (v := ?_) (at_list rfl) (by kernel_rfl) (by kernel_rfl) (by kernel_rfl) (fun _ _ _ h => h) (Or.inl ⟨by rfl, ?_⟩) (by assumption) ?_
  rotate_left
  · intro w hSw
    try dsimp only at hSw
    go_simp
    try with_reducible rfl
  simp only [Act.put, List.setIfInBounds_toArray, List.set_cons_zero, List.set_cons_succ]
  refine wpAnyH_take (i := 8) (v := ?_) (at_list rfl) (by kernel_rfl) (by kernel_rfl) (by kernel_rfl) (fun _ _ _ h => h) (Or.inl ⟨by rfl, ?_⟩) (by assumption) ?_
  rotate_left
  · intro w hSw
    try dsimp only at hSw
    go_simp
    try with_reducible rfl
  simp only [Act.put, List.setIfInBounds_toArray, List.set_cons_zero, List.set_cons_succ]
  refine wpAnyH_take (i := 9) (v := ?_) (at_list rfl) (by kernel_rfl) (by kernel_rfl) (by kernel_rfl) (fun _ _ _ h => h) (Or.inl ⟨by rfl, ?_⟩) (by assumption) ?_
  rotate_left
  · intro w hSw
    try dsimp only at hSw
    go_simp
    try with_reducible rfl
  simp only [Act.put, List.setIfInBounds_toArray, List.set_cons_zero, List.set_cons_succ]
  refine wpAnyH_take (i := 10) (v := ?_) (at_list rfl) (by kernel_rfl) (by kernel_rfl) (by kernel_rfl) (fun _ _ _ h => h) (Or.inl ⟨by rfl, ?_⟩) (by assumption) ?_
  rotate_left
  · intro w hSw
    try dsimp only at hSw
    go_simp
    try with_reducible rfl
  simp only [Act.put, List.setIfInBounds_toArray, List.set_cons_zero, List.set_cons_succ]
  refine wpAnyH_take (i := 11) (v := ?_) (at_list rfl) (by kernel_rfl) (by kernel_rfl) (by kernel_rfl) (fun _ _ _ h => h) (Or.inl ⟨by rfl, ?_⟩) (by assumption) ?_
  rotate_left
  · intro w hSw
    try dsimp only at hSw
    go_simp
    try with_reducible rfl
  simp only [Act.put, List.setIfInBounds_toArray, List.set_cons_zero, List.set_cons_succ]
  refine wpAnyH_take (i := 12) (v := ?_) (at_list rfl) (by kernel_rfl) (by kernel_rfl) (by kernel_rfl) (fun _ _ _ h => h) (Or.inl ⟨by rfl, ?_⟩) (by assumption) ?_
  rotate_left
  · intro w hSw
    try dsimp only at hSw
    go_simp
    try with_reducible rfl
  simp only [Act.put, List.setIfInBounds_toArray, List.set_cons_zero, List.set_cons_succ]
  refine wpAnyH_take (i := 13) (v := ?_) (at_list rfl) (by kernel_rfl) (by kernel_rfl) (by kernel_rfl) (fun _ _ _ h => h) (Or.inl ⟨by rfl, ?_⟩) (by assumption) ?_
  rotate_left
  · intro w hSw
    try dsimp only at hSw
    go_simp
    try with_reducible rfl
  simp only [Act.put, List.setIfInBounds_toArray, List.set_cons_zero, List.set_cons_succ]
  refine wpAnyH_take (i := 14) (v := ?_) (at_list rfl) (by kernel_rfl) (by kernel_rfl) (by kernel_rfl) (fun _ _ _ h => h) (Or.inl ⟨by rfl, ?_⟩) (by assumption) ?_
  rotate_left
  · intro w hSw
    try dsimp only at hSw
    go_simp
    try with_reducible rfl
  simp only [Act.put, List.setIfInBounds_toArray, List.set_cons_zero, List.set_cons_succ]
  refine wpAnyH_take (i := 15) (v := ?_) (at_list rfl) (by kernel_rfl) (by kernel_rfl) (by kernel_rfl) (fun _ _ _ h => h) (Or.inl ⟨by rfl, ?_⟩) (by assumption) ?_
  rotate_left
  · intro w hSw
    try dsimp only at hSw
    go_simp
    try with_reducible rfl
  simp only [Act.put, List.setIfInBounds_toArray, List.set_cons_zero, List.set_cons_succ]
  refine wpAnyH_ready (rs := [16]) (by kernel_rfl) (by simp) ?_
  refine AllReadyH.cons (at_list rfl) (fun KK hKK => ?_) AllReadyH.nil
  go_simp
  refine hKK.out _ _ ?_ (fun hHeld2 => ?_)
  · try dsimp only
    (first | exact ⟨(cell_far hpg _ trivial).trans s4, (cell_off (by omega) _).trans s0⟩ | go_keep)
  clear hKK KK hHeld
  rename _ => hHeld
  try simp only [Act.put, List.setIfInBounds_toArray, List.set_cons_zero, List.set_cons_succ]
  refine wpAnyH_done (by kernel_rfl) ?_ _
  refine NoPanic.normal ?_
  have HQ5 := Lib.hid (show Quiet w4 (w4.drewN (nq + 1)) from (Only.refl _ _).drewN _)
  obtain ⟨hm5, ho5⟩ := (H4.out.quiet HQ5.out).setTask HT4.out HV4.out ⟨t.A, t.c, t.all, t.all.length, t.has⟩ 1 (.int .i64 (L : Nat)) (by decide) (by rw [HL.out]; simp [rtc]) ⟨rfl, rfl, rfl⟩ ⟨by have := HNX.out; have := HL.out; show t.next + 1 ≤ t.all.length; omega, Nat.le_refl _⟩ (H.out.fit.tz _ (List.mem_of_getElem? (H.out.thread HT.out))).2.1
  have e5 : setT (setT W i ⟨t.all.drop (t.next + 1), t.has⟩) i ⟨t.all.drop t.all.length, t.has⟩ = (setT (setT W i ⟨t.all.drop (t.next + 1), t.has⟩) i ⟨[], t.has⟩) := by rw [List.drop_length]
  have HP := Lib.hid (RPost.of hm5 (RSide.trans O4.out (RSide.trans (RSide.quiet HQ5.out) ho5)) rfl rfl)
  simp only [e5] at HP
  go_wp2_with fail
  go_ret2
  exact ⟨rfl, HP.out⟩
set_option maxRecDepth 8000 in
set_option maxHeartbeats 16000000 in
theorem rstep_add {w : World} {M : RMem} {W : Wd} (h : RAt w M W) {i : Nat} {t : RTask} (ht : M.ts[i]? = some t) (he : t.next < t.all.length) {o : Op3} (ho : t.all[t.next]? = some o) (hd : t.all.drop t.next = o :: t.all.drop (t.next + 1)) (hw : waitsB W o = false) (hk : o.kind = 5) {a : Nat} (ha : o.a = (a : Int)) {x : Int} (hx : W.words[a]? = some x) :
    Calls Try.prog 21 #[.pointer (some ⟨M.p, 0, none⟩), .int .i64 (i : Int)] w fun e w' => e = .returned (.tuple #[.int .i64 (stateF { (setT W i ⟨t.all.drop (t.next + 1), t.has⟩) with words := (setT W i ⟨t.all.drop (t.next + 1), t.has⟩).words.set a (w32 (x + w32 o.b)) } (i : Int)), .int .i64 0]) ∧ RPost M.base M.p w { (setT W i ⟨t.all.drop (t.next + 1), t.has⟩) with words := (setT W i ⟨t.all.drop (t.next + 1), t.has⟩).words.set a (w32 (x + w32 o.b)) } w' := by
  have HS := Lib.hid (rstate_at h (i : Int))
  have hst : stateF W (i : Int) = 1 := by
    rw [stateF_at (h.thread ht)]
    unfold stateT
    simp only [hd]
    rw [hw]; rfl
  rw [hst] at HS
  have c4 := h.head.2.2.2.2.1
  have ps := h.head.2.2.2.2.2
  obtain ⟨g, cap, hv, hc1, hc2, gs, g0, g1, g2⟩ := h.task ht
  obtain ⟨o', go, off, ho', hdd, hmy, hA, hc3, hc4, os, o0, o1, o2⟩ := h.op ht he
  rw [ho] at ho'
  obtain rfl := Option.some.inj ho'
  have hi := (List.getElem?_eq_some_iff.1 ht).1
  obtain ⟨hl, hl2⟩ := h.len
  have hln := (h.tl t (List.mem_of_getElem? ht)).2.2
  clear hdd hmy
  rw [hv] at c4
  obtain ⟨N, hN⟩ : ∃ N, N = M.ts.length := ⟨_, rfl⟩
  rw [← hN] at c4 hl2 hc1 hi hv
  obtain ⟨L, hL⟩ : ∃ L, L = t.all.length := ⟨_, rfl⟩
  obtain ⟨n, hn⟩ : ∃ n, n = t.next := ⟨_, rfl⟩
  obtain ⟨c, hc⟩ : ∃ c, c = t.c := ⟨_, rfl⟩
  rw [hA] at g0
  rw [← hL] at g0 hln he hc3
  rw [← hn] at g1 he o0 o1 o2
  rw [← hc] at g0 hc3 hc4
  unfold maxLen at hc2 hc4
  have HG0 := Lib.hid (show (Value.slice (some ⟨go, off, none⟩) L c) = .slice t.A t.all.length t.c by rw [hA, hL, hc])
  have HF := Lib.hid (fun (V : World) (hV : Quiet w V) => show (V.cell? ⟨M.p, 4, none⟩ = some (.slice (some ⟨g, 0, none⟩) N cap) ∧ V.cell? ⟨g, i * 3, none⟩ = some (.slice (some ⟨go, off, none⟩) L c) ∧ V.cell? ⟨g, i * 3 + 1, none⟩ = some (.int .i64 (n : Nat))) ∧
    (V.cell? ⟨go, off + n * 3, none⟩ = some (.int .i64 o.kind) ∧ V.cell? ⟨go, off + n * 3 + 1, none⟩ = some (.int .i64 o.a) ∧ V.cell? ⟨go, off + n * 3 + 2, none⟩ = some (.int .i64 o.b)) ∧ M.p < V.heap.size ∧ g < V.heap.size ∧ go < V.heap.size from
    ⟨⟨(hV.cell (p := ⟨M.p, 4, none⟩) ps (fun x => x)).trans c4, (hV.cell (p := ⟨g, i * 3, none⟩) gs (fun x => x)).trans g0, (hV.cell (p := ⟨g, i * 3 + 1, none⟩) gs (fun x => x)).trans g1⟩,
      ⟨(hV.cell (p := ⟨go, off + n * 3, none⟩) os (fun x => x)).trans o0, (hV.cell (p := ⟨go, off + n * 3 + 1, none⟩) os (fun x => x)).trans o1, (hV.cell (p := ⟨go, off + n * 3 + 2, none⟩) os (fun x => x)).trans o2⟩, Nat.lt_of_lt_of_le ps hV.size, Nat.lt_of_lt_of_le gs hV.size, Nat.lt_of_lt_of_le os hV.size⟩)
  have H := Lib.hid h
  have HT := Lib.hid ht
  have HV := Lib.hid (hN ▸ hv)
  have HN := Lib.hid hN
  have HL := Lib.hid hL
  have HNX := Lib.hid hn
  obtain ⟨kd, a0, b0⟩ := o
  have HKD := Lib.hid (show kd = 5 from hk)
  simp only at HF hk
  subst hk
  simp only at ha
  subst ha
  have HX := Lib.hid hx
  clear hx
  have HO := Lib.hid (show W = W from rfl)
  clear hv hl h hN hL ho ht hA hn hc ho' hd hw c4 g0 g1 g2 o0 o1 o2 hst ps gs os
  have d1 : decide ((i : Int) < 0) = false := by simp
  have d2 : decide ((N : Int) ≤ (i : Int)) = false := by simp; omega
  have i0 : (0 : Int) ≤ (i : Int) := by omega
  have i1 : (i : Int) < (N : Int) := by omega
  have n0 : (0 : Int) ≤ (n : Int) := by omega
  have n1 : (n : Int) < (L : Int) := by omega
  go_enter Try.func21, Try.ntmps21
  go_wp2_with (first
    | (go_at_call 23; refine HS.out.mono ?_; rintro e w2 ⟨rfl, hq⟩; have Q2 := Lib.hid hq; clear hq; obtain ⟨⟨t1, t2, t3⟩, ⟨t4, t5, t6⟩, t7, t8, t9⟩ := HF.out _ Q2.out))
  refine wp_region_noPanic ?_
  refine wp_region_held_drew (S := (fun w' => w'.cell? ⟨M.p, 4, none⟩ = some (.slice (some ⟨g, 0, none⟩) N cap) ∧ w'.cell? ⟨g, i * 3, none⟩ = some (.slice (some ⟨go, off, none⟩) L c) ∧ w'.cell? ⟨g, i * 3 + 1, none⟩ = some (.int .i64 (n : Nat)) ∧ w'.cell? ⟨go, off + n * 3, none⟩ = some (.int .i64 5) ∧ w'.cell? ⟨go, off + n * 3 + 1, none⟩ = some (.int .i64 (a : Int)) ∧ w'.cell? ⟨go, off + n * 3 + 2, none⟩ = some (.int .i64 b0))) (by kernel_rfl) ?_ (fun hHeld => ?_)
  · try dsimp only
    go_keep
  refine wpAnyH_take (i := 0) (v := ?_) (at_list rfl) (by kernel_rfl) (by kernel_rfl) (by kernel_rfl) (fun _ _ _ h => h) (Or.inl ⟨by rfl, ?_⟩) (by assumption) ?_
  rotate_left
  · intro w hSw
    try dsimp only at hSw
    go_simp
    try with_reducible rfl
  simp only [Act.put, List.setIfInBounds_toArray, List.set_cons_zero, List.set_cons_succ]
  refine wpAnyH_take (i := 1) (v := ?_) (at_list rfl) (by kernel_rfl) (by kernel_rfl) (by kernel_rfl) (fun _ _ _ h => h) (Or.inl ⟨by rfl, ?_⟩) (by assumption) ?_
  rotate_left
  · intro w hSw
    try dsimp only at hSw
    go_simp
    try with_reducible rfl
  simp only [Act.put, List.setIfInBounds_toArray, List.set_cons_zero, List.set_cons_succ]
  refine wpAnyH_take (i := 2) (v := ?_) (at_list rfl) (by kernel_rfl) (by kernel_rfl) (by kernel_rfl) (fun _ _ _ h => h) (Or.inl ⟨by rfl, ?_⟩) (by assumption) ?_
  rotate_left
  · intro w hSw
    try dsimp only at hSw
    go_simp
    try with_reducible rfl
  simp only [Act.put, List.setIfInBounds_toArray, List.set_cons_zero, List.set_cons_succ]
  refine wpAnyH_take (i := 3) (v := ?_) (at_list rfl) (by kernel_rfl) (by kernel_rfl) (by kernel_rfl) (fun _ _ _ h => h) (Or.inl ⟨by rfl, ?_⟩) (by assumption) ?_
  rotate_left
  · intro w hSw
    try dsimp only at hSw
    go_simp
    try with_reducible rfl
  simp only [Act.put, List.setIfInBounds_toArray, List.set_cons_zero, List.set_cons_succ]
  refine wpAnyH_take (i := 4) (v := ?_) (at_list rfl) (by kernel_rfl) (by kernel_rfl) (by kernel_rfl) (fun _ _ _ h => h) (Or.inl ⟨by rfl, ?_⟩) (by assumption) ?_
  rotate_left
  · intro w hSw
    try dsimp only at hSw
    go_simp
    try with_reducible rfl
  simp only [Act.put, List.setIfInBounds_toArray, List.set_cons_zero, List.set_cons_succ]
  refine wpAnyH_take (i := 5) (v := ?_) (at_list rfl) (by kernel_rfl) (by kernel_rfl) (by kernel_rfl) (fun _ _ _ h => h) (Or.inl ⟨by rfl, ?_⟩) (by assumption) ?_
  rotate_left
  · intro w hSw
    try dsimp only at hSw
    go_simp
    try with_reducible rfl
  simp only [Act.put, List.setIfInBounds_toArray, List.set_cons_zero, List.set_cons_succ]
  refine wpAnyH_take (i := 6) (v := ?_) (at_list rfl) (by kernel_rfl) (by kernel_rfl) (by kernel_rfl) (fun _ _ _ h => h) (Or.inl ⟨by rfl, ?_⟩) (by assumption) ?_
  rotate_left
  · intro w hSw
    try dsimp only at hSw
    go_simp
    try with_reducible rfl
  simp only [Act.put, List.setIfInBounds_toArray, List.set_cons_zero, List.set_cons_succ]
  refine wpAnyH_take (i := 7) (v := ?_) (at_list rfl) (by kernel_rfl) (by kernel_rfl) (by kernel_rfl) (fun _ _ _ h => h) (Or.inl ⟨by rfl, ?_⟩) (by assumption) ?_
  rotate_left
  · intro w hSw
    try dsimp only at hSw
    go_simp
    try with_reducible rfl
  simp only [Act.put, List.setIfInBounds_toArray, List.set_cons_zero, List.set_cons_succ]
  refine wpAnyH_take (i := 8) (v := ?_) (at_list rfl) (by kernel_rfl) (by kernel_rfl) (by kernel_rfl) (fun _ _ _ h => h) (Or.inl ⟨by rfl, ?_⟩) (by assumption) ?_
  rotate_left
  · intro w hSw
    try dsimp only at hSw
    go_simp
    try with_reducible rfl
  simp only [Act.put, List.setIfInBounds_toArray, List.set_cons_zero, List.set_cons_succ]
  refine wpAnyH_take (i := 9) (v := ?_) (at_list rfl) (by kernel_rfl) (by kernel_rfl) (by kernel_rfl) (fun _ _ _ h => h) (Or.inl ⟨by rfl, ?_⟩) (by assumption) ?_
  rotate_left
  · intro w hSw
    try dsimp only at hSw
    go_simp
    try with_reducible rfl
  simp only [Act.put, List.setIfInBounds_toArray, List.set_cons_zero, List.set_cons_succ]
  refine wpAnyH_take (i := 10) (v := ?_) (at_list rfl) (by kernel_rfl) (by kernel_rfl) (by kernel_rfl) (fun _ _ _ h => h) (Or.inl ⟨by rfl, ?_⟩) (by assumption) ?_
  rotate_left
  · intro w hSw
    try dsimp only at hSw
    go_simp
    try with_reducible rfl
  simp only [Act.put, List.setIfInBounds_toArray, List.set_cons_zero, List.set_cons_succ]
  refine wpAnyH_take (i := 11) (v := ?_) (at_list rfl) (by kernel_rfl) (by kernel_rfl) (by kernel_rfl) (fun _ _ _ h => h) (Or.inl ⟨by rfl, ?_⟩) (by assumption) ?_
  rotate_left
  · intro w hSw
    try dsimp only at hSw
    go_simp
    try with_reducible rfl
  simp only [Act.put, List.setIfInBounds_toArray, List.set_cons_zero, List.set_cons_succ]
  refine wpAnyH_take (i := 12) (v := ?_) (at_list rfl) (by kernel_rfl) (by kernel_rfl) (by kernel_rfl) (fun _ _ _ h => h) (Or.inl ⟨by rfl, ?_⟩) (by assumption) ?_
  rotate_left
  · intro w hSw
    try dsimp only at hSw
    go_simp
    try with_reducible rfl
  simp only [Act.put, List.setIfInBounds_toArray, List.set_cons_zero, List.set_cons_succ]
  refine wpAnyH_take (i := 13) (v := ?_) (at_list rfl) (by kernel_rfl) (by kernel_rfl) (by kernel_rfl) (fun _ _ _ h => h) (Or.inl ⟨by rfl, ?_⟩) (by assumption) ?_
  rotate_left
  · intro w hSw
    try dsimp only at hSw
    go_simp
    try with_reducible rfl
  simp only [Act.put, List.setIfInBounds_toArray, List.set_cons_zero, List.set_cons_succ]
  refine wpAnyH_take (i := 14) (v := ?_) (at_list rfl) (by kernel_rfl) (by kernel_rfl) (by kernel_rfl) (fun _ _ _ h => h) (Or.inl ⟨by rfl, ?_⟩) (by assumption) ?_
  rotate_left
  · intro w hSw
    try dsimp only at hSw
    go_simp
    try with_reducible rfl
  simp only [Act.put, List.setIfInBounds_toArray, List.set_cons_zero, List.set_cons_succ]
  refine wpAnyH_take (i := 15) (v := ?_) (at_list rfl) (by kernel_rfl) (by kernel_rfl) (by kernel_rfl) (fun _ _ _ h => h) (Or.inl ⟨by rfl, ?_⟩) (by assumption) ?_
  rotate_left
  · intro w hSw
    try dsimp only at hSw
    go_simp
    try with_reducible rfl
  simp only [Act.put, List.setIfInBounds_toArray, List.set_cons_zero, List.set_cons_succ]
  refine wpAnyH_take (i := 16) (v := ?_) (at_list rfl) (by kernel_rfl) (by kernel_rfl) (by kernel_rfl) (fun _ _ _ h => h) (Or.inl ⟨by rfl, ?_⟩) (by assumption) ?_
  rotate_left
  · intro w hSw
    try dsimp only at hSw
    go_simp
    try with_reducible rfl
  simp only [Act.put, List.setIfInBounds_toArray, List.set_cons_zero, List.set_cons_succ]
  refine wpAnyH_take (i := 17) (v := ?_) (at_list rfl) (by kernel_rfl) (by kernel_rfl) (by kernel_rfl) (fun _ _ _ h => h) (Or.inl ⟨by rfl, ?_⟩) (by assumption) ?_
  rotate_left
  · intro w hSw
    try dsimp only at hSw
    go_simp
    try with_reducible rfl
  simp only [Act.put, List.setIfInBounds_toArray, List.set_cons_zero, List.set_cons_succ]
  refine wpAnyH_ready (rs := [18]) (by kernel_rfl) (by simp) ?_
  refine AllReadyH.cons (at_list rfl) (fun KK hKK => ?_) AllReadyH.nil
  go_simp
  refine hKK.out _ _ ?_ (fun hHeld2 => ?_)
  · try dsimp only
    go_keep
  clear hKK KK hHeld
  rename _ => hHeld
  try simp only [Act.put, List.setIfInBounds_toArray, List.set_cons_zero, List.set_cons_succ]
  refine wpAnyH_ready (rs := [19]) (by kernel_rfl) (by simp) ?_
  refine AllReadyH.cons (at_list rfl) (fun KK hKK => ?_) AllReadyH.nil
  go_simp
  refine hKK.out _ _ ?_ (fun hHeld2 => ?_)
  · try dsimp only
    go_keep
  clear hKK KK hHeld
  rename _ => hHeld
  try simp only [Act.put, List.setIfInBounds_toArray, List.set_cons_zero, List.set_cons_succ]
  refine wpAnyH_done (by kernel_rfl) ?_ _
  refine NoPanic.normal ?_
  obtain ⟨b, hb⟩ : ∃ b, b = w2.heap.size := ⟨_, rfl⟩
  have HB3 := Lib.hid (show ((w2.alloc (.cells #[.int .i64 5, .int .i64 (a : Int), .int .i64 b0] 78)).drew).heap[b]? = some (.cells #[.int .i64 5, .int .i64 (a : Int), .int .i64 b0] 78 (0, 0)) by rw [hb]; exact blk_drew (blk_new _ _))
  have Q3 := Lib.hid (show Quiet w ((w2.alloc (.cells #[.int .i64 5, .int .i64 (a : Int), .int .i64 b0] 78)).drew) from (Q2.out.alloc _).drew)
  rw [← hb]
  clear hHeld t1 t2 t3 t4 t5 t6 t7 t8 t9 hb
  generalize (w2.alloc (.cells #[.int .i64 5, .int .i64 (a : Int), .int .i64 b0] 78)).drew = w3 at HB3 Q3 ⊢
  obtain ⟨⟨t1, t2, t3⟩, t4, t7, t8, t9⟩ := HF.out _ Q3.out
  clear t4 t9
  obtain ⟨cu, hcu⟩ := row_ownB (H.out.quiet Q3.out).tasks (k := g) (by rw [HV.out]; rfl)
  have hfz : w3.frozen? ⟨g, i * 3 + 1, none⟩ = false := blk_frozen hcu _
  have hbg : b ≠ g := blk_ne HB3.out hcu (by decide)
  have HB4 := Lib.hid (blk_far HB3.out (p := ⟨g, i * 3 + 1, none⟩) hbg (.int .i64 ((n : Int) + 1)))
  obtain ⟨hm4, ho4⟩ := (H.out.quiet Q3.out).setTask HT.out HV.out ⟨t.A, t.c, t.all, t.next + 1, t.has⟩ 1 (.int .i64 ((n : Int) + 1)) (by decide) (by rw [HNX.out]; simp [rtc]) ⟨rfl, rfl, rfl⟩ ⟨by simp, by show t.next + 1 ≤ t.all.length; have := HNX.out; have := HL.out; omega⟩ (H.out.fit.tz _ (List.mem_of_getElem? (H.out.thread HT.out))).2.1
  have H4 := Lib.hid hm4
  have O4 := Lib.hid (RSide.trans (RSide.quiet Q3.out) ho4)
  clear hm4 ho4 hcu
  go_upto_region 10 with (fail)
  clear t1 t2 t3 t7 t8 hfz
  generalize w3.setCell ⟨g, i * 3 + 1, none⟩ (.int .i64 ((n : Int) + 1)) = w4 at HB4 H4 O4 ⊢
  have x0 : w4.cell? ⟨b, 0, none⟩ = some (.int .i64 5) := blk_cell HB4.out 0
  have x1 : w4.cell? ⟨b, 1, none⟩ = some (.int .i64 (a : Int)) := blk_cell HB4.out 1
  have x2 : w4.cell? ⟨b, 2, none⟩ = some (.int .i64 b0) := blk_cell HB4.out 2
  have hbs : b < w4.heap.size := lt_of_heap HB4.out
  have hx1 : (setT W i ⟨t.all.drop (t.next + 1), t.has⟩).words[a]? = some x := HX.out
  have hsw : Sl w4 3 M.wd.A M.wd.l.length M.wd.c (i64s M.wd.l) := H4.out.rows M.wd (.tail _ (.head _))
  have hwl : M.wd.l[a]? = some x := by have e : (setT W i ⟨t.all.drop (t.next + 1), t.has⟩).words = M.wd.l := H4.out.words; rw [← e]; exact hx1
  have HAW := Lib.hid (show a < (setT W i ⟨t.all.drop (t.next + 1), t.has⟩).words.length from (List.getElem?_eq_some_iff.1 hx1).1)
  obtain ⟨gw, ow, hwA, gws, yx⟩ := hsw.cell (i64s_at hwl)
  have hwx : In32 x := H4.out.fit.wi x (List.mem_of_getElem? hx1)
  unfold In32 at hwx
  have HWA := Lib.hid hwA
  have c1 : w4.cell? ⟨M.p, 1, none⟩ = some M.wd.v := H4.out.head.2.1
  have c5 : M.p < w4.heap.size := H4.out.head.2.2.2.2.2
  rw [RRow.v, hwA] at c1
  have haw : a < M.wd.l.length := (List.getElem?_eq_some_iff.1 hwl).1
  have hwc := hsw.le
  have hwm := hsw.capLe
  obtain ⟨cuw, hcuw⟩ := hsw.type (k := gw) ⟨_, hwA, rfl⟩
  obtain ⟨nw, hnw⟩ : ∃ n, n = M.wd.l.length := ⟨_, rfl⟩
  obtain ⟨cw, hcw⟩ : ∃ n, n = M.wd.c := ⟨_, rfl⟩
  rw [← hnw] at c1 haw hwc
  rw [← hcw] at c1 hwc hwm
  unfold maxLen at hwm
  have hfw : w4.frozen? ⟨gw, ow + a, none⟩ = false := blk_frozen hcuw _
  have hbw : b ≠ gw := blk_ne HB4.out hcuw (by decide)
  have hpw : M.p ≠ gw := blk_ne H4.out.blk hcuw (by decide)
  have a0' : (0 : Int) ≤ (a : Int) := by omega
  have a1' : (a : Int) < (nw : Int) := by omega
  have FS := Lib.hid (fun (V : World) (hV : Only (· = gw) w4 V) => show V.cell? ⟨M.p, 1, none⟩ = some (.slice (some ⟨gw, ow, none⟩) nw cw) ∧ V.cell? ⟨b, 1, none⟩ = some (.int .i64 (a : Int)) ∧ V.cell? ⟨b, 2, none⟩ = some (.int .i64 b0) from
    ⟨(hV.cell (p := ⟨M.p, 1, none⟩) c5 hpw).trans c1, (hV.cell (p := ⟨b, 1, none⟩) hbs hbw).trans x1, (hV.cell (p := ⟨b, 2, none⟩) hbs hbw).trans x2⟩)
  have FC := Lib.hid (fun (V : World) (hV : Quiet w4 V) => show V.cell? ⟨gw, ow + a, none⟩ = some (.int .i64 x) ∧ V.frozen? ⟨gw, ow + a, none⟩ = false ∧ gw < V.heap.size ∧ M.p < V.heap.size ∧ b < V.heap.size from
    ⟨(hV.cell (p := ⟨gw, ow + a, none⟩) gws (fun x => x)).trans yx, blk_frozen (hV.keep hcuw (fun x => x)) _, Nat.lt_of_lt_of_le gws hV.size, Nat.lt_of_lt_of_le c5 hV.size, Nat.lt_of_lt_of_le hbs hV.size⟩)
  have hb32 := w32_in b0
  have iw : IntKind.i64.wrap (x + w32 b0) = x + w32 b0 := by have := IntKind.wrap_i64 (x + w32 b0); omega
  clear hx1 hsw hwl hwA hnw hcw hcuw
  clear hb32 hwx
  go_wp2_with fail
  refine wp_region_noPanic ?_
  refine wp_region_held_drew (S := (fun w' => w'.cell? ⟨M.p, 1, none⟩ = some (.slice (some ⟨gw, ow, none⟩) nw cw) ∧ w'.cell? ⟨b, 1, none⟩ = some (.int .i64 (a : Int)) ∧ w'.cell? ⟨b, 2, none⟩ = some (.int .i64 b0))) (by kernel_rfl) ?_ (fun hHeld => ?_)
  · try dsimp only
    exact FS.out _ (by repeat (first | exact Only.refl _ _ | exact QS7.out | exact QS6.out | refine Only.drewN ?_ _ | refine Only.drew ?_ | refine Only.alloc ?_ _ | refine Only.setCell (S := (· = gw)) ?_ (fun _ => rfl) _))
  refine wpAnyH_take (i := 0) (v := ?_) (at_list rfl) (by kernel_rfl) (by kernel_rfl) (by kernel_rfl) (fun _ _ _ h => h) (Or.inl ⟨by rfl, ?_⟩) (by assumption) ?_
  rotate_left
  · intro w hSw
    try dsimp only at hSw
    go_simp
    try with_reducible rfl
  simp only [Act.put, List.setIfInBounds_toArray, List.set_cons_zero, List.set_cons_succ]
  refine wpAnyH_take (i := 1) (v := ?_) (at_list rfl) (by kernel_rfl) (by kernel_rfl) (by kernel_rfl) (fun _ _ _ h => h) (Or.inl ⟨by rfl, ?_⟩) (by assumption) ?_
  rotate_left
  · intro w hSw
    try dsimp only at hSw
    go_simp
    try with_reducible rfl
  simp only [Act.put, List.setIfInBounds_toArray, List.set_cons_zero, List.set_cons_succ]
  refine wpAnyH_take (i := 2) (v := ?_) (at_list rfl) (by kernel_rfl) (by kernel_rfl) (by kernel_rfl) (fun _ _ _ h => h) (Or.inl ⟨by rfl, ?_⟩) (by assumption) ?_
  rotate_left
  · intro w hSw
    try dsimp only at hSw
    go_simp
    try with_reducible rfl
  simp only [Act.put, List.setIfInBounds_toArray, List.set_cons_zero, List.set_cons_succ]
  refine wpAnyH_take (i := 3) (v := ?_) (at_list rfl) (by kernel_rfl) (by kernel_rfl) (by kernel_rfl) (fun _ _ _ h => h) (Or.inl ⟨by rfl, ?_⟩) (by assumption) ?_
  rotate_left
  · intro w hSw
    try dsimp only at hSw
    go_simp
    try with_reducible rfl
  simp only [Act.put, List.setIfInBounds_toArray, List.set_cons_zero, List.set_cons_succ]
  refine wpAnyH_take (i := 4) (v := ?_) (at_list rfl) (by kernel_rfl) (by kernel_rfl) (by kernel_rfl) (fun _ _ _ h => h) (Or.inl ⟨by rfl, ?_⟩) (by assumption) ?_
  rotate_left
  · intro w hSw
    try dsimp only at hSw
    go_simp
    try with_reducible rfl
  simp only [Act.put, List.setIfInBounds_toArray, List.set_cons_zero, List.set_cons_succ]
  refine wpAnyH_take (i := 5) (v := ?_) (at_list rfl) (by kernel_rfl) (by kernel_rfl) (by kernel_rfl) (fun _ _ _ h => h) (Or.inl ⟨by rfl, ?_⟩) (by assumption) ?_
  rotate_left
  · intro w hSw
    try dsimp only at hSw
    go_simp
    try with_reducible rfl
  simp only [Act.put, List.setIfInBounds_toArray, List.set_cons_zero, List.set_cons_succ]
  refine wpAnyH_take (i := 6) (v := ?_) (at_list rfl) (by kernel_rfl) (by kernel_rfl) (by kernel_rfl) (fun _ _ _ h => h) (Or.inl ⟨by rfl, ?_⟩) (by assumption) ?_
  rotate_left
  · intro w hSw
    try dsimp only at hSw
    go_simp
    try with_reducible rfl
  simp only [Act.put, List.setIfInBounds_toArray, List.set_cons_zero, List.set_cons_succ]
  refine wpAnyH_take (i := 7) (v := ?_) (at_list rfl) (by kernel_rfl) (by kernel_rfl) (by kernel_rfl) (fun _ _ _ h => h) (Or.inl ⟨by rfl, ?_⟩) (by assumption) ?_
  rotate_left
  · intro w hSw
    try dsimp only at hSw
    go_simp
    try with_reducible rfl
  simp only [Act.put, List.setIfInBounds_toArray, List.set_cons_zero, List.set_cons_succ]
  refine wpAnyH_take (i := 8) (v := ?_) (at_list rfl) (by kernel_rfl) (by kernel_rfl) (by kernel_rfl) (fun _ _ _ h => h) (Or.inl ⟨by rfl, ?_⟩) (by assumption) ?_
  rotate_left
  · intro w hSw
    try dsimp only at hSw
    go_simp
    try with_reducible rfl
  simp only [Act.put, List.setIfInBounds_toArray, List.set_cons_zero, List.set_cons_succ]
  refine wpAnyH_take (i := 9) (v := ?_) (at_list rfl) (by kernel_rfl) (by kernel_rfl) (by kernel_rfl) (fun _ _ _ h => h) (Or.inl ⟨by rfl, ?_⟩) (by assumption) ?_
  rotate_left
  · intro w hSw
    try dsimp only at hSw
    go_simp
    try with_reducible rfl
  simp only [Act.put, List.setIfInBounds_toArray, List.set_cons_zero, List.set_cons_succ]
  refine wpAnyH_take (i := 10) (v := ?_) (at_list rfl) (by kernel_rfl) (by kernel_rfl) (by kernel_rfl) (fun _ _ _ h => h) (Or.inl ⟨by rfl, ?_⟩) (by assumption) ?_
  rotate_left
  · intro w hSw
    try dsimp only at hSw
    go_simp
    try with_reducible rfl
  simp only [Act.put, List.setIfInBounds_toArray, List.set_cons_zero, List.set_cons_succ]
  refine wpAnyH_take (i := 11) (v := ?_) (at_list rfl) (by kernel_rfl) (by kernel_rfl) (by kernel_rfl) (fun _ _ _ h => h) (Or.inl ⟨by rfl, ?_⟩) (by assumption) ?_
  rotate_left
  · intro w hSw
    try dsimp only at hSw
    go_simp
    try with_reducible rfl
  simp only [Act.put, List.setIfInBounds_toArray, List.set_cons_zero, List.set_cons_succ]
  refine wpAnyH_take (i := 12) (v := ?_) (at_list rfl) (by kernel_rfl) (by kernel_rfl) (by kernel_rfl) (fun _ _ _ h => h) (Or.inl ⟨by rfl, ?_⟩) (by assumption) ?_
  rotate_left
  · intro w hSw
    try dsimp only at hSw
    go_simp
    try with_reducible rfl
  simp only [Act.put, List.setIfInBounds_toArray, List.set_cons_zero, List.set_cons_succ]
  refine wpAnyH_take (i := 14) (v := ?_) (at_list rfl) (by kernel_rfl) (by kernel_rfl) (by kernel_rfl) (fun _ _ _ h => h) (Or.inl ⟨by rfl, ?_⟩) (by assumption) ?_
  rotate_left
  · intro w hSw
    try dsimp only at hSw
    go_simp
    try with_reducible rfl
  simp only [Act.put, List.setIfInBounds_toArray, List.set_cons_zero, List.set_cons_succ]
  refine wpAnyH_take (i := 15) (v := ?_) (at_list rfl) (by kernel_rfl) (by kernel_rfl) (by kernel_rfl) (fun _ _ _ h => h) (Or.inl ⟨by rfl, ?_⟩) (by assumption) ?_
  rotate_left
  · intro w hSw
    try dsimp only at hSw
    go_simp
    try with_reducible rfl
  simp only [Act.put, List.setIfInBounds_toArray, List.set_cons_zero, List.set_cons_succ]
  refine wpAnyH_ready (rs := [13, 16]) (by kernel_rfl) (by simp) ?_
  refine AllReadyH.cons (at_list rfl) (fun KK hKK => ?_) (AllReadyH.cons (at_list rfl) (fun KK hKK => ?_) AllReadyH.nil)
  · skip
    go_simp
    refine hKK.out _ _ ?_ (fun hHeld2 => ?_)
    · try dsimp only
      exact FS.out _ (by repeat (first | exact Only.refl _ _ | exact QS7.out | exact QS6.out | refine Only.drewN ?_ _ | refine Only.drew ?_ | refine Only.alloc ?_ _ | refine Only.setCell (S := (· = gw)) ?_ (fun _ => rfl) _))
    clear hKK KK hHeld
    rename _ => hHeld
    try simp only [Act.put, List.setIfInBounds_toArray, List.set_cons_zero, List.set_cons_succ]
    refine wpAnyH_ready (rs := [16]) (by kernel_rfl) (by simp) ?_
    refine AllReadyH.cons (at_list rfl) (fun KK hKK => ?_) AllReadyH.nil
    go_simp
    go_at_call 30
    refine (rword_at _ _).mono ?_
    rintro e w6 ⟨rfl, hq6⟩
    have Q6 := Lib.hid (show Quiet w4 w6 from Only.trans (by repeat (first | exact Only.refl _ _ | exact Q7.out | exact Q6.out | refine Only.drewN ?_ _ | refine Only.drew ?_ | refine Only.alloc ?_ _)) hq6)
    have QS6 := Lib.hid (show Only (· = gw) w4 w6 from Only.mono Q6.out (fun _ _ x => x.elim))
    obtain ⟨y1, y2, y3, y4, y5⟩ := FC.out w6 Q6.out
    clear hq6
    try go_wp2_with fail
    refine hKK.out _ _ ?_ (fun hHeld2 => ?_)
    · try dsimp only
      exact FS.out _ (by repeat (first | exact Only.refl _ _ | exact QS7.out | exact QS6.out | refine Only.drewN ?_ _ | refine Only.drew ?_ | refine Only.alloc ?_ _ | refine Only.setCell (S := (· = gw)) ?_ (fun _ => rfl) _))
    clear hKK KK hHeld
    rename _ => hHeld
    try simp only [Act.put, List.setIfInBounds_toArray, List.set_cons_zero, List.set_cons_succ]
    refine wpAnyH_take (i := 17) (v := ?_) (at_list rfl) (by kernel_rfl) (by kernel_rfl) (by kernel_rfl) (fun _ _ _ h => h) (Or.inl ⟨by rfl, ?_⟩) (by assumption) ?_
    rotate_left
    · intro w hSw
      try dsimp only at hSw
      go_simp
      try with_reducible rfl
    simp only [Act.put, List.setIfInBounds_toArray, List.set_cons_zero, List.set_cons_succ]
    refine wpAnyH_ready (rs := [18]) (by kernel_rfl) (by simp) ?_
    refine AllReadyH.cons (at_list rfl) (fun KK hKK => ?_) AllReadyH.nil
    go_simp
    go_at_call 30
    refine (rword_at _ _).mono ?_
    rintro e w7 ⟨rfl, hq7⟩
    have Q7 := Lib.hid (show Quiet w4 w7 from Only.trans (by repeat (first | exact Only.refl _ _ | exact Q7.out | exact Q6.out | refine Only.drewN ?_ _ | refine Only.drew ?_ | refine Only.alloc ?_ _)) hq7)
    have QS7 := Lib.hid (show Only (· = gw) w4 w7 from Only.mono Q7.out (fun _ _ x => x.elim))
    obtain ⟨z1, z2, z3, z4, z5⟩ := FC.out w7 Q7.out
    clear hq7
    try go_wp2_with fail
    refine hKK.out _ _ ?_ (fun hHeld2 => ?_)
    · try dsimp only
      exact FS.out _ (by repeat (first | exact Only.refl _ _ | exact QS7.out | exact QS6.out | refine Only.drewN ?_ _ | refine Only.drew ?_ | refine Only.alloc ?_ _ | refine Only.setCell (S := (· = gw)) ?_ (fun _ => rfl) _))
    clear hKK KK hHeld
    rename _ => hHeld
    try simp only [Act.put, List.setIfInBounds_toArray, List.set_cons_zero, List.set_cons_succ]
    refine wpAnyH_take (i := 19) (v := ?_) (at_list rfl) (by kernel_rfl) (by kernel_rfl) (by kernel_rfl) (fun _ _ _ h => h) (Or.inl ⟨by rfl, ?_⟩) (by assumption) ?_
    rotate_left
    · intro w hSw
      try dsimp only at hSw
      go_simp
      try with_reducible rfl
    simp only [Act.put, List.setIfInBounds_toArray, List.set_cons_zero, List.set_cons_succ]
    refine wpAnyH_ready (rs := [20]) (by kernel_rfl) (by simp) ?_
    refine AllReadyH.cons (at_list rfl) (fun KK hKK => ?_) AllReadyH.nil
    go_simp
    refine hKK.out _ _ ?_ (fun hHeld2 => ?_)
    · try dsimp only
      exact FS.out _ (by repeat (first | exact Only.refl _ _ | exact QS7.out | exact QS6.out | refine Only.drewN ?_ _ | refine Only.drew ?_ | refine Only.alloc ?_ _ | refine Only.setCell (S := (· = gw)) ?_ (fun _ => rfl) _))
    clear hKK KK hHeld
    rename _ => hHeld
    try simp only [Act.put, List.setIfInBounds_toArray, List.set_cons_zero, List.set_cons_succ]
    refine wpAnyH_done (by kernel_rfl) ?_ _
    refine NoPanic.normal ?_
    obtain ⟨hm5, ho5⟩ := (H4.out.quiet Q7.out).setWord (a := a) HAW.out HWA.out (w32 (x + w32 b0)) (in32_w32 _)
    have HP := Lib.hid (RPost.of hm5 (RSide.trans O4.out (RSide.trans (RSide.quiet Q7.out) ho5)) rfl rfl)
    go_wp2_with (go_at_call 23; refine (rstate HP.out.1 (i : Int)).mono ?_; rintro e w6 ⟨rfl, hq6⟩; have Q6 := Lib.hid hq6; clear hq6)
    go_ret2
    exact ⟨rfl, HP.out.quiet Q6.out⟩
  · skip
    go_simp
    go_at_call 30
    refine (rword_at _ _).mono ?_
    rintro e w6 ⟨rfl, hq6⟩
    have Q6 := Lib.hid (show Quiet w4 w6 from Only.trans (by repeat (first | exact Only.refl _ _ | exact Q7.out | exact Q6.out | refine Only.drewN ?_ _ | refine Only.drew ?_ | refine Only.alloc ?_ _)) hq6)
    have QS6 := Lib.hid (show Only (· = gw) w4 w6 from Only.mono Q6.out (fun _ _ x => x.elim))
    obtain ⟨y1, y2, y3, y4, y5⟩ := FC.out w6 Q6.out
    clear hq6
    try go_wp2_with fail
    refine hKK.out _ _ ?_ (fun hHeld2 => ?_)
    · try dsimp only
      exact FS.out _ (by repeat (first | exact Only.refl _ _ | exact QS7.out | exact QS6.out | refine Only.drewN ?_ _ | refine Only.drew ?_ | refine Only.alloc ?_ _ | refine Only.setCell (S := (· = gw)) ?_ (fun _ => rfl) _))
    clear hKK KK hHeld
    rename _ => hHeld
    try simp only [Act.put, List.setIfInBounds_toArray, List.set_cons_zero, List.set_cons_succ]
    refine wpAnyH_ready (rs := [13]) (by kernel_rfl) (by simp) ?_
    refine AllReadyH.cons (at_list rfl) (fun KK hKK => ?_) AllReadyH.nil
    go_simp
    refine hKK.out _ _ ?_ (fun hHeld2 => ?_)
    · try dsimp only
      exact FS.out _ (by repeat (first | exact Only.refl _ _ | exact QS7.out | exact QS6.out | refine Only.drewN ?_ _ | refine Only.drew ?_ | refine Only.alloc ?_ _ | refine Only.setCell (S := (· = gw)) ?_ (fun _ => rfl) _))
    clear hKK KK hHeld
    rename _ => hHeld
    try simp only [Act.put, List.setIfInBounds_toArray, List.set_cons_zero, List.set_cons_succ]
    refine wpAnyH_take (i := 17) (v := ?_) (at_list rfl) (by kernel_rfl) (by kernel_rfl) (by kernel_rfl) (fun _ _ _ h => h) (Or.inl ⟨by rfl, ?_⟩) (by assumption) ?_
    rotate_left
    · intro w hSw
      try dsimp only at hSw
      go_simp
      try with_reducible rfl
    simp only [Act.put, List.setIfInBounds_toArray, List.set_cons_zero, List.set_cons_succ]
    refine wpAnyH_ready (rs := [18]) (by kernel_rfl) (by simp) ?_
    refine AllReadyH.cons (at_list rfl) (fun KK hKK => ?_) AllReadyH.nil
    go_simp
    go_at_call 30
    refine (rword_at _ _).mono ?_
    rintro e w7 ⟨rfl, hq7⟩
    have Q7 := Lib.hid (show Quiet w4 w7 from Only.trans (by repeat (first | exact Only.refl _ _ | exact Q7.out | exact Q6.out | refine Only.drewN ?_ _ | refine Only.drew ?_ | refine Only.alloc ?_ _)) hq7)
    have QS7 := Lib.hid (show Only (· = gw) w4 w7 from Only.mono Q7.out (fun _ _ x => x.elim))
    obtain ⟨z1, z2, z3, z4, z5⟩ := FC.out w7 Q7.out
    clear hq7
    try go_wp2_with fail
    refine hKK.out _ _ ?_ (fun hHeld2 => ?_)
    · try dsimp only
      exact FS.out _ (by repeat (first | exact Only.refl _ _ | exact QS7.out | exact QS6.out | refine Only.drewN ?_ _ | refine Only.drew ?_ | refine Only.alloc ?_ _ | refine Only.setCell (S := (· = gw)) ?_ (fun _ => rfl) _))
    clear hKK KK hHeld
    rename _ => hHeld
    try simp only [Act.put, List.setIfInBounds_toArray, List.set_cons_zero, List.set_cons_succ]
    refine wpAnyH_take (i := 19) (v := ?_) (at_list rfl) (by kernel_rfl) (by kernel_rfl) (by kernel_rfl) (fun _ _ _ h => h) (Or.inl ⟨by rfl, ?_⟩) (by assumption) ?_
    rotate_left
    · intro w hSw
      try dsimp only at hSw
      go_simp
      try with_reducible rfl
    simp only [Act.put, List.setIfInBounds_toArray, List.set_cons_zero, List.set_cons_succ]
    refine wpAnyH_ready (rs := [20]) (by kernel_rfl) (by simp) ?_
    refine AllReadyH.cons (at_list rfl) (fun KK hKK => ?_) AllReadyH.nil
    go_simp
    refine hKK.out _ _ ?_ (fun hHeld2 => ?_)
    · try dsimp only
      exact FS.out _ (by repeat (first | exact Only.refl _ _ | exact QS7.out | exact QS6.out | refine Only.drewN ?_ _ | refine Only.drew ?_ | refine Only.alloc ?_ _ | refine Only.setCell (S := (· = gw)) ?_ (fun _ => rfl) _))
    clear hKK KK hHeld
    rename _ => hHeld
    try simp only [Act.put, List.setIfInBounds_toArray, List.set_cons_zero, List.set_cons_succ]
    refine wpAnyH_done (by kernel_rfl) ?_ _
    refine NoPanic.normal ?_
    obtain ⟨hm5, ho5⟩ := (H4.out.quiet Q7.out).setWord (a := a) HAW.out HWA.out (w32 (x + w32 b0)) (in32_w32 _)
    have HP := Lib.hid (RPost.of hm5 (RSide.trans O4.out (RSide.trans (RSide.quiet Q7.out) ho5)) rfl rfl)
    go_wp2_with (go_at_call 23; refine (rstate HP.out.1 (i : Int)).mono ?_; rintro e w6 ⟨rfl, hq6⟩; have Q6 := Lib.hid hq6; clear hq6)
    go_ret2
    exact ⟨rfl, HP.out.quiet Q6.out⟩
set_option maxRecDepth 8000 in
set_option maxHeartbeats 16000000 in
theorem rstep_load {w : World} {M : RMem} {W : Wd} (h : RAt w M W) {i : Nat} {t : RTask} (ht : M.ts[i]? = some t) (he : t.next < t.all.length) {o : Op3} (ho : t.all[t.next]? = some o) (hd : t.all.drop t.next = o :: t.all.drop (t.next + 1)) (hw : waitsB W o = false) (hk : o.kind = 6) {a : Nat} (ha : o.a = (a : Int)) {x : Int} (hx : W.words[a]? = some x) :
    Calls Try.prog 21 #[.pointer (some ⟨M.p, 0, none⟩), .int .i64 (i : Int)] w fun e w' => e = .returned (.tuple #[.int .i64 (stateF (setT (setT W i ⟨t.all.drop (t.next + 1), t.has⟩) i ⟨t.all.drop (t.next + 1), w32 (t.has + x)⟩) (i : Int)), .int .i64 0]) ∧ RPost M.base M.p w (setT (setT W i ⟨t.all.drop (t.next + 1), t.has⟩) i ⟨t.all.drop (t.next + 1), w32 (t.has + x)⟩) w' := by
  have HS := Lib.hid (rstate_at h (i : Int))
  have hst : stateF W (i : Int) = 1 := by
    rw [stateF_at (h.thread ht)]
    unfold stateT
    simp only [hd]
    rw [hw]; rfl
  rw [hst] at HS
  have c4 := h.head.2.2.2.2.1
  have ps := h.head.2.2.2.2.2
  obtain ⟨g, cap, hv, hc1, hc2, gs, g0, g1, g2⟩ := h.task ht
  obtain ⟨o', go, off, ho', hdd, hmy, hA, hc3, hc4, os, o0, o1, o2⟩ := h.op ht he
  rw [ho] at ho'
  obtain rfl := Option.some.inj ho'
  have hi := (List.getElem?_eq_some_iff.1 ht).1
  obtain ⟨hl, hl2⟩ := h.len
  have hln := (h.tl t (List.mem_of_getElem? ht)).2.2
  clear hdd hmy
  rw [hv] at c4
  obtain ⟨N, hN⟩ : ∃ N, N = M.ts.length := ⟨_, rfl⟩
  rw [← hN] at c4 hl2 hc1 hi hv
  obtain ⟨L, hL⟩ : ∃ L, L = t.all.length := ⟨_, rfl⟩
  obtain ⟨n, hn⟩ : ∃ n, n = t.next := ⟨_, rfl⟩
  obtain ⟨c, hc⟩ : ∃ c, c = t.c := ⟨_, rfl⟩
  rw [hA] at g0
  rw [← hL] at g0 hln he hc3
  rw [← hn] at g1 he o0 o1 o2
  rw [← hc] at g0 hc3 hc4
  unfold maxLen at hc2 hc4
  have HG0 := Lib.hid (show (Value.slice (some ⟨go, off, none⟩) L c) = .slice t.A t.all.length t.c by rw [hA, hL, hc])
  have HF := Lib.hid (fun (V : World) (hV : Quiet w V) => show (V.cell? ⟨M.p, 4, none⟩ = some (.slice (some ⟨g, 0, none⟩) N cap) ∧ V.cell? ⟨g, i * 3, none⟩ = some (.slice (some ⟨go, off, none⟩) L c) ∧ V.cell? ⟨g, i * 3 + 1, none⟩ = some (.int .i64 (n : Nat))) ∧
    (V.cell? ⟨go, off + n * 3, none⟩ = some (.int .i64 o.kind) ∧ V.cell? ⟨go, off + n * 3 + 1, none⟩ = some (.int .i64 o.a) ∧ V.cell? ⟨go, off + n * 3 + 2, none⟩ = some (.int .i64 o.b)) ∧ M.p < V.heap.size ∧ g < V.heap.size ∧ go < V.heap.size from
    ⟨⟨(hV.cell (p := ⟨M.p, 4, none⟩) ps (fun x => x)).trans c4, (hV.cell (p := ⟨g, i * 3, none⟩) gs (fun x => x)).trans g0, (hV.cell (p := ⟨g, i * 3 + 1, none⟩) gs (fun x => x)).trans g1⟩,
      ⟨(hV.cell (p := ⟨go, off + n * 3, none⟩) os (fun x => x)).trans o0, (hV.cell (p := ⟨go, off + n * 3 + 1, none⟩) os (fun x => x)).trans o1, (hV.cell (p := ⟨go, off + n * 3 + 2, none⟩) os (fun x => x)).trans o2⟩, Nat.lt_of_lt_of_le ps hV.size, Nat.lt_of_lt_of_le gs hV.size, Nat.lt_of_lt_of_le os hV.size⟩)
  have H := Lib.hid h
  have HT := Lib.hid ht
  have HV := Lib.hid (hN ▸ hv)
  have HN := Lib.hid hN
  have HL := Lib.hid hL
  have HNX := Lib.hid hn
  obtain ⟨kd, a0, b0⟩ := o
  have HKD := Lib.hid (show kd = 6 from hk)
  simp only at HF hk
  subst hk
  simp only at ha
  subst ha
  have HX := Lib.hid hx
  clear hx
  have HO := Lib.hid (show W = W from rfl)
  clear hv hl h hN hL ho ht hA hn hc ho' hd hw c4 g0 g1 g2 o0 o1 o2 hst ps gs os
  have d1 : decide ((i : Int) < 0) = false := by simp
  have d2 : decide ((N : Int) ≤ (i : Int)) = false := by simp; omega
  have i0 : (0 : Int) ≤ (i : Int) := by omega
  have i1 : (i : Int) < (N : Int) := by omega
  have n0 : (0 : Int) ≤ (n : Int) := by omega
  have n1 : (n : Int) < (L : Int) := by omega
  go_enter Try.func21, Try.ntmps21
  go_wp2_with (first
    | (go_at_call 23; refine HS.out.mono ?_; rintro e w2 ⟨rfl, hq⟩; have Q2 := Lib.hid hq; clear hq; obtain ⟨⟨t1, t2, t3⟩, ⟨t4, t5, t6⟩, t7, t8, t9⟩ := HF.out _ Q2.out))
  refine wp_region_noPanic ?_
  refine wp_region_held_drew (S := (fun w' => w'.cell? ⟨M.p, 4, none⟩ = some (.slice (some ⟨g, 0, none⟩) N cap) ∧ w'.cell? ⟨g, i * 3, none⟩ = some (.slice (some ⟨go, off, none⟩) L c) ∧ w'.cell? ⟨g, i * 3 + 1, none⟩ = some (.int .i64 (n : Nat)) ∧ w'.cell? ⟨go, off + n * 3, none⟩ = some (.int .i64 6) ∧ w'.cell? ⟨go, off + n * 3 + 1, none⟩ = some (.int .i64 (a : Int)) ∧ w'.cell? ⟨go, off + n * 3 + 2, none⟩ = some (.int .i64 b0))) (by kernel_rfl) ?_ (fun hHeld => ?_)
  · try dsimp only
    go_keep
  refine wpAnyH_take (i := 0) (v := ?_) (at_list rfl) (by kernel_rfl) (by kernel_rfl) (by kernel_rfl) (fun _ _ _ h => h) (Or.inl ⟨by rfl, ?_⟩) (by assumption) ?_
  rotate_left
  · intro w hSw
    try dsimp only at hSw
    go_simp
    try with_reducible rfl
  simp only [Act.put, List.setIfInBounds_toArray, List.set_cons_zero, List.set_cons_succ]
  refine wpAnyH_take (i := 1) (v := ?_) (at_list rfl) (by kernel_rfl) (by kernel_rfl) (by kernel_rfl) (fun _ _ _ h => h) (Or.inl ⟨by rfl, ?_⟩) (by assumption) ?_
  rotate_left
  · intro w hSw
    try dsimp only at hSw
    go_simp
    try with_reducible rfl
  simp only [Act.put, List.setIfInBounds_toArray, List.set_cons_zero, List.set_cons_succ]
  refine wpAnyH_take (i := 2) (v := ?_) (at_list rfl) (by kernel_rfl) (by kernel_rfl) (by kernel_rfl) (fun _ _ _ h => h) (Or.inl ⟨by rfl, ?_⟩) (by assumption) ?_
  rotate_left
  · intro w hSw
    try dsimp only at hSw
    go_simp
    try with_reducible rfl
  simp only [Act.put, List.setIfInBounds_toArray, List.set_cons_zero, List.set_cons_succ]
  refine wpAnyH_take (i := 3) (v := ?_) (at_list rfl) (by kernel_rfl) (by kernel_rfl) (by kernel_rfl) (fun _ _ _ h => h) (Or.inl ⟨by rfl, ?_⟩) (by assumption) ?_
  rotate_left
  · intro w hSw
    try dsimp only at hSw
    go_simp
    try with_reducible rfl
  simp only [Act.put, List.setIfInBounds_toArray, List.set_cons_zero, List.set_cons_succ]
  refine wpAnyH_take (i := 4) (v := ?_) (at_list rfl) (by kernel_rfl) (by kernel_rfl) (by kernel_rfl) (fun _ _ _ h => h) (Or.inl ⟨by rfl, ?_⟩) (by assumption) ?_
  rotate_left
  · intro w hSw
    try dsimp only at hSw
    go_simp
    try with_reducible rfl
  simp only [Act.put, List.setIfInBounds_toArray, List.set_cons_zero, List.set_cons_succ]
  refine wpAnyH_take (i := 5) (v := ?_) (at_list rfl) (by kernel_rfl) (by kernel_rfl) (by kernel_rfl) (fun _ _ _ h => h) (Or.inl ⟨by rfl, ?_⟩) (by assumption) ?_
  rotate_left
  · intro w hSw
    try dsimp only at hSw
    go_simp
    try with_reducible rfl
  simp only [Act.put, List.setIfInBounds_toArray, List.set_cons_zero, List.set_cons_succ]
  refine wpAnyH_take (i := 6) (v := ?_) (at_list rfl) (by kernel_rfl) (by kernel_rfl) (by kernel_rfl) (fun _ _ _ h => h) (Or.inl ⟨by rfl, ?_⟩) (by assumption) ?_
  rotate_left
  · intro w hSw
    try dsimp only at hSw
    go_simp
    try with_reducible rfl
  simp only [Act.put, List.setIfInBounds_toArray, List.set_cons_zero, List.set_cons_succ]
  refine wpAnyH_take (i := 7) (v := ?_) (at_list rfl) (by kernel_rfl) (by kernel_rfl) (by kernel_rfl) (fun _ _ _ h => h) (Or.inl ⟨by rfl, ?_⟩) (by assumption) ?_
  rotate_left
  · intro w hSw
    try dsimp only at hSw
    go_simp
    try with_reducible rfl
  simp only [Act.put, List.setIfInBounds_toArray, List.set_cons_zero, List.set_cons_succ]
  refine wpAnyH_take (i := 8) (v := ?_) (at_list rfl) (by kernel_rfl) (by kernel_rfl) (by kernel_rfl) (fun _ _ _ h => h) (Or.inl ⟨by rfl, ?_⟩) (by assumption) ?_
  rotate_left
  · intro w hSw
    try dsimp only at hSw
    go_simp
    try with_reducible rfl
  simp only [Act.put, List.setIfInBounds_toArray, List.set_cons_zero, List.set_cons_succ]
  refine wpAnyH_take (i := 9) (v := ?_) (at_list rfl) (by kernel_rfl) (by kernel_rfl) (by kernel_rfl) (fun _ _ _ h => h) (Or.inl ⟨by rfl, ?_⟩) (by assumption) ?_
  rotate_left
  · intro w hSw
    try dsimp only at hSw
    go_simp
    try with_reducible rfl
  simp only [Act.put, List.setIfInBounds_toArray, List.set_cons_zero, List.set_cons_succ]
  refine wpAnyH_take (i := 10) (v := ?_) (at_list rfl) (by kernel_rfl) (by kernel_rfl) (by kernel_rfl) (fun _ _ _ h => h) (Or.inl ⟨by rfl, ?_⟩) (by assumption) ?_
  rotate_left
  · intro w hSw
    try dsimp only at hSw
    go_simp
    try with_reducible rfl
  simp only [Act.put, List.setIfInBounds_toArray, List.set_cons_zero, List.set_cons_succ]
  refine wpAnyH_take (i := 11) (v := ?_) (at_list rfl) (by kernel_rfl) (by kernel_rfl) (by kernel_rfl) (fun _ _ _ h => h) (Or.inl ⟨by rfl, ?_⟩) (by assumption) ?_
  rotate_left
  · intro w hSw
    try dsimp only at hSw
    go_simp
    try with_reducible rfl
  simp only [Act.put, List.setIfInBounds_toArray, List.set_cons_zero, List.set_cons_succ]
  refine wpAnyH_take (i := 12) (v := ?_) (at_list rfl) (by kernel_rfl) (by kernel_rfl) (by kernel_rfl) (fun _ _ _ h => h) (Or.inl ⟨by rfl, ?_⟩) (by assumption) ?_
  rotate_left
  · intro w hSw
    try dsimp only at hSw
    go_simp
    try with_reducible rfl
  simp only [Act.put, List.setIfInBounds_toArray, List.set_cons_zero, List.set_cons_succ]
  refine wpAnyH_take (i := 13) (v := ?_) (at_list rfl) (by kernel_rfl) (by kernel_rfl) (by kernel_rfl) (fun _ _ _ h => h) (Or.inl ⟨by rfl, ?_⟩) (by assumption) ?_
  rotate_left
  · intro w hSw
    try dsimp only at hSw
    go_simp
    try with_reducible rfl
  simp only [Act.put, List.setIfInBounds_toArray, List.set_cons_zero, List.set_cons_succ]
  refine wpAnyH_take (i := 14) (v := ?_) (at_list rfl) (by kernel_rfl) (by kernel_rfl) (by kernel_rfl) (fun _ _ _ h => h) (Or.inl ⟨by rfl, ?_⟩) (by assumption) ?_
  rotate_left
  · intro w hSw
    try dsimp only at hSw
    go_simp
    try with_reducible rfl
  simp only [Act.put, List.setIfInBounds_toArray, List.set_cons_zero, List.set_cons_succ]
  refine wpAnyH_take (i := 15) (v := ?_) (at_list rfl) (by kernel_rfl) (by kernel_rfl) (by kernel_rfl) (fun _ _ _ h => h) (Or.inl ⟨by rfl, ?_⟩) (by assumption) ?_
  rotate_left
  · intro w hSw
    try dsimp only at hSw
    go_simp
    try with_reducible rfl
  simp only [Act.put, List.setIfInBounds_toArray, List.set_cons_zero, List.set_cons_succ]
  refine wpAnyH_take (i := 16) (v := ?_) (at_list rfl) (by kernel_rfl) (by kernel_rfl) (by kernel_rfl) (fun _ _ _ h => h) (Or.inl ⟨by rfl, ?_⟩) (by assumption) ?_
  rotate_left
  · intro w hSw
    try dsimp only at hSw
    go_simp
    try with_reducible rfl
  simp only [Act.put, List.setIfInBounds_toArray, List.set_cons_zero, List.set_cons_succ]
  refine wpAnyH_take (i := 17) (v := ?_) (at_list rfl) (by kernel_rfl) (by kernel_rfl) (by kernel_rfl) (fun _ _ _ h => h) (Or.inl ⟨by rfl, ?_⟩) (by assumption) ?_
  rotate_left
  · intro w hSw
    try dsimp only at hSw
    go_simp
    try with_reducible rfl
  simp only [Act.put, List.setIfInBounds_toArray, List.set_cons_zero, List.set_cons_succ]
  refine wpAnyH_ready (rs := [18]) (by kernel_rfl) (by simp) ?_
  refine AllReadyH.cons (at_list rfl) (fun KK hKK => ?_) AllReadyH.nil
  go_simp
  refine hKK.out _ _ ?_ (fun hHeld2 => ?_)
  · try dsimp only
    go_keep
  clear hKK KK hHeld
  rename _ => hHeld
  try simp only [Act.put, List.setIfInBounds_toArray, List.set_cons_zero, List.set_cons_succ]
  refine wpAnyH_ready (rs := [19]) (by kernel_rfl) (by simp) ?_
  refine AllReadyH.cons (at_list rfl) (fun KK hKK => ?_) AllReadyH.nil
  go_simp
  refine hKK.out _ _ ?_ (fun hHeld2 => ?_)
  · try dsimp only
    go_keep
  clear hKK KK hHeld
  rename _ => hHeld
  try simp only [Act.put, List.setIfInBounds_toArray, List.set_cons_zero, List.set_cons_succ]
  refine wpAnyH_done (by kernel_rfl) ?_ _
  refine NoPanic.normal ?_
  obtain ⟨b, hb⟩ : ∃ b, b = w2.heap.size := ⟨_, rfl⟩
  have HB3 := Lib.hid (show ((w2.alloc (.cells #[.int .i64 6, .int .i64 (a : Int), .int .i64 b0] 78)).drew).heap[b]? = some (.cells #[.int .i64 6, .int .i64 (a : Int), .int .i64 b0] 78 (0, 0)) by rw [hb]; exact blk_drew (blk_new _ _))
  have Q3 := Lib.hid (show Quiet w ((w2.alloc (.cells #[.int .i64 6, .int .i64 (a : Int), .int .i64 b0] 78)).drew) from (Q2.out.alloc _).drew)
  rw [← hb]
  clear hHeld t1 t2 t3 t4 t5 t6 t7 t8 t9 hb
  generalize (w2.alloc (.cells #[.int .i64 6, .int .i64 (a : Int), .int .i64 b0] 78)).drew = w3 at HB3 Q3 ⊢
  obtain ⟨⟨t1, t2, t3⟩, t4, t7, t8, t9⟩ := HF.out _ Q3.out
  clear t4 t9
  obtain ⟨cu, hcu⟩ := row_ownB (H.out.quiet Q3.out).tasks (k := g) (by rw [HV.out]; rfl)
  have hfz : w3.frozen? ⟨g, i * 3 + 1, none⟩ = false := blk_frozen hcu _
  have hbg : b ≠ g := blk_ne HB3.out hcu (by decide)
  have HB4 := Lib.hid (blk_far HB3.out (p := ⟨g, i * 3 + 1, none⟩) hbg (.int .i64 ((n : Int) + 1)))
  obtain ⟨hm4, ho4⟩ := (H.out.quiet Q3.out).setTask HT.out HV.out ⟨t.A, t.c, t.all, t.next + 1, t.has⟩ 1 (.int .i64 ((n : Int) + 1)) (by decide) (by rw [HNX.out]; simp [rtc]) ⟨rfl, rfl, rfl⟩ ⟨by simp, by show t.next + 1 ≤ t.all.length; have := HNX.out; have := HL.out; omega⟩ (H.out.fit.tz _ (List.mem_of_getElem? (H.out.thread HT.out))).2.1
  have H4 := Lib.hid hm4
  have O4 := Lib.hid (RSide.trans (RSide.quiet Q3.out) ho4)
  clear hm4 ho4 hcu
  go_upto_region 10 with (fail)
  clear t1 t2 t3 t7 t8 hfz
  generalize w3.setCell ⟨g, i * 3 + 1, none⟩ (.int .i64 ((n : Int) + 1)) = w4 at HB4 H4 O4 ⊢
  have x0 : w4.cell? ⟨b, 0, none⟩ = some (.int .i64 6) := blk_cell HB4.out 0
  have x1 : w4.cell? ⟨b, 1, none⟩ = some (.int .i64 (a : Int)) := blk_cell HB4.out 1
  have x2 : w4.cell? ⟨b, 2, none⟩ = some (.int .i64 b0) := blk_cell HB4.out 2
  have hbs : b < w4.heap.size := lt_of_heap HB4.out
  have hx1 : (setT W i ⟨t.all.drop (t.next + 1), t.has⟩).words[a]? = some x := HX.out
  have hsw : Sl w4 3 M.wd.A M.wd.l.length M.wd.c (i64s M.wd.l) := H4.out.rows M.wd (.tail _ (.head _))
  have hwl : M.wd.l[a]? = some x := by have e : (setT W i ⟨t.all.drop (t.next + 1), t.has⟩).words = M.wd.l := H4.out.words; rw [← e]; exact hx1
  have HAW := Lib.hid (show a < (setT W i ⟨t.all.drop (t.next + 1), t.has⟩).words.length from (List.getElem?_eq_some_iff.1 hx1).1)
  obtain ⟨gw, ow, hwA, gws, yx⟩ := hsw.cell (i64s_at hwl)
  have hwx : In32 x := H4.out.fit.wi x (List.mem_of_getElem? hx1)
  unfold In32 at hwx
  have HWA := Lib.hid hwA
  have c1 : w4.cell? ⟨M.p, 1, none⟩ = some M.wd.v := H4.out.head.2.1
  have c5 : M.p < w4.heap.size := H4.out.head.2.2.2.2.2
  rw [RRow.v, hwA] at c1
  have haw : a < M.wd.l.length := (List.getElem?_eq_some_iff.1 hwl).1
  have hwc := hsw.le
  have hwm := hsw.capLe
  obtain ⟨cuw, hcuw⟩ := hsw.type (k := gw) ⟨_, hwA, rfl⟩
  obtain ⟨nw, hnw⟩ : ∃ n, n = M.wd.l.length := ⟨_, rfl⟩
  obtain ⟨cw, hcw⟩ : ∃ n, n = M.wd.c := ⟨_, rfl⟩
  rw [← hnw] at c1 haw hwc
  rw [← hcw] at c1 hwc hwm
  unfold maxLen at hwm
  have hfw : w4.frozen? ⟨gw, ow + a, none⟩ = false := blk_frozen hcuw _
  have hbw : b ≠ gw := blk_ne HB4.out hcuw (by decide)
  have hpw : M.p ≠ gw := blk_ne H4.out.blk hcuw (by decide)
  have a0' : (0 : Int) ≤ (a : Int) := by omega
  have a1' : (a : Int) < (nw : Int) := by omega
  have HT4 := Lib.hid (show ({ M with ts := M.ts.set i ⟨t.A, t.c, t.all, t.next + 1, t.has⟩ } : RMem).ts[i]? = some ⟨t.A, t.c, t.all, t.next + 1, t.has⟩ from List.getElem?_set_self (by have := HN.out; omega))
  have HV4 := Lib.hid (show ({ M with ts := M.ts.set i ⟨t.A, t.c, t.all, t.next + 1, t.has⟩ } : RMem).vt = .slice (some ⟨g, 0, none⟩) ({ M with ts := M.ts.set i ⟨t.A, t.c, t.all, t.next + 1, t.has⟩ } : RMem).ts.length cap by rw [HV.out]; simp)
  obtain ⟨cug, hcug⟩ := row_ownB H4.out.tasks (k := g) (by rw [HV4.out]; rfl)
  have hpg : M.p ≠ g := blk_ne H4.out.blk hcug (by decide)
  have hbg4 : b ≠ g := blk_ne HB4.out hcug (by decide)
  have hfg : w4.frozen? ⟨g, i * 3 + 2, none⟩ = false := blk_frozen hcug _
  have hgs : g < w4.heap.size := lt_of_heap hcug
  have s4 : w4.cell? ⟨M.p, 4, none⟩ = some (.slice (some ⟨g, 0, none⟩) N cap) := by have := H4.out.head.2.2.2.2.1; rw [HV4.out] at this; rw [HN.out]; simpa using this
  obtain ⟨s0, s1, s2⟩ : w4.cell? ⟨g, i * 3, none⟩ = some (.slice (some ⟨go, off, none⟩) L c) ∧ w4.cell? ⟨g, i * 3 + 1, none⟩ = some (.int .i64 ((n : Int) + 1)) ∧ w4.cell? ⟨g, i * 3 + 2, none⟩ = some (.int .i64 t.has) := by
    obtain ⟨g', cap', e1, _, _, _, e2, e3, e4⟩ := H4.out.task HT4.out
    rw [HV4.out] at e1
    simp only [Value.slice.injEq, Option.some.injEq, Addr.mk.injEq] at e1
    obtain ⟨⟨rfl, _⟩, _⟩ := e1
    rw [HG0.out, HNX.out]; exact ⟨e2, by rw [e3]; simp, e4⟩
  have hwg : gw ≠ g := blk_ne hcuw hcug (by decide)
  have FS := Lib.hid (fun (V : World) (hV : Only (· = g) w4 V) => show V.cell? ⟨M.p, 4, none⟩ = some (.slice (some ⟨g, 0, none⟩) N cap) ∧ V.cell? ⟨M.p, 1, none⟩ = some (.slice (some ⟨gw, ow, none⟩) nw cw) ∧ V.cell? ⟨b, 1, none⟩ = some (.int .i64 (a : Int)) ∧ V.cell? ⟨gw, ow + a, none⟩ = some (.int .i64 x) from
    ⟨(hV.cell (p := ⟨M.p, 4, none⟩) c5 hpg).trans s4, (hV.cell (p := ⟨M.p, 1, none⟩) c5 hpg).trans c1, (hV.cell (p := ⟨b, 1, none⟩) hbs hbg4).trans x1, (hV.cell (p := ⟨gw, ow + a, none⟩) gws hwg).trans yx⟩)
  have FC := Lib.hid (fun (V : World) (hV : Quiet w4 V) => show V.cell? ⟨g, i * 3 + 2, none⟩ = some (.int .i64 t.has) ∧ V.frozen? ⟨g, i * 3 + 2, none⟩ = false ∧ gw < V.heap.size ∧ M.p < V.heap.size ∧ b < V.heap.size ∧ g < V.heap.size from
    ⟨(hV.cell (p := ⟨g, i * 3 + 2, none⟩) hgs (fun x => x)).trans s2, blk_frozen (hV.keep hcug (fun x => x)) _, Nat.lt_of_lt_of_le gws hV.size, Nat.lt_of_lt_of_le c5 hV.size, Nat.lt_of_lt_of_le hbs hV.size, Nat.lt_of_lt_of_le hgs hV.size⟩)
  have hth : In32 t.has := (H.out.fit.tz _ (List.mem_of_getElem? (H.out.thread HT.out))).2.1
  unfold In32 at hth
  have iw : IntKind.i64.wrap (t.has + x) = t.has + x := by have := IntKind.wrap_i64 (t.has + x); omega
  clear hth hwx hcug
  clear hx1 hsw hwl hwA hnw hcw hcuw
  go_wp2_with fail
  refine wp_region_noPanic ?_
  refine wp_region_held_drew (S := (fun w' => w'.cell? ⟨M.p, 4, none⟩ = some (.slice (some ⟨g, 0, none⟩) N cap) ∧ w'.cell? ⟨M.p, 1, none⟩ = some (.slice (some ⟨gw, ow, none⟩) nw cw) ∧ w'.cell? ⟨b, 1, none⟩ = some (.int .i64 (a : Int)) ∧ w'.cell? ⟨gw, ow + a, none⟩ = some (.int .i64 x))) (by kernel_rfl) ?_ (fun hHeld => ?_)
  · try dsimp only
    exact FS.out _ (by repeat (first | exact Only.refl _ _ | exact QS7.out | exact QS6.out | refine Only.drewN ?_ _ | refine Only.drew ?_ | refine Only.alloc ?_ _ | refine Only.setCell (S := (· = g)) ?_ (fun _ => rfl) _))
  refine wpAnyH_take (i := 0) (v := ?_) (at_list rfl) (by kernel_rfl) (by kernel_rfl) (by kernel_rfl) (fun _ _ _ h => h) (Or.inl ⟨by rfl, ?_⟩) (by assumption) ?_
  rotate_left
  · intro w hSw
    try dsimp only at hSw
    go_simp
    try with_reducible rfl
  simp only [Act.put, List.setIfInBounds_toArray, List.set_cons_zero, List.set_cons_succ]
  refine wpAnyH_take (i := 1) (v := ?_) (at_list rfl) (by kernel_rfl) (by kernel_rfl) (by kernel_rfl) (fun _ _ _ h => h) (Or.inl ⟨by rfl, ?_⟩) (by assumption) ?_
  rotate_left
  · intro w hSw
    try dsimp only at hSw
    go_simp
    try with_reducible rfl
  simp only [Act.put, List.setIfInBounds_toArray, List.set_cons_zero, List.set_cons_succ]
  refine wpAnyH_take (i := 2) (v := ?_) (at_list rfl) (by kernel_rfl) (by kernel_rfl) (by kernel_rfl) (fun _ _ _ h => h) (Or.inl ⟨by rfl, ?_⟩) (by assumption) ?_
  rotate_left
  · intro w hSw
    try dsimp only at hSw
    go_simp
    try with_reducible rfl
  simp only [Act.put, List.setIfInBounds_toArray, List.set_cons_zero, List.set_cons_succ]
  refine wpAnyH_take (i := 3) (v := ?_) (at_list rfl) (by kernel_rfl) (by kernel_rfl) (by kernel_rfl) (fun _ _ _ h => h) (Or.inl ⟨by rfl, ?_⟩) (by assumption) ?_
  rotate_left
  · intro w hSw
    try dsimp only at hSw
    go_simp
    try with_reducible rfl
  simp only [Act.put, List.setIfInBounds_toArray, List.set_cons_zero, List.set_cons_succ]
  refine wpAnyH_take (i := 4) (v := ?_) (at_list rfl) (by kernel_rfl) (by kernel_rfl) (by kernel_rfl) (fun _ _ _ h => h) (Or.inl ⟨by rfl, ?_⟩) (by assumption) ?_
  rotate_left
  · intro w hSw
    try dsimp only at hSw
    go_simp
    try with_reducible rfl
  simp only [Act.put, List.setIfInBounds_toArray, List.set_cons_zero, List.set_cons_succ]
  refine wpAnyH_take (i := 5) (v := ?_) (at_list rfl) (by kernel_rfl) (by kernel_rfl) (by kernel_rfl) (fun _ _ _ h => h) (Or.inl ⟨by rfl, ?_⟩) (by assumption) ?_
  rotate_left
  · intro w hSw
    try dsimp only at hSw
    go_simp
    try with_reducible rfl
  simp only [Act.put, List.setIfInBounds_toArray, List.set_cons_zero, List.set_cons_succ]
  refine wpAnyH_take (i := 6) (v := ?_) (at_list rfl) (by kernel_rfl) (by kernel_rfl) (by kernel_rfl) (fun _ _ _ h => h) (Or.inl ⟨by rfl, ?_⟩) (by assumption) ?_
  rotate_left
  · intro w hSw
    try dsimp only at hSw
    go_simp
    try with_reducible rfl
  simp only [Act.put, List.setIfInBounds_toArray, List.set_cons_zero, List.set_cons_succ]
  refine wpAnyH_take (i := 7) (v := ?_) (at_list rfl) (by kernel_rfl) (by kernel_rfl) (by kernel_rfl) (fun _ _ _ h => h) (Or.inl ⟨by rfl, ?_⟩) (by assumption) ?_
  rotate_left
  · intro w hSw
    try dsimp only at hSw
    go_simp
    try with_reducible rfl
  simp only [Act.put, List.setIfInBounds_toArray, List.set_cons_zero, List.set_cons_succ]
  refine wpAnyH_take (i := 8) (v := ?_) (at_list rfl) (by kernel_rfl) (by kernel_rfl) (by kernel_rfl) (fun _ _ _ h => h) (Or.inl ⟨by rfl, ?_⟩) (by assumption) ?_
  rotate_left
  · intro w hSw
    try dsimp only at hSw
    go_simp
    try with_reducible rfl
  simp only [Act.put, List.setIfInBounds_toArray, List.set_cons_zero, List.set_cons_succ]
  refine wpAnyH_take (i := 9) (v := ?_) (at_list rfl) (by kernel_rfl) (by kernel_rfl) (by kernel_rfl) (fun _ _ _ h => h) (Or.inl ⟨by rfl, ?_⟩) (by assumption) ?_
  rotate_left
  · intro w hSw
    try dsimp only at hSw
    go_simp
    try with_reducible rfl
  simp only [Act.put, List.setIfInBounds_toArray, List.set_cons_zero, List.set_cons_succ]
  refine wpAnyH_take (i := 10) (v := ?_) (at_list rfl) (by kernel_rfl) (by kernel_rfl) (by kernel_rfl) (fun _ _ _ h => h) (Or.inl ⟨by rfl, ?_⟩) (by assumption) ?_
  rotate_left
  · intro w hSw
    try dsimp only at hSw
    go_simp
    try with_reducible rfl
  simp only [Act.put, List.setIfInBounds_toArray, List.set_cons_zero, List.set_cons_succ]
  refine wpAnyH_take (i := 11) (v := ?_) (at_list rfl) (by kernel_rfl) (by kernel_rfl) (by kernel_rfl) (fun _ _ _ h => h) (Or.inl ⟨by rfl, ?_⟩) (by assumption) ?_
  rotate_left
  · intro w hSw
    try dsimp only at hSw
    go_simp
    try with_reducible rfl
  simp only [Act.put, List.setIfInBounds_toArray, List.set_cons_zero, List.set_cons_succ]
  refine wpAnyH_take (i := 13) (v := ?_) (at_list rfl) (by kernel_rfl) (by kernel_rfl) (by kernel_rfl) (fun _ _ _ h => h) (Or.inl ⟨by rfl, ?_⟩) (by assumption) ?_
  rotate_left
  · intro w hSw
    try dsimp only at hSw
    go_simp
    try with_reducible rfl
  simp only [Act.put, List.setIfInBounds_toArray, List.set_cons_zero, List.set_cons_succ]
  refine wpAnyH_take (i := 14) (v := ?_) (at_list rfl) (by kernel_rfl) (by kernel_rfl) (by kernel_rfl) (fun _ _ _ h => h) (Or.inl ⟨by rfl, ?_⟩) (by assumption) ?_
  rotate_left
  · intro w hSw
    try dsimp only at hSw
    go_simp
    try with_reducible rfl
  simp only [Act.put, List.setIfInBounds_toArray, List.set_cons_zero, List.set_cons_succ]
  refine wpAnyH_take (i := 15) (v := ?_) (at_list rfl) (by kernel_rfl) (by kernel_rfl) (by kernel_rfl) (fun _ _ _ h => h) (Or.inl ⟨by rfl, ?_⟩) (by assumption) ?_
  rotate_left
  · intro w hSw
    try dsimp only at hSw
    go_simp
    try with_reducible rfl
  simp only [Act.put, List.setIfInBounds_toArray, List.set_cons_zero, List.set_cons_succ]
  refine wpAnyH_take (i := 16) (v := ?_) (at_list rfl) (by kernel_rfl) (by kernel_rfl) (by kernel_rfl) (fun _ _ _ h => h) (Or.inl ⟨by rfl, ?_⟩) (by assumption) ?_
  rotate_left
  · intro w hSw
    try dsimp only at hSw
    go_simp
    try with_reducible rfl
  simp only [Act.put, List.setIfInBounds_toArray, List.set_cons_zero, List.set_cons_succ]
  refine wpAnyH_take (i := 17) (v := ?_) (at_list rfl) (by kernel_rfl) (by kernel_rfl) (by kernel_rfl) (fun _ _ _ h => h) (Or.inl ⟨by rfl, ?_⟩) (by assumption) ?_
  rotate_left
  · intro w hSw
    try dsimp only at hSw
    go_simp
    try with_reducible rfl
  simp only [Act.put, List.setIfInBounds_toArray, List.set_cons_zero, List.set_cons_succ]
  refine wpAnyH_take (i := 18) (v := ?_) (at_list rfl) (by kernel_rfl) (by kernel_rfl) (by kernel_rfl) (fun _ _ _ h => h) (Or.inl ⟨by rfl, ?_⟩) (by assumption) ?_
  rotate_left
  · intro w hSw
    try dsimp only at hSw
    go_simp
    try with_reducible rfl
  simp only [Act.put, List.setIfInBounds_toArray, List.set_cons_zero, List.set_cons_succ]
  refine wpAnyH_take (i := 19) (v := ?_) (at_list rfl) (by kernel_rfl) (by kernel_rfl) (by kernel_rfl) (fun _ _ _ h => h) (Or.inl ⟨by rfl, ?_⟩) (by assumption) ?_
  rotate_left
  · intro w hSw
    try dsimp only at hSw
    go_simp
    try with_reducible rfl
  simp only [Act.put, List.setIfInBounds_toArray, List.set_cons_zero, List.set_cons_succ]
  refine wpAnyH_take (i := 20) (v := ?_) (at_list rfl) (by kernel_rfl) (by kernel_rfl) (by kernel_rfl) (fun _ _ _ h => h) (Or.inl ⟨by rfl, ?_⟩) (by assumption) ?_
  rotate_left
  · intro w hSw
    try dsimp only at hSw
    go_simp
    try with_reducible rfl
  simp only [Act.put, List.setIfInBounds_toArray, List.set_cons_zero, List.set_cons_succ]
  refine wpAnyH_ready (rs := [12]) (by kernel_rfl) (by simp) ?_
  refine AllReadyH.cons (at_list rfl) (fun KK hKK => ?_) AllReadyH.nil
  go_simp
  refine hKK.out _ _ ?_ (fun hHeld2 => ?_)
  · try dsimp only
    exact FS.out _ (by repeat (first | exact Only.refl _ _ | exact QS7.out | exact QS6.out | refine Only.drewN ?_ _ | refine Only.drew ?_ | refine Only.alloc ?_ _ | refine Only.setCell (S := (· = g)) ?_ (fun _ => rfl) _))
  clear hKK KK hHeld
  rename _ => hHeld
  try simp only [Act.put, List.setIfInBounds_toArray, List.set_cons_zero, List.set_cons_succ]
  refine wpAnyH_take (i := 21) (v := ?_) (at_list rfl) (by kernel_rfl) (by kernel_rfl) (by kernel_rfl) (fun _ _ _ h => h) (Or.inl ⟨by rfl, ?_⟩) (by assumption) ?_
  rotate_left
  · intro w hSw
    try dsimp only at hSw
    go_simp
    try with_reducible rfl
  simp only [Act.put, List.setIfInBounds_toArray, List.set_cons_zero, List.set_cons_succ]
  refine wpAnyH_ready (rs := [22]) (by kernel_rfl) (by simp) ?_
  refine AllReadyH.cons (at_list rfl) (fun KK hKK => ?_) AllReadyH.nil
  go_simp
  go_at_call 30
  refine (rword_at _ _).mono ?_
  rintro e w6 ⟨rfl, hq6⟩
  have Q6 := Lib.hid (show Quiet w4 w6 from Only.trans (by repeat (first | exact Only.refl _ _ | exact Q7.out | exact Q6.out | refine Only.drewN ?_ _ | refine Only.drew ?_ | refine Only.alloc ?_ _)) hq6)
  have QS6 := Lib.hid (show Only (· = g) w4 w6 from Only.mono Q6.out (fun _ _ x => x.elim))
  obtain ⟨y1, y2, y3, y4, y5, y6⟩ := FC.out w6 Q6.out
  clear hq6
  try go_wp2_with fail
  refine hKK.out _ _ ?_ (fun hHeld2 => ?_)
  · try dsimp only
    exact FS.out _ (by repeat (first | exact Only.refl _ _ | exact QS7.out | exact QS6.out | refine Only.drewN ?_ _ | refine Only.drew ?_ | refine Only.alloc ?_ _ | refine Only.setCell (S := (· = g)) ?_ (fun _ => rfl) _))
  clear hKK KK hHeld
  rename _ => hHeld
  try simp only [Act.put, List.setIfInBounds_toArray, List.set_cons_zero, List.set_cons_succ]
  refine wpAnyH_take (i := 23) (v := ?_) (at_list rfl) (by kernel_rfl) (by kernel_rfl) (by kernel_rfl) (fun _ _ _ h => h) (Or.inl ⟨by rfl, ?_⟩) (by assumption) ?_
  rotate_left
  · intro w hSw
    try dsimp only at hSw
    go_simp
    try with_reducible rfl
  simp only [Act.put, List.setIfInBounds_toArray, List.set_cons_zero, List.set_cons_succ]
  refine wpAnyH_take (i := 24) (v := ?_) (at_list rfl) (by kernel_rfl) (by kernel_rfl) (by kernel_rfl) (fun _ _ _ h => h) (Or.inl ⟨by rfl, ?_⟩) (by assumption) ?_
  rotate_left
  · intro w hSw
    try dsimp only at hSw
    go_simp
    try with_reducible rfl
  simp only [Act.put, List.setIfInBounds_toArray, List.set_cons_zero, List.set_cons_succ]
  refine wpAnyH_ready (rs := [25]) (by kernel_rfl) (by simp) ?_
  refine AllReadyH.cons (at_list rfl) (fun KK hKK => ?_) AllReadyH.nil
  go_simp
  refine hKK.out _ _ ?_ (fun hHeld2 => ?_)
  · try dsimp only
    exact FS.out _ (by repeat (first | exact Only.refl _ _ | exact QS7.out | exact QS6.out | refine Only.drewN ?_ _ | refine Only.drew ?_ | refine Only.alloc ?_ _ | refine Only.setCell (S := (· = g)) ?_ (fun _ => rfl) _))
  clear hKK KK hHeld
  rename _ => hHeld
  try simp only [Act.put, List.setIfInBounds_toArray, List.set_cons_zero, List.set_cons_succ]
  refine wpAnyH_done (by kernel_rfl) ?_ _
  refine NoPanic.normal ?_
  obtain ⟨hm5, ho5⟩ := (H4.out.quiet Q6.out).setTask HT4.out HV4.out ⟨t.A, t.c, t.all, t.next + 1, w32 (t.has + x)⟩ 2 (.int .i64 (w32 (t.has + x))) (by decide) (by simp [rtc]) ⟨rfl, rfl, rfl⟩ ⟨Nat.le_refl _, by have := HNX.out; have := HL.out; show t.next + 1 ≤ t.all.length; omega⟩ (in32_w32 _)
  have HP := Lib.hid (RPost.of hm5 (RSide.trans O4.out (RSide.trans (RSide.quiet Q6.out) ho5)) rfl rfl)
  go_wp2_with (go_at_call 23; refine (rstate HP.out.1 (i : Int)).mono ?_; rintro e w8 ⟨rfl, hq8⟩; have Q8 := Lib.hid hq8; clear hq8)
  go_ret2
  exact ⟨rfl, HP.out.quiet Q8.out⟩
end Go.Proofs.Ytgdjbmfpbihopaa
