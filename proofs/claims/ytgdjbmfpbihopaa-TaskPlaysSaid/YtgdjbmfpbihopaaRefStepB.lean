/-
  The reference's Step: sends. No conditions.
-/
import Derived.Test.YtgdjbmfpbihopaaRefStepA
import Derived.Deep.RegionHeld3
namespace Go.Proofs.Ytgdjbmfpbihopaa
open Go.RowKit Go.MapKept
set_option linter.unusedVariables false
set_option linter.unusedSimpArgs false

set_option maxRecDepth 8000 in
set_option maxHeartbeats 16000000 in
theorem rstep_send {w : World} {M : RMem} {W : Wd} (h : RAt w M W) {i : Nat} {t : RTask} (ht : M.ts[i]? = some t) (he : t.next < t.all.length) {o : Op3} (ho : t.all[t.next]? = some o) (hd : t.all.drop t.next = o :: t.all.drop (t.next + 1)) (hw : waitsB W o = false) (hk : o.kind = 3) {a : Nat} (ha : o.a = (a : Int)) {q : Pipe} (hq : W.pipes[a]? = some q) (hf : FitW (setP (setT W i ⟨t.all.drop (t.next + 1), t.has⟩) a ⟨q.l ++ [w32 o.b], q.size⟩)) :
    Calls Try.prog 21 #[.pointer (some ⟨M.p, 0, none⟩), .int .i64 (i : Int)] w fun e w' => e = .returned (.tuple #[.int .i64 (stateF (setP (setT W i ⟨t.all.drop (t.next + 1), t.has⟩) a ⟨q.l ++ [w32 o.b], q.size⟩) (i : Int)), .int .i64 0]) ∧ RPost M.base M.p w (setP (setT W i ⟨t.all.drop (t.next + 1), t.has⟩) a ⟨q.l ++ [w32 o.b], q.size⟩) w' := by
  have HS := Lib.hid (rstate_at h (i : Int))
  have hst : stateF W (i : Int) = 1 := by
    rw [stateF_at (h.thread ht)]
    unfold stateT
    simp only [hd]
    rw [hw]; rfl
  rw [hst] at HS
  have c4 := h.head.2.2.2.2.1
  have ps := h.head.2.2.2.2.2
  obtain ⟨g, cap, hv, hc1, hc2, gs, g0, g1, g2⟩ := h.task ht
  obtain ⟨o', go, off, ho', hdd, hmy, hA, hc3, hc4, os, o0, o1, o2⟩ := h.op ht he
  rw [ho] at ho'
  obtain rfl := Option.some.inj ho'
  have hi := (List.getElem?_eq_some_iff.1 ht).1
  obtain ⟨hl, hl2⟩ := h.len
  have hln := (h.tl t (List.mem_of_getElem? ht)).2.2
  clear hdd hmy
  rw [hv] at c4
  obtain ⟨N, hN⟩ : ∃ N, N = M.ts.length := ⟨_, rfl⟩
  rw [← hN] at c4 hl2 hc1 hi hv
  obtain ⟨L, hL⟩ : ∃ L, L = t.all.length := ⟨_, rfl⟩
  obtain ⟨n, hn⟩ : ∃ n, n = t.next := ⟨_, rfl⟩
  obtain ⟨c, hc⟩ : ∃ c, c = t.c := ⟨_, rfl⟩
  rw [hA] at g0
  rw [← hL] at g0 hln he hc3
  rw [← hn] at g1 he o0 o1 o2
  rw [← hc] at g0 hc3 hc4
  unfold maxLen at hc2 hc4
  have HG0 := Lib.hid (show (Value.slice (some ⟨go, off, none⟩) L c) = .slice t.A t.all.length t.c by rw [hA, hL, hc])
  have HF := Lib.hid (fun (V : World) (hV : Quiet w V) => show (V.cell? ⟨M.p, 4, none⟩ = some (.slice (some ⟨g, 0, none⟩) N cap) ∧ V.cell? ⟨g, i * 3, none⟩ = some (.slice (some ⟨go, off, none⟩) L c) ∧ V.cell? ⟨g, i * 3 + 1, none⟩ = some (.int .i64 (n : Nat))) ∧
    (V.cell? ⟨go, off + n * 3, none⟩ = some (.int .i64 o.kind) ∧ V.cell? ⟨go, off + n * 3 + 1, none⟩ = some (.int .i64 o.a) ∧ V.cell? ⟨go, off + n * 3 + 2, none⟩ = some (.int .i64 o.b)) ∧ M.p < V.heap.size ∧ g < V.heap.size ∧ go < V.heap.size from
    ⟨⟨(hV.cell (p := ⟨M.p, 4, none⟩) ps (fun x => x)).trans c4, (hV.cell (p := ⟨g, i * 3, none⟩) gs (fun x => x)).trans g0, (hV.cell (p := ⟨g, i * 3 + 1, none⟩) gs (fun x => x)).trans g1⟩,
      ⟨(hV.cell (p := ⟨go, off + n * 3, none⟩) os (fun x => x)).trans o0, (hV.cell (p := ⟨go, off + n * 3 + 1, none⟩) os (fun x => x)).trans o1, (hV.cell (p := ⟨go, off + n * 3 + 2, none⟩) os (fun x => x)).trans o2⟩, Nat.lt_of_lt_of_le ps hV.size, Nat.lt_of_lt_of_le gs hV.size, Nat.lt_of_lt_of_le os hV.size⟩)
  have H := Lib.hid h
  have HT := Lib.hid ht
  have HV := Lib.hid (hN ▸ hv)
  have HN := Lib.hid hN
  have HL := Lib.hid hL
  have HNX := Lib.hid hn
  obtain ⟨kd, a0, b0⟩ := o
  have HKD := Lib.hid (show kd = 3 from hk)
  simp only at HF hk
  subst hk
  simp only at ha
  subst ha
  have HQ := Lib.hid hq
  clear hq
  have HFF := Lib.hid hf
  clear hf
  have HO := Lib.hid (show W = W from rfl)
  clear hv hl h hN hL ho ht hA hn hc ho' hd hw c4 g0 g1 g2 o0 o1 o2 hst ps gs os
  have d1 : decide ((i : Int) < 0) = false := by simp
  have d2 : decide ((N : Int) ≤ (i : Int)) = false := by simp; omega
  have i0 : (0 : Int) ≤ (i : Int) := by omega
  have i1 : (i : Int) < (N : Int) := by omega
  have n0 : (0 : Int) ≤ (n : Int) := by omega
  have n1 : (n : Int) < (L : Int) := by omega
  go_enter Try.func21, Try.ntmps21
  go_wp2_with (first
    | (go_at_call 23; refine HS.out.mono ?_; rintro e w2 ⟨rfl, hq⟩; have Q2 := Lib.hid hq; clear hq; obtain ⟨⟨t1, t2, t3⟩, ⟨t4, t5, t6⟩, t7, t8, t9⟩ := HF.out _ Q2.out))
  refine wp_region_noPanic ?_
  refine wp_region_held_drew (S := (fun w' => w'.cell? ⟨M.p, 4, none⟩ = some (.slice (some ⟨g, 0, none⟩) N cap) ∧ w'.cell? ⟨g, i * 3, none⟩ = some (.slice (some ⟨go, off, none⟩) L c) ∧ w'.cell? ⟨g, i * 3 + 1, none⟩ = some (.int .i64 (n : Nat)) ∧ w'.cell? ⟨go, off + n * 3, none⟩ = some (.int .i64 3) ∧ w'.cell? ⟨go, off + n * 3 + 1, none⟩ = some (.int .i64 (a : Int)) ∧ w'.cell? ⟨go, off + n * 3 + 2, none⟩ = some (.int .i64 b0))) (by kernel_rfl) ?_ (fun hHeld => ?_)
  · try dsimp only
    go_keep
  refine wpAnyH_take (i := 0) (v := ?_) (at_list rfl) (by kernel_rfl) (by kernel_rfl) (by kernel_rfl) (fun _ _ _ h => h) (Or.inl ⟨by rfl, ?_⟩) (by assumption) ?_
  rotate_left
  · intro w hSw
    try dsimp only at hSw
    go_simp
    try with_reducible rfl
  simp only [Act.put, List.setIfInBounds_toArray, List.set_cons_zero, List.set_cons_succ]
  refine wpAnyH_take (i := 1) (v := ?_) (at_list rfl) (by kernel_rfl) (by kernel_rfl) (by kernel_rfl) (fun _ _ _ h => h) (Or.inl ⟨by rfl, ?_⟩) (by assumption) ?_
  rotate_left
  · intro w hSw
    try dsimp only at hSw
    go_simp
    try with_reducible rfl
  simp only [Act.put, List.setIfInBounds_toArray, List.set_cons_zero, List.set_cons_succ]
  refine wpAnyH_take (i := 2) (v := ?_) (at_list rfl) (by kernel_rfl) (by kernel_rfl) (by kernel_rfl) (fun _ _ _ h => h) (Or.inl ⟨by rfl, ?_⟩) (by assumption) ?_
  rotate_left
  · intro w hSw
    try dsimp only at hSw
    go_simp
    try with_reducible rfl
  simp only [Act.put, List.setIfInBounds_toArray, List.set_cons_zero, List.set_cons_succ]
  refine wpAnyH_take (i := 3) (v := ?_) (at_list rfl) (by kernel_rfl) (by kernel_rfl) (by kernel_rfl) (fun _ _ _ h => h) (Or.inl ⟨by rfl, ?_⟩) (by assumption) ?_
  rotate_left
  · intro w hSw
    try dsimp only at hSw
    go_simp
    try with_reducible rfl
  simp only [Act.put, List.setIfInBounds_toArray, List.set_cons_zero, List.set_cons_succ]
  refine wpAnyH_take (i := 4) (v := ?_) (at_list rfl) (by kernel_rfl) (by kernel_rfl) (by kernel_rfl) (fun _ _ _ h => h) (Or.inl ⟨by rfl, ?_⟩) (by assumption) ?_
  rotate_left
  · intro w hSw
    try dsimp only at hSw
    go_simp
    try with_reducible rfl
  simp only [Act.put, List.setIfInBounds_toArray, List.set_cons_zero, List.set_cons_succ]
  refine wpAnyH_take (i := 5) (v := ?_) (at_list rfl) (by kernel_rfl) (by kernel_rfl) (by kernel_rfl) (fun _ _ _ h => h) (Or.inl ⟨by rfl, ?_⟩) (by assumption) ?_
  rotate_left
  · intro w hSw
    try dsimp only at hSw
    go_simp
    try with_reducible rfl
  simp only [Act.put, List.setIfInBounds_toArray, List.set_cons_zero, List.set_cons_succ]
  refine wpAnyH_take (i := 6) (v := ?_) (at_list rfl) (by kernel_rfl) (by kernel_rfl) (by kernel_rfl) (fun _ _ _ h => h) (Or.inl ⟨by rfl, ?_⟩) (by assumption) ?_
  rotate_left
  · intro w hSw
    try dsimp only at hSw
    go_simp
    try with_reducible rfl
  simp only [Act.put, List.setIfInBounds_toArray, List.set_cons_zero, List.set_cons_succ]
  refine wpAnyH_take (i := 7) (v := ?_) (at_list rfl) (by kernel_rfl) (by kernel_rfl) (by kernel_rfl) (fun _ _ _ h => h) (Or.inl ⟨by rfl, ?_⟩) (by assumption) ?_
  rotate_left
  · intro w hSw
    try dsimp only at hSw
    go_simp
    try with_reducible rfl
  simp only [Act.put, List.setIfInBounds_toArray, List.set_cons_zero, List.set_cons_succ]
  refine wpAnyH_take (i := 8) (v := ?_) (at_list rfl) (by kernel_rfl) (by kernel_rfl) (by kernel_rfl) (fun _ _ _ h => h) (Or.inl ⟨by rfl, ?_⟩) (by assumption) ?_
  rotate_left
  · intro w hSw
    try dsimp only at hSw
    go_simp
    try with_reducible rfl
  simp only [Act.put, List.setIfInBounds_toArray, List.set_cons_zero, List.set_cons_succ]
  refine wpAnyH_take (i := 9) (v := ?_) (at_list rfl) (by kernel_rfl) (by kernel_rfl) (by kernel_rfl) (fun _ _ _ h => h) (Or.inl ⟨by rfl, ?_⟩) (by assumption) ?_
  rotate_left
  · intro w hSw
    try dsimp only at hSw
    go_simp
    try with_reducible rfl
  simp only [Act.put, List.setIfInBounds_toArray, List.set_cons_zero, List.set_cons_succ]
  refine wpAnyH_take (i := 10) (v := ?_) (at_list rfl) (by kernel_rfl) (by kernel_rfl) (by kernel_rfl) (fun _ _ _ h => h) (Or.inl ⟨by rfl, ?_⟩) (by assumption) ?_
  rotate_left
  · intro w hSw
    try dsimp only at hSw
    go_simp
    try with_reducible rfl
  simp only [Act.put, List.setIfInBounds_toArray, List.set_cons_zero, List.set_cons_succ]
  refine wpAnyH_take (i := 11) (v := ?_) (at_list rfl) (by kernel_rfl) (by kernel_rfl) (by kernel_rfl) (fun _ _ _ h => h) (Or.inl ⟨by rfl, ?_⟩) (by assumption) ?_
  rotate_left
  · intro w hSw
    try dsimp only at hSw
    go_simp
    try with_reducible rfl
  simp only [Act.put, List.setIfInBounds_toArray, List.set_cons_zero, List.set_cons_succ]
  refine wpAnyH_take (i := 12) (v := ?_) (at_list rfl) (by kernel_rfl) (by kernel_rfl) (by kernel_rfl) (fun _ _ _ h => h) (Or.inl ⟨by rfl, ?_⟩) (by assumption) ?_
  rotate_left
  · intro w hSw
    try dsimp only at hSw
    go_simp
    try with_reducible rfl
  simp only [Act.put, List.setIfInBounds_toArray, List.set_cons_zero, List.set_cons_succ]
  refine wpAnyH_take (i := 13) (v := ?_) (at_list rfl) (by kernel_rfl) (by kernel_rfl) (by kernel_rfl) (fun _ _ _ h => h) (Or.inl ⟨by rfl, ?_⟩) (by assumption) ?_
  rotate_left
  · intro w hSw
    try dsimp only at hSw
    go_simp
    try with_reducible rfl
  simp only [Act.put, List.setIfInBounds_toArray, List.set_cons_zero, List.set_cons_succ]
  refine wpAnyH_take (i := 14) (v := ?_) (at_list rfl) (by kernel_rfl) (by kernel_rfl) (by kernel_rfl) (fun _ _ _ h => h) (Or.inl ⟨by rfl, ?_⟩) (by assumption) ?_
  rotate_left
  · intro w hSw
    try dsimp only at hSw
    go_simp
    try with_reducible rfl
  simp only [Act.put, List.setIfInBounds_toArray, List.set_cons_zero, List.set_cons_succ]
  refine wpAnyH_take (i := 15) (v := ?_) (at_list rfl) (by kernel_rfl) (by kernel_rfl) (by kernel_rfl) (fun _ _ _ h => h) (Or.inl ⟨by rfl, ?_⟩) (by assumption) ?_
  rotate_left
  · intro w hSw
    try dsimp only at hSw
    go_simp
    try with_reducible rfl
  simp only [Act.put, List.setIfInBounds_toArray, List.set_cons_zero, List.set_cons_succ]
  refine wpAnyH_take (i := 16) (v := ?_) (at_list rfl) (by kernel_rfl) (by kernel_rfl) (by kernel_rfl) (fun _ _ _ h => h) (Or.inl ⟨by rfl, ?_⟩) (by assumption) ?_
  rotate_left
  · intro w hSw
    try dsimp only at hSw
    go_simp
    try with_reducible rfl
  simp only [Act.put, List.setIfInBounds_toArray, List.set_cons_zero, List.set_cons_succ]
  refine wpAnyH_take (i := 17) (v := ?_) (at_list rfl) (by kernel_rfl) (by kernel_rfl) (by kernel_rfl) (fun _ _ _ h => h) (Or.inl ⟨by rfl, ?_⟩) (by assumption) ?_
  rotate_left
  · intro w hSw
    try dsimp only at hSw
    go_simp
    try with_reducible rfl
  simp only [Act.put, List.setIfInBounds_toArray, List.set_cons_zero, List.set_cons_succ]
  refine wpAnyH_ready (rs := [18]) (by kernel_rfl) (by simp) ?_
  refine AllReadyH.cons (at_list rfl) (fun KK hKK => ?_) AllReadyH.nil
  go_simp
  refine hKK.out _ _ ?_ (fun hHeld2 => ?_)
  · try dsimp only
    go_keep
  clear hKK KK hHeld
  rename _ => hHeld
  try simp only [Act.put, List.setIfInBounds_toArray, List.set_cons_zero, List.set_cons_succ]
  refine wpAnyH_ready (rs := [19]) (by kernel_rfl) (by simp) ?_
  refine AllReadyH.cons (at_list rfl) (fun KK hKK => ?_) AllReadyH.nil
  go_simp
  refine hKK.out _ _ ?_ (fun hHeld2 => ?_)
  · try dsimp only
    go_keep
  clear hKK KK hHeld
  rename _ => hHeld
  try simp only [Act.put, List.setIfInBounds_toArray, List.set_cons_zero, List.set_cons_succ]
  refine wpAnyH_done (by kernel_rfl) ?_ _
  refine NoPanic.normal ?_
  obtain ⟨b, hb⟩ : ∃ b, b = w2.heap.size := ⟨_, rfl⟩
  have HB3 := Lib.hid (show ((w2.alloc (.cells #[.int .i64 3, .int .i64 (a : Int), .int .i64 b0] 78)).drew).heap[b]? = some (.cells #[.int .i64 3, .int .i64 (a : Int), .int .i64 b0] 78 (0, 0)) by rw [hb]; exact blk_drew (blk_new _ _))
  have Q3 := Lib.hid (show Quiet w ((w2.alloc (.cells #[.int .i64 3, .int .i64 (a : Int), .int .i64 b0] 78)).drew) from (Q2.out.alloc _).drew)
  rw [← hb]
  clear hHeld t1 t2 t3 t4 t5 t6 t7 t8 t9 hb
  generalize (w2.alloc (.cells #[.int .i64 3, .int .i64 (a : Int), .int .i64 b0] 78)).drew = w3 at HB3 Q3 ⊢
  obtain ⟨⟨t1, t2, t3⟩, t4, t7, t8, t9⟩ := HF.out _ Q3.out
  clear t4 t9
  obtain ⟨cu, hcu⟩ := row_ownB (H.out.quiet Q3.out).tasks (k := g) (by rw [HV.out]; rfl)
  have hfz : w3.frozen? ⟨g, i * 3 + 1, none⟩ = false := blk_frozen hcu _
  have hbg : b ≠ g := blk_ne HB3.out hcu (by decide)
  have HB4 := Lib.hid (blk_far HB3.out (p := ⟨g, i * 3 + 1, none⟩) hbg (.int .i64 ((n : Int) + 1)))
  obtain ⟨hm4, ho4⟩ := (H.out.quiet Q3.out).setTask HT.out HV.out ⟨t.A, t.c, t.all, t.next + 1, t.has⟩ 1 (.int .i64 ((n : Int) + 1)) (by decide) (by rw [HNX.out]; simp [rtc]) ⟨rfl, rfl, rfl⟩ ⟨by simp, by show t.next + 1 ≤ t.all.length; have := HNX.out; have := HL.out; omega⟩ (H.out.fit.tz _ (List.mem_of_getElem? (H.out.thread HT.out))).2.1
  have H4 := Lib.hid hm4
  have O4 := Lib.hid (RSide.trans (RSide.quiet Q3.out) ho4)
  clear hm4 ho4 hcu
  go_upto_region 10 with (fail)
  clear t1 t2 t3 t7 t8 hfz
  generalize w3.setCell ⟨g, i * 3 + 1, none⟩ (.int .i64 ((n : Int) + 1)) = w4 at HB4 H4 O4 ⊢
  have x0 : w4.cell? ⟨b, 0, none⟩ = some (.int .i64 3) := blk_cell HB4.out 0
  have x1 : w4.cell? ⟨b, 1, none⟩ = some (.int .i64 (a : Int)) := blk_cell HB4.out 1
  have x2 : w4.cell? ⟨b, 2, none⟩ = some (.int .i64 b0) := blk_cell HB4.out 2
  have hbs : b < w4.heap.size := lt_of_heap HB4.out
  have hq1 : ((setT W i ⟨t.all.drop (t.next + 1), t.has⟩)).pipes[a]? = some q := HQ.out
  obtain ⟨X, gh, oh, gz, oz, hX0, hXl, hgA0, ghs, hac0, hcc0, hcm0, yc, hzA, gzs, haz, hzc, hzm, hzx⟩ := H4.out.chan hq1
  have hX : M.cs[a]? = some X := hX0
  have hgA : M.gA = some ⟨gh, oh, none⟩ := hgA0
  have hac : a < M.cs.length := hac0
  have hcc : M.cs.length ≤ M.gc := hcc0
  have hcm : M.gc ≤ maxLen := hcm0
  have c2 : w4.cell? ⟨M.p, 2, none⟩ = some (.slice M.gA M.cs.length M.gc) := H4.out.head.2.2.1
  have c5 : M.p < w4.heap.size := H4.out.head.2.2.2.2.2
  have hsx : Sl w4 3 X.A X.l.length X.c (i64s X.l) := H4.out.rows X (List.mem_of_getElem? (i := a + 3) hX0)
  obtain ⟨pz1, pz2, pz3, pz4⟩ := H4.out.fit.pz q (List.mem_of_getElem? hq1)
  rw [hgA] at c2
  obtain ⟨cuh, hcuh⟩ := H4.out.chans.type (k := gh) ⟨_, hgA, rfl⟩
  rw [hXl] at hsx
  have hnr : ¬ RowOf X.A gh := fun k => by obtain ⟨cu2, hc2⟩ := hsx.type k; exact blk_ne hc2 hcuh (by decide) rfl
  have hbr : ¬ RowOf X.A b := fun k => by obtain ⟨cu2, hc2⟩ := hsx.type k; exact blk_ne hc2 HB4.out (by decide) rfl
  have hpr : ¬ RowOf X.A M.p := fun k => by obtain ⟨cu2, hc2⟩ := hsx.type k; exact blk_ne hc2 H4.out.blk (by decide) rfl
  have hbh : b ≠ gh := blk_ne HB4.out hcuh (by decide)
  have hph : M.p ≠ gh := blk_ne H4.out.blk hcuh (by decide)
  have hfh : w4.frozen? ⟨gh, oh + a, none⟩ = false := blk_frozen hcuh _
  have HX := Lib.hid hX
  have HGA := Lib.hid hgA
  have HQ1 := Lib.hid hq1
  obtain ⟨nc, hnc⟩ : ∃ n, n = M.cs.length := ⟨_, rfl⟩
  obtain ⟨cc, hccq⟩ : ∃ n, n = M.gc := ⟨_, rfl⟩
  rw [← hnc, ← hccq] at c2
  rw [← hnc] at hac hcc
  rw [← hccq] at hcc hcm
  unfold maxLen at hcm
  have hxle := hsx.le
  have hxcm := hsx.capLe
  unfold maxLen at hxcm
  have a0 : (0 : Int) ≤ (a : Int) := by omega
  have a1 : (a : Int) < (nc : Int) := by omega
  clear hX0 hgA0 hac0 hcc0 hcm0 hzA gzs haz hzc hzm hzx hXl hX hgA hnc hccq hq1
  obtain ⟨i3, h30, h31, h32, h33⟩ := info_parts Try.info3
  have HSX := Lib.hid hsx
  obtain ⟨nq, hnq⟩ : ∃ n, n = q.l.length := ⟨_, rfl⟩
  rw [← hnq] at yc HSX pz3 hxle
  have HNQ := Lib.hid hnq
  have FS := Lib.hid (fun (V : World) (hV : Only (fun k => RowOf X.A k ∨ k = gh) w4 V) => show V.cell? ⟨M.p, 2, none⟩ = some (.slice (some ⟨gh, oh, none⟩) nc cc) ∧ V.cell? ⟨b, 1, none⟩ = some (.int .i64 (a : Int)) ∧ V.cell? ⟨b, 2, none⟩ = some (.int .i64 b0) from
    ⟨(hV.cell (p := ⟨M.p, 2, none⟩) c5 (by rintro (e | e); exact hpr e; exact hph e)).trans c2, (hV.cell (p := ⟨b, 1, none⟩) hbs (by rintro (e | e); exact hbr e; exact hbh e)).trans x1, (hV.cell (p := ⟨b, 2, none⟩) hbs (by rintro (e | e); exact hbr e; exact hbh e)).trans x2⟩)
  have FC := Lib.hid (fun (V : World) (hV : Only (RowOf X.A) w4 V) => show V.cell? ⟨gh, oh + a, none⟩ = some (.slice X.A nq X.c) ∧ V.frozen? ⟨gh, oh + a, none⟩ = false ∧ gh < V.heap.size ∧ M.p < V.heap.size ∧ b < V.heap.size from
    ⟨(hV.cell (p := ⟨gh, oh + a, none⟩) ghs hnr).trans yc, blk_frozen (hV.keep hcuh hnr) _, Nat.lt_of_lt_of_le ghs hV.size, Nat.lt_of_lt_of_le c5 hV.size, Nat.lt_of_lt_of_le hbs hV.size⟩)
  clear hsx hcuh hnq hnr hbr hpr pz4 pz1
  go_wp2_with fail
  refine wp_region_noPanic ?_
  refine wp_region_held_drew (S := (fun w' => w'.cell? ⟨M.p, 2, none⟩ = some (.slice (some ⟨gh, oh, none⟩) nc cc) ∧ w'.cell? ⟨b, 1, none⟩ = some (.int .i64 (a : Int)) ∧ w'.cell? ⟨b, 2, none⟩ = some (.int .i64 b0))) (by kernel_rfl) ?_ (fun hHeld => ?_)
  · try dsimp only
    exact FS.out _ (by repeat (first | exact Only.refl _ _ | exact QS8.out | exact QS6.out | refine Only.drewN ?_ _ | refine Only.drew ?_ | refine Only.alloc ?_ _ | refine Only.setCell (S := (fun k => RowOf X.A k ∨ k = gh)) ?_ (fun _ => .inr rfl) _))
  refine wpAnyH_take (i := 0) (v := ?_) (at_list rfl) (by kernel_rfl) (by kernel_rfl) (by kernel_rfl) (fun _ _ _ h => h) (Or.inl ⟨by rfl, ?_⟩) (by assumption) ?_
  rotate_left
  · intro w hSw
    try dsimp only at hSw
    go_simp
    try with_reducible rfl
  simp only [Act.put, List.setIfInBounds_toArray, List.set_cons_zero, List.set_cons_succ]
  refine wpAnyH_take (i := 1) (v := ?_) (at_list rfl) (by kernel_rfl) (by kernel_rfl) (by kernel_rfl) (fun _ _ _ h => h) (Or.inl ⟨by rfl, ?_⟩) (by assumption) ?_
  rotate_left
  · intro w hSw
    try dsimp only at hSw
    go_simp
    try with_reducible rfl
  simp only [Act.put, List.setIfInBounds_toArray, List.set_cons_zero, List.set_cons_succ]
  refine wpAnyH_take (i := 2) (v := ?_) (at_list rfl) (by kernel_rfl) (by kernel_rfl) (by kernel_rfl) (fun _ _ _ h => h) (Or.inl ⟨by rfl, ?_⟩) (by assumption) ?_
  rotate_left
  · intro w hSw
    try dsimp only at hSw
    go_simp
    try with_reducible rfl
  simp only [Act.put, List.setIfInBounds_toArray, List.set_cons_zero, List.set_cons_succ]
  refine wpAnyH_take (i := 3) (v := ?_) (at_list rfl) (by kernel_rfl) (by kernel_rfl) (by kernel_rfl) (fun _ _ _ h => h) (Or.inl ⟨by rfl, ?_⟩) (by assumption) ?_
  rotate_left
  · intro w hSw
    try dsimp only at hSw
    go_simp
    try with_reducible rfl
  simp only [Act.put, List.setIfInBounds_toArray, List.set_cons_zero, List.set_cons_succ]
  refine wpAnyH_take (i := 4) (v := ?_) (at_list rfl) (by kernel_rfl) (by kernel_rfl) (by kernel_rfl) (fun _ _ _ h => h) (Or.inl ⟨by rfl, ?_⟩) (by assumption) ?_
  rotate_left
  · intro w hSw
    try dsimp only at hSw
    go_simp
    try with_reducible rfl
  simp only [Act.put, List.setIfInBounds_toArray, List.set_cons_zero, List.set_cons_succ]
  refine wpAnyH_take (i := 5) (v := ?_) (at_list rfl) (by kernel_rfl) (by kernel_rfl) (by kernel_rfl) (fun _ _ _ h => h) (Or.inl ⟨by rfl, ?_⟩) (by assumption) ?_
  rotate_left
  · intro w hSw
    try dsimp only at hSw
    go_simp
    try with_reducible rfl
  simp only [Act.put, List.setIfInBounds_toArray, List.set_cons_zero, List.set_cons_succ]
  refine wpAnyH_take (i := 6) (v := ?_) (at_list rfl) (by kernel_rfl) (by kernel_rfl) (by kernel_rfl) (fun _ _ _ h => h) (Or.inl ⟨by rfl, ?_⟩) (by assumption) ?_
  rotate_left
  · intro w hSw
    try dsimp only at hSw
    go_simp
    try with_reducible rfl
  simp only [Act.put, List.setIfInBounds_toArray, List.set_cons_zero, List.set_cons_succ]
  refine wpAnyH_take (i := 7) (v := ?_) (at_list rfl) (by kernel_rfl) (by kernel_rfl) (by kernel_rfl) (fun _ _ _ h => h) (Or.inl ⟨by rfl, ?_⟩) (by assumption) ?_
  rotate_left
  · intro w hSw
    try dsimp only at hSw
    go_simp
    try with_reducible rfl
  simp only [Act.put, List.setIfInBounds_toArray, List.set_cons_zero, List.set_cons_succ]
  refine wpAnyH_take (i := 8) (v := ?_) (at_list rfl) (by kernel_rfl) (by kernel_rfl) (by kernel_rfl) (fun _ _ _ h => h) (Or.inl ⟨by rfl, ?_⟩) (by assumption) ?_
  rotate_left
  · intro w hSw
    try dsimp only at hSw
    go_simp
    try with_reducible rfl
  simp only [Act.put, List.setIfInBounds_toArray, List.set_cons_zero, List.set_cons_succ]
  refine wpAnyH_take (i := 9) (v := ?_) (at_list rfl) (by kernel_rfl) (by kernel_rfl) (by kernel_rfl) (fun _ _ _ h => h) (Or.inl ⟨by rfl, ?_⟩) (by assumption) ?_
  rotate_left
  · intro w hSw
    try dsimp only at hSw
    go_simp
    try with_reducible rfl
  simp only [Act.put, List.setIfInBounds_toArray, List.set_cons_zero, List.set_cons_succ]
  refine wpAnyH_take (i := 10) (v := ?_) (at_list rfl) (by kernel_rfl) (by kernel_rfl) (by kernel_rfl) (fun _ _ _ h => h) (Or.inl ⟨by rfl, ?_⟩) (by assumption) ?_
  rotate_left
  · intro w hSw
    try dsimp only at hSw
    go_simp
    try with_reducible rfl
  simp only [Act.put, List.setIfInBounds_toArray, List.set_cons_zero, List.set_cons_succ]
  refine wpAnyH_take (i := 11) (v := ?_) (at_list rfl) (by kernel_rfl) (by kernel_rfl) (by kernel_rfl) (fun _ _ _ h => h) (Or.inl ⟨by rfl, ?_⟩) (by assumption) ?_
  rotate_left
  · intro w hSw
    try dsimp only at hSw
    go_simp
    try with_reducible rfl
  simp only [Act.put, List.setIfInBounds_toArray, List.set_cons_zero, List.set_cons_succ]
  refine wpAnyH_take (i := 12) (v := ?_) (at_list rfl) (by kernel_rfl) (by kernel_rfl) (by kernel_rfl) (fun _ _ _ h => h) (Or.inl ⟨by rfl, ?_⟩) (by assumption) ?_
  rotate_left
  · intro w hSw
    try dsimp only at hSw
    go_simp
    try with_reducible rfl
  simp only [Act.put, List.setIfInBounds_toArray, List.set_cons_zero, List.set_cons_succ]
  refine wpAnyH_take (i := 14) (v := ?_) (at_list rfl) (by kernel_rfl) (by kernel_rfl) (by kernel_rfl) (fun _ _ _ h => h) (Or.inl ⟨by rfl, ?_⟩) (by assumption) ?_
  rotate_left
  · intro w hSw
    try dsimp only at hSw
    go_simp
    try with_reducible rfl
  simp only [Act.put, List.setIfInBounds_toArray, List.set_cons_zero, List.set_cons_succ]
  refine wpAnyH_take (i := 15) (v := ?_) (at_list rfl) (by kernel_rfl) (by kernel_rfl) (by kernel_rfl) (fun _ _ _ h => h) (Or.inl ⟨by rfl, ?_⟩) (by assumption) ?_
  rotate_left
  · intro w hSw
    try dsimp only at hSw
    go_simp
    try with_reducible rfl
  simp only [Act.put, List.setIfInBounds_toArray, List.set_cons_zero, List.set_cons_succ]
  refine wpAnyH_ready (rs := [13, 16]) (by kernel_rfl) (by simp) ?_
  refine AllReadyH.cons (at_list rfl) (fun KK hKK => ?_) (AllReadyH.cons (at_list rfl) (fun KK hKK => ?_) AllReadyH.nil)
  · skip
    go_simp
    refine hKK.out _ _ ?_ (fun hHeld2 => ?_)
    · try dsimp only
      exact FS.out _ (by repeat (first | exact Only.refl _ _ | exact QS8.out | exact QS6.out | refine Only.drewN ?_ _ | refine Only.drew ?_ | refine Only.alloc ?_ _ | refine Only.setCell (S := (fun k => RowOf X.A k ∨ k = gh)) ?_ (fun _ => .inr rfl) _))
    clear hKK KK hHeld
    rename _ => hHeld
    try simp only [Act.put, List.setIfInBounds_toArray, List.set_cons_zero, List.set_cons_succ]
    refine wpAnyH_ready (rs := [16]) (by kernel_rfl) (by simp) ?_
    refine AllReadyH.cons (at_list rfl) (fun KK hKK => ?_) AllReadyH.nil
    go_simp
    go_at_call 30
    refine (rword_at _ _).mono ?_
    rintro e w6 ⟨rfl, hq6⟩
    have Q6 := Lib.hid (show Quiet w4 w6 from Only.trans (by repeat (first | exact Only.refl _ _ | exact Q7.out | exact Q6.out | refine Only.drewN ?_ _ | refine Only.drew ?_ | refine Only.alloc ?_ _)) hq6)
    have QS6 := Lib.hid (show Only (fun k => RowOf X.A k ∨ k = gh) w4 w6 from Only.mono Q6.out (fun _ _ x => x.elim))
    have QR6 := Lib.hid (show Only (RowOf X.A) w4 w6 from Only.mono Q6.out (fun _ _ x => x.elim))
    obtain ⟨y1, y2, y3, y4, y5⟩ := FC.out w6 QR6.out
    clear hq6
    try go_wp2_with fail
    refine hKK.out _ _ ?_ (fun hHeld2 => ?_)
    · try dsimp only
      exact FS.out _ (by repeat (first | exact Only.refl _ _ | exact QS8.out | exact QS6.out | refine Only.drewN ?_ _ | refine Only.drew ?_ | refine Only.alloc ?_ _ | refine Only.setCell (S := (fun k => RowOf X.A k ∨ k = gh)) ?_ (fun _ => .inr rfl) _))
    clear hKK KK hHeld
    rename _ => hHeld
    try simp only [Act.put, List.setIfInBounds_toArray, List.set_cons_zero, List.set_cons_succ]
    refine wpAnyH_ready (rs := [17]) (by kernel_rfl) (by simp) ?_
    refine AllReadyH.cons (at_list rfl) (fun KK hKK => ?_) AllReadyH.nil
    go_simp
    refine hKK.out _ _ ?_ (fun hHeld2 => ?_)
    · try dsimp only
      exact FS.out _ (by repeat (first | exact Only.refl _ _ | exact QS8.out | exact QS6.out | refine Only.drewN ?_ _ | refine Only.drew ?_ | refine Only.alloc ?_ _ | refine Only.setCell (S := (fun k => RowOf X.A k ∨ k = gh)) ?_ (fun _ => .inr rfl) _))
    clear hKK KK hHeld
    rename _ => hHeld
    try simp only [Act.put, List.setIfInBounds_toArray, List.set_cons_zero, List.set_cons_succ]
    refine wpAnyH_ready (rs := [18]) (by kernel_rfl) (by simp) ?_
    refine AllReadyH.cons (at_list rfl) (fun KK hKK => ?_) AllReadyH.nil
    refine step_append_sl _ (by rfl) (.tmp 110) (.tmp 114) 44 (by rfl) 3 i3 (.int .i64 0) 8 Try.underlying44 h30 h31 h32 h33 rfl X.A nq X.c (i64s q.l) (by rfl) (HSX.out.only (F := fun _ => False) (by repeat (first | exact Only.refl _ _ | exact Q7.out | exact Q6.out | refine Only.drewN ?_ _ | refine Only.drew ?_ | refine Only.alloc ?_ _)) (fun _ _ h => h)) (some ⟨w6.heap.size, 0, none⟩) 1 1 [_] (by rfl) rfl (src_one (by repeat (first | exact blk_new' _ _ (by first | rfl | simp) | refine blk_drewN ?_ | refine blk_drew ?_ | refine blk_alloc ?_ _))) nofun (one_one rfl) (by unfold maxLen; omega) (by omega) ?_
    intro A8 c8 w8 hs8 ho8 hr8
    have HP := Lib.hid (RPost.after O4.out (chan_post (n := nq + 1) (c8 := c8) (A8 := A8) H4.out HQ1.out HX.out (by repeat (first | exact Only.refl _ _ | exact Q7.out | exact Q6.out | refine Only.drewN ?_ _ | refine Only.drew ?_ | refine Only.alloc ?_ _)) ho8 (l := q.l ++ [w32 b0]) (by have := HNQ.out; simp; omega) (by simpa [i64s] using hs8) hr8 HGA.out HFF.out))
    have QR8 := Lib.hid (show Only (RowOf X.A) w4 w8 from Only.trans' (by repeat (first | exact Only.refl _ _ | exact Q7.out | exact Q6.out | refine Only.drewN ?_ _ | refine Only.drew ?_ | refine Only.alloc ?_ _)) ho8)
    have QS8 := Lib.hid (show Only (fun k => RowOf X.A k ∨ k = gh) w4 w8 from Only.mono QR8.out (fun _ _ x => .inl x))
    obtain ⟨z1, z2, z3, z4, z5⟩ := FC.out w8 QR8.out
    clear hs8 ho8 hr8
    refine hKK.out _ _ ?_ (fun hHeld2 => ?_)
    · try dsimp only
      exact FS.out _ (by repeat (first | exact Only.refl _ _ | exact QS8.out | exact QS6.out | refine Only.drewN ?_ _ | refine Only.drew ?_ | refine Only.alloc ?_ _ | refine Only.setCell (S := (fun k => RowOf X.A k ∨ k = gh)) ?_ (fun _ => .inr rfl) _))
    clear hKK KK hHeld
    rename _ => hHeld
    try simp only [Act.put, List.setIfInBounds_toArray, List.set_cons_zero, List.set_cons_succ]
    refine wpAnyH_take (i := 19) (v := ?_) (at_list rfl) (by kernel_rfl) (by kernel_rfl) (by kernel_rfl) (fun _ _ _ h => h) (Or.inl ⟨by rfl, ?_⟩) (by assumption) ?_
    rotate_left
    · intro w hSw
      try dsimp only at hSw
      go_simp
      try with_reducible rfl
    simp only [Act.put, List.setIfInBounds_toArray, List.set_cons_zero, List.set_cons_succ]
    refine wpAnyH_ready (rs := [20]) (by kernel_rfl) (by simp) ?_
    refine AllReadyH.cons (at_list rfl) (fun KK hKK => ?_) AllReadyH.nil
    go_simp
    refine hKK.out _ _ ?_ (fun hHeld2 => ?_)
    · try dsimp only
      exact FS.out _ (by repeat (first | exact Only.refl _ _ | exact QS8.out | exact QS6.out | refine Only.drewN ?_ _ | refine Only.drew ?_ | refine Only.alloc ?_ _ | refine Only.setCell (S := (fun k => RowOf X.A k ∨ k = gh)) ?_ (fun _ => .inr rfl) _))
    clear hKK KK hHeld
    rename _ => hHeld
    try simp only [Act.put, List.setIfInBounds_toArray, List.set_cons_zero, List.set_cons_succ]
    refine wpAnyH_done (by kernel_rfl) ?_ _
    refine NoPanic.normal ?_
    go_wp2_with (go_at_call 23; refine (rstate HP.out.1 (i : Int)).mono ?_; rintro e w9 ⟨rfl, hq9⟩; have Q9 := Lib.hid hq9; clear hq9)
    go_ret2
    exact ⟨rfl, HP.out.quiet Q9.out⟩
  · skip
    go_simp
    go_at_call 30
    refine (rword_at _ _).mono ?_
    rintro e w6 ⟨rfl, hq6⟩
    have Q6 := Lib.hid (show Quiet w4 w6 from Only.trans (by repeat (first | exact Only.refl _ _ | exact Q7.out | exact Q6.out | refine Only.drewN ?_ _ | refine Only.drew ?_ | refine Only.alloc ?_ _)) hq6)
    have QS6 := Lib.hid (show Only (fun k => RowOf X.A k ∨ k = gh) w4 w6 from Only.mono Q6.out (fun _ _ x => x.elim))
    have QR6 := Lib.hid (show Only (RowOf X.A) w4 w6 from Only.mono Q6.out (fun _ _ x => x.elim))
    obtain ⟨y1, y2, y3, y4, y5⟩ := FC.out w6 QR6.out
    clear hq6
    try go_wp2_with fail
    refine hKK.out _ _ ?_ (fun hHeld2 => ?_)
    · try dsimp only
      exact FS.out _ (by repeat (first | exact Only.refl _ _ | exact QS8.out | exact QS6.out | refine Only.drewN ?_ _ | refine Only.drew ?_ | refine Only.alloc ?_ _ | refine Only.setCell (S := (fun k => RowOf X.A k ∨ k = gh)) ?_ (fun _ => .inr rfl) _))
    clear hKK KK hHeld
    rename _ => hHeld
    try simp only [Act.put, List.setIfInBounds_toArray, List.set_cons_zero, List.set_cons_succ]
    refine wpAnyH_ready (rs := [13, 17]) (by kernel_rfl) (by simp) ?_
    refine AllReadyH.cons (at_list rfl) (fun KK hKK => ?_) (AllReadyH.cons (at_list rfl) (fun KK hKK => ?_) AllReadyH.nil)
    · skip
      go_simp
      refine hKK.out _ _ ?_ (fun hHeld2 => ?_)
      · try dsimp only
        exact FS.out _ (by repeat (first | exact Only.refl _ _ | exact QS8.out | exact QS6.out | refine Only.drewN ?_ _ | refine Only.drew ?_ | refine Only.alloc ?_ _ | refine Only.setCell (S := (fun k => RowOf X.A k ∨ k = gh)) ?_ (fun _ => .inr rfl) _))
      clear hKK KK hHeld
      rename _ => hHeld
      try simp only [Act.put, List.setIfInBounds_toArray, List.set_cons_zero, List.set_cons_succ]
      refine wpAnyH_ready (rs := [17]) (by kernel_rfl) (by simp) ?_
      refine AllReadyH.cons (at_list rfl) (fun KK hKK => ?_) AllReadyH.nil
      go_simp
      refine hKK.out _ _ ?_ (fun hHeld2 => ?_)
      · try dsimp only
        exact FS.out _ (by repeat (first | exact Only.refl _ _ | exact QS8.out | exact QS6.out | refine Only.drewN ?_ _ | refine Only.drew ?_ | refine Only.alloc ?_ _ | refine Only.setCell (S := (fun k => RowOf X.A k ∨ k = gh)) ?_ (fun _ => .inr rfl) _))
      clear hKK KK hHeld
      rename _ => hHeld
      try simp only [Act.put, List.setIfInBounds_toArray, List.set_cons_zero, List.set_cons_succ]
      refine wpAnyH_ready (rs := [18]) (by kernel_rfl) (by simp) ?_
      refine AllReadyH.cons (at_list rfl) (fun KK hKK => ?_) AllReadyH.nil
      refine step_append_sl _ (by rfl) (.tmp 110) (.tmp 114) 44 (by rfl) 3 i3 (.int .i64 0) 8 Try.underlying44 h30 h31 h32 h33 rfl X.A nq X.c (i64s q.l) (by rfl) (HSX.out.only (F := fun _ => False) (by repeat (first | exact Only.refl _ _ | exact Q7.out | exact Q6.out | refine Only.drewN ?_ _ | refine Only.drew ?_ | refine Only.alloc ?_ _)) (fun _ _ h => h)) (some ⟨w6.heap.size, 0, none⟩) 1 1 [_] (by rfl) rfl (src_one (by repeat (first | exact blk_new' _ _ (by first | rfl | simp) | refine blk_drewN ?_ | refine blk_drew ?_ | refine blk_alloc ?_ _))) nofun (one_one rfl) (by unfold maxLen; omega) (by omega) ?_
      intro A8 c8 w8 hs8 ho8 hr8
      have HP := Lib.hid (RPost.after O4.out (chan_post (n := nq + 1) (c8 := c8) (A8 := A8) H4.out HQ1.out HX.out (by repeat (first | exact Only.refl _ _ | exact Q7.out | exact Q6.out | refine Only.drewN ?_ _ | refine Only.drew ?_ | refine Only.alloc ?_ _)) ho8 (l := q.l ++ [w32 b0]) (by have := HNQ.out; simp; omega) (by simpa [i64s] using hs8) hr8 HGA.out HFF.out))
      have QR8 := Lib.hid (show Only (RowOf X.A) w4 w8 from Only.trans' (by repeat (first | exact Only.refl _ _ | exact Q7.out | exact Q6.out | refine Only.drewN ?_ _ | refine Only.drew ?_ | refine Only.alloc ?_ _)) ho8)
      have QS8 := Lib.hid (show Only (fun k => RowOf X.A k ∨ k = gh) w4 w8 from Only.mono QR8.out (fun _ _ x => .inl x))
      obtain ⟨z1, z2, z3, z4, z5⟩ := FC.out w8 QR8.out
      clear hs8 ho8 hr8
      refine hKK.out _ _ ?_ (fun hHeld2 => ?_)
      · try dsimp only
        exact FS.out _ (by repeat (first | exact Only.refl _ _ | exact QS8.out | exact QS6.out | refine Only.drewN ?_ _ | refine Only.drew ?_ | refine Only.alloc ?_ _ | refine Only.setCell (S := (fun k => RowOf X.A k ∨ k = gh)) ?_ (fun _ => .inr rfl) _))
      clear hKK KK hHeld
      rename _ => hHeld
      try simp only [Act.put, List.setIfInBounds_toArray, List.set_cons_zero, List.set_cons_succ]
      refine wpAnyH_take (i := 19) (v := ?_) (at_list rfl) (by kernel_rfl) (by kernel_rfl) (by kernel_rfl) (fun _ _ _ h => h) (Or.inl ⟨by rfl, ?_⟩) (by assumption) ?_
      rotate_left
      · intro w hSw
        try dsimp only at hSw
        go_simp
        try with_reducible rfl
      simp only [Act.put, List.setIfInBounds_toArray, List.set_cons_zero, List.set_cons_succ]
      refine wpAnyH_ready (rs := [20]) (by kernel_rfl) (by simp) ?_
      refine AllReadyH.cons (at_list rfl) (fun KK hKK => ?_) AllReadyH.nil
      go_simp
      refine hKK.out _ _ ?_ (fun hHeld2 => ?_)
      · try dsimp only
        exact FS.out _ (by repeat (first | exact Only.refl _ _ | exact QS8.out | exact QS6.out | refine Only.drewN ?_ _ | refine Only.drew ?_ | refine Only.alloc ?_ _ | refine Only.setCell (S := (fun k => RowOf X.A k ∨ k = gh)) ?_ (fun _ => .inr rfl) _))
      clear hKK KK hHeld
      rename _ => hHeld
      try simp only [Act.put, List.setIfInBounds_toArray, List.set_cons_zero, List.set_cons_succ]
      refine wpAnyH_done (by kernel_rfl) ?_ _
      refine NoPanic.normal ?_
      go_wp2_with (go_at_call 23; refine (rstate HP.out.1 (i : Int)).mono ?_; rintro e w9 ⟨rfl, hq9⟩; have Q9 := Lib.hid hq9; clear hq9)
      go_ret2
      exact ⟨rfl, HP.out.quiet Q9.out⟩
    · skip
      go_simp
      refine hKK.out _ _ ?_ (fun hHeld2 => ?_)
      · try dsimp only
        exact FS.out _ (by repeat (first | exact Only.refl _ _ | exact QS8.out | exact QS6.out | refine Only.drewN ?_ _ | refine Only.drew ?_ | refine Only.alloc ?_ _ | refine Only.setCell (S := (fun k => RowOf X.A k ∨ k = gh)) ?_ (fun _ => .inr rfl) _))
      clear hKK KK hHeld
      rename _ => hHeld
      try simp only [Act.put, List.setIfInBounds_toArray, List.set_cons_zero, List.set_cons_succ]
      refine wpAnyH_ready (rs := [13]) (by kernel_rfl) (by simp) ?_
      refine AllReadyH.cons (at_list rfl) (fun KK hKK => ?_) AllReadyH.nil
      go_simp
      refine hKK.out _ _ ?_ (fun hHeld2 => ?_)
      · try dsimp only
        exact FS.out _ (by repeat (first | exact Only.refl _ _ | exact QS8.out | exact QS6.out | refine Only.drewN ?_ _ | refine Only.drew ?_ | refine Only.alloc ?_ _ | refine Only.setCell (S := (fun k => RowOf X.A k ∨ k = gh)) ?_ (fun _ => .inr rfl) _))
      clear hKK KK hHeld
      rename _ => hHeld
      try simp only [Act.put, List.setIfInBounds_toArray, List.set_cons_zero, List.set_cons_succ]
      refine wpAnyH_ready (rs := [18]) (by kernel_rfl) (by simp) ?_
      refine AllReadyH.cons (at_list rfl) (fun KK hKK => ?_) AllReadyH.nil
      refine step_append_sl _ (by rfl) (.tmp 110) (.tmp 114) 44 (by rfl) 3 i3 (.int .i64 0) 8 Try.underlying44 h30 h31 h32 h33 rfl X.A nq X.c (i64s q.l) (by rfl) (HSX.out.only (F := fun _ => False) (by repeat (first | exact Only.refl _ _ | exact Q7.out | exact Q6.out | refine Only.drewN ?_ _ | refine Only.drew ?_ | refine Only.alloc ?_ _)) (fun _ _ h => h)) (some ⟨w6.heap.size, 0, none⟩) 1 1 [_] (by rfl) rfl (src_one (by repeat (first | exact blk_new' _ _ (by first | rfl | simp) | refine blk_drewN ?_ | refine blk_drew ?_ | refine blk_alloc ?_ _))) nofun (one_one rfl) (by unfold maxLen; omega) (by omega) ?_
      intro A8 c8 w8 hs8 ho8 hr8
      have HP := Lib.hid (RPost.after O4.out (chan_post (n := nq + 1) (c8 := c8) (A8 := A8) H4.out HQ1.out HX.out (by repeat (first | exact Only.refl _ _ | exact Q7.out | exact Q6.out | refine Only.drewN ?_ _ | refine Only.drew ?_ | refine Only.alloc ?_ _)) ho8 (l := q.l ++ [w32 b0]) (by have := HNQ.out; simp; omega) (by simpa [i64s] using hs8) hr8 HGA.out HFF.out))
      have QR8 := Lib.hid (show Only (RowOf X.A) w4 w8 from Only.trans' (by repeat (first | exact Only.refl _ _ | exact Q7.out | exact Q6.out | refine Only.drewN ?_ _ | refine Only.drew ?_ | refine Only.alloc ?_ _)) ho8)
      have QS8 := Lib.hid (show Only (fun k => RowOf X.A k ∨ k = gh) w4 w8 from Only.mono QR8.out (fun _ _ x => .inl x))
      obtain ⟨z1, z2, z3, z4, z5⟩ := FC.out w8 QR8.out
      clear hs8 ho8 hr8
      refine hKK.out _ _ ?_ (fun hHeld2 => ?_)
      · try dsimp only
        exact FS.out _ (by repeat (first | exact Only.refl _ _ | exact QS8.out | exact QS6.out | refine Only.drewN ?_ _ | refine Only.drew ?_ | refine Only.alloc ?_ _ | refine Only.setCell (S := (fun k => RowOf X.A k ∨ k = gh)) ?_ (fun _ => .inr rfl) _))
      clear hKK KK hHeld
      rename _ => hHeld
      try simp only [Act.put, List.setIfInBounds_toArray, List.set_cons_zero, List.set_cons_succ]
      refine wpAnyH_take (i := 19) (v := ?_) (at_list rfl) (by kernel_rfl) (by kernel_rfl) (by kernel_rfl) (fun _ _ _ h => h) (Or.inl ⟨by rfl, ?_⟩) (by assumption) ?_
      rotate_left
      · intro w hSw
        try dsimp only at hSw
        go_simp
        try with_reducible rfl
      simp only [Act.put, List.setIfInBounds_toArray, List.set_cons_zero, List.set_cons_succ]
      refine wpAnyH_ready (rs := [20]) (by kernel_rfl) (by simp) ?_
      refine AllReadyH.cons (at_list rfl) (fun KK hKK => ?_) AllReadyH.nil
      go_simp
      refine hKK.out _ _ ?_ (fun hHeld2 => ?_)
      · try dsimp only
        exact FS.out _ (by repeat (first | exact Only.refl _ _ | exact QS8.out | exact QS6.out | refine Only.drewN ?_ _ | refine Only.drew ?_ | refine Only.alloc ?_ _ | refine Only.setCell (S := (fun k => RowOf X.A k ∨ k = gh)) ?_ (fun _ => .inr rfl) _))
      clear hKK KK hHeld
      rename _ => hHeld
      try simp only [Act.put, List.setIfInBounds_toArray, List.set_cons_zero, List.set_cons_succ]
      refine wpAnyH_done (by kernel_rfl) ?_ _
      refine NoPanic.normal ?_
      go_wp2_with (go_at_call 23; refine (rstate HP.out.1 (i : Int)).mono ?_; rintro e w9 ⟨rfl, hq9⟩; have Q9 := Lib.hid hq9; clear hq9)
      go_ret2
      exact ⟨rfl, HP.out.quiet Q9.out⟩
end Go.Proofs.Ytgdjbmfpbihopaa
