/-
  The reference's Step: takes. No conditions.
-/
import Derived.Test.YtgdjbmfpbihopaaRefStepB
import Derived.Deep.RegionHeld3
namespace Go.Proofs.Ytgdjbmfpbihopaa
open Go.RowKit Go.MapKept
set_option linter.unusedVariables false
set_option linter.unusedSimpArgs false

set_option maxRecDepth 8000 in
set_option maxHeartbeats 16000000 in
theorem rstep_recv1 {w : World} {M : RMem} {W : Wd} (h : RAt w M W) {i : Nat} {t : RTask} (ht : M.ts[i]? = some t) (he : t.next < t.all.length) {o : Op3} (ho : t.all[t.next]? = some o) (hd : t.all.drop t.next = o :: t.all.drop (t.next + 1)) (hw : waitsB W o = false) (hk : o.kind = 4) {a : Nat} (ha : o.a = (a : Int)) {q : Pipe} (hq : W.pipes[a]? = some q) {v : Int} {rest : List Int} (hql : q.l = v :: rest) {X : RRow} (hX : M.cs[a]? = some X) (hcc : X.c = 1) :
    Calls Try.prog 21 #[.pointer (some ⟨M.p, 0, none⟩), .int .i64 (i : Int)] w fun e w' => e = .returned (.tuple #[.int .i64 (stateF (setP (setT (setT W i ⟨t.all.drop (t.next + 1), t.has⟩) i ⟨t.all.drop (t.next + 1), w32 (t.has + v)⟩) a ⟨rest, q.size⟩) (i : Int)), .int .i64 0]) ∧ RPost M.base M.p w (setP (setT (setT W i ⟨t.all.drop (t.next + 1), t.has⟩) i ⟨t.all.drop (t.next + 1), w32 (t.has + v)⟩) a ⟨rest, q.size⟩) w' := by
  have HS := Lib.hid (rstate_at h (i : Int))
  have hst : stateF W (i : Int) = 1 := by
    rw [stateF_at (h.thread ht)]
    unfold stateT
    simp only [hd]
    rw [hw]; rfl
  rw [hst] at HS
  have c4 := h.head.2.2.2.2.1
  have ps := h.head.2.2.2.2.2
  obtain ⟨g, cap, hv, hc1, hc2, gs, g0, g1, g2⟩ := h.task ht
  obtain ⟨o', go, off, ho', hdd, hmy, hA, hc3, hc4, os, o0, o1, o2⟩ := h.op ht he
  rw [ho] at ho'
  obtain rfl := Option.some.inj ho'
  have hi := (List.getElem?_eq_some_iff.1 ht).1
  obtain ⟨hl, hl2⟩ := h.len
  have hln := (h.tl t (List.mem_of_getElem? ht)).2.2
  clear hdd hmy
  rw [hv] at c4
  obtain ⟨N, hN⟩ : ∃ N, N = M.ts.length := ⟨_, rfl⟩
  rw [← hN] at c4 hl2 hc1 hi hv
  obtain ⟨L, hL⟩ : ∃ L, L = t.all.length := ⟨_, rfl⟩
  obtain ⟨n, hn⟩ : ∃ n, n = t.next := ⟨_, rfl⟩
  obtain ⟨c, hc⟩ : ∃ c, c = t.c := ⟨_, rfl⟩
  rw [hA] at g0
  rw [← hL] at g0 hln he hc3
  rw [← hn] at g1 he o0 o1 o2
  rw [← hc] at g0 hc3 hc4
  unfold maxLen at hc2 hc4
  have HG0 := Lib.hid (show (Value.slice (some ⟨go, off, none⟩) L c) = .slice t.A t.all.length t.c by rw [hA, hL, hc])
  have HF := Lib.hid (fun (V : World) (hV : Quiet w V) => show (V.cell? ⟨M.p, 4, none⟩ = some (.slice (some ⟨g, 0, none⟩) N cap) ∧ V.cell? ⟨g, i * 3, none⟩ = some (.slice (some ⟨go, off, none⟩) L c) ∧ V.cell? ⟨g, i * 3 + 1, none⟩ = some (.int .i64 (n : Nat))) ∧
    (V.cell? ⟨go, off + n * 3, none⟩ = some (.int .i64 o.kind) ∧ V.cell? ⟨go, off + n * 3 + 1, none⟩ = some (.int .i64 o.a) ∧ V.cell? ⟨go, off + n * 3 + 2, none⟩ = some (.int .i64 o.b)) ∧ M.p < V.heap.size ∧ g < V.heap.size ∧ go < V.heap.size from
    ⟨⟨(hV.cell (p := ⟨M.p, 4, none⟩) ps (fun x => x)).trans c4, (hV.cell (p := ⟨g, i * 3, none⟩) gs (fun x => x)).trans g0, (hV.cell (p := ⟨g, i * 3 + 1, none⟩) gs (fun x => x)).trans g1⟩,
      ⟨(hV.cell (p := ⟨go, off + n * 3, none⟩) os (fun x => x)).trans o0, (hV.cell (p := ⟨go, off + n * 3 + 1, none⟩) os (fun x => x)).trans o1, (hV.cell (p := ⟨go, off + n * 3 + 2, none⟩) os (fun x => x)).trans o2⟩, Nat.lt_of_lt_of_le ps hV.size, Nat.lt_of_lt_of_le gs hV.size, Nat.lt_of_lt_of_le os hV.size⟩)
  have H := Lib.hid h
  have HT := Lib.hid ht
  have HV := Lib.hid (hN ▸ hv)
  have HN := Lib.hid hN
  have HL := Lib.hid hL
  have HNX := Lib.hid hn
  obtain ⟨kd, a0, b0⟩ := o
  have HKD := Lib.hid (show kd = 4 from hk)
  simp only at HF hk
  subst hk
  simp only at ha
  subst ha
  have HQ := Lib.hid hq
  clear hq
  have HXX := Lib.hid hX
  clear hX
  have HLL := Lib.hid hql
  clear hql
  have HCC := Lib.hid hcc
  clear hcc
  have HO := Lib.hid (show W = W from rfl)
  clear hv hl h hN hL ho ht hA hn hc ho' hd hw c4 g0 g1 g2 o0 o1 o2 hst ps gs os
  have d1 : decide ((i : Int) < 0) = false := by simp
  have d2 : decide ((N : Int) ≤ (i : Int)) = false := by simp; omega
  have i0 : (0 : Int) ≤ (i : Int) := by omega
  have i1 : (i : Int) < (N : Int) := by omega
  have n0 : (0 : Int) ≤ (n : Int) := by omega
  have n1 : (n : Int) < (L : Int) := by omega
  go_enter Try.func21, Try.ntmps21
  go_wp2_with (first
    | (go_at_call 23; refine HS.out.mono ?_; rintro e w2 ⟨rfl, hq⟩; have Q2 := Lib.hid hq; clear hq; obtain ⟨⟨t1, t2, t3⟩, ⟨t4, t5, t6⟩, t7, t8, t9⟩ := HF.out _ Q2.out))
  refine wp_region_noPanic ?_
  refine wp_region_held_drew (S := (fun w' => w'.cell? ⟨M.p, 4, none⟩ = some (.slice (some ⟨g, 0, none⟩) N cap) ∧ w'.cell? ⟨g, i * 3, none⟩ = some (.slice (some ⟨go, off, none⟩) L c) ∧ w'.cell? ⟨g, i * 3 + 1, none⟩ = some (.int .i64 (n : Nat)) ∧ w'.cell? ⟨go, off + n * 3, none⟩ = some (.int .i64 4) ∧ w'.cell? ⟨go, off + n * 3 + 1, none⟩ = some (.int .i64 (a : Int)) ∧ w'.cell? ⟨go, off + n * 3 + 2, none⟩ = some (.int .i64 b0))) (by kernel_rfl) ?_ (fun hHeld => ?_)
  · try dsimp only
    go_keep
  refine wpAnyH_take (i := 0) (v := ?_) (at_list rfl) (by kernel_rfl) (by kernel_rfl) (by kernel_rfl) (fun _ _ _ h => h) (Or.inl ⟨by rfl, ?_⟩) (by assumption) ?_
  rotate_left
  · intro w hSw
    try dsimp only at hSw
    go_simp
    try with_reducible rfl
  simp only [Act.put, List.setIfInBounds_toArray, List.set_cons_zero, List.set_cons_succ]
  refine wpAnyH_take (i := 1) (v := ?_) (at_list rfl) (by kernel_rfl) (by kernel_rfl) (by kernel_rfl) (fun _ _ _ h => h) (Or.inl ⟨by rfl, ?_⟩) (by assumption) ?_
  rotate_left
  · intro w hSw
    try dsimp only at hSw
    go_simp
    try with_reducible rfl
  simp only [Act.put, List.setIfInBounds_toArray, List.set_cons_zero, List.set_cons_succ]
  refine wpAnyH_take (i := 2) (v := ?_) (at_list rfl) (by kernel_rfl) (by kernel_rfl) (by kernel_rfl) (fun _ _ _ h => h) (Or.inl ⟨by rfl, ?_⟩) (by assumption) ?_
  rotate_left
  · intro w hSw
    try dsimp only at hSw
    go_simp
    try with_reducible rfl
  simp only [Act.put, List.setIfInBounds_toArray, List.set_cons_zero, List.set_cons_succ]
  refine wpAnyH_take (i := 3) (v := ?_) (at_list rfl) (by kernel_rfl) (by kernel_rfl) (by kernel_rfl) (fun _ _ _ h => h) (Or.inl ⟨by rfl, ?_⟩) (by assumption) ?_
  rotate_left
  · intro w hSw
    try dsimp only at hSw
    go_simp
    try with_reducible rfl
  simp only [Act.put, List.setIfInBounds_toArray, List.set_cons_zero, List.set_cons_succ]
  refine wpAnyH_take (i := 4) (v := ?_) (at_list rfl) (by kernel_rfl) (by kernel_rfl) (by kernel_rfl) (fun _ _ _ h => h) (Or.inl ⟨by rfl, ?_⟩) (by assumption) ?_
  rotate_left
  · intro w hSw
    try dsimp only at hSw
    go_simp
    try with_reducible rfl
  simp only [Act.put, List.setIfInBounds_toArray, List.set_cons_zero, List.set_cons_succ]
  refine wpAnyH_take (i := 5) (v := ?_) (at_list rfl) (by kernel_rfl) (by kernel_rfl) (by kernel_rfl) (fun _ _ _ h => h) (Or.inl ⟨by rfl, ?_⟩) (by assumption) ?_
  rotate_left
  · intro w hSw
    try dsimp only at hSw
    go_simp
    try with_reducible rfl
  simp only [Act.put, List.setIfInBounds_toArray, List.set_cons_zero, List.set_cons_succ]
  refine wpAnyH_take (i := 6) (v := ?_) (at_list rfl) (by kernel_rfl) (by kernel_rfl) (by kernel_rfl) (fun _ _ _ h => h) (Or.inl ⟨by rfl, ?_⟩) (by assumption) ?_
  rotate_left
  · intro w hSw
    try dsimp only at hSw
    go_simp
    try with_reducible rfl
  simp only [Act.put, List.setIfInBounds_toArray, List.set_cons_zero, List.set_cons_succ]
  refine wpAnyH_take (i := 7) (v := ?_) (at_list rfl) (by kernel_rfl) (by kernel_rfl) (by kernel_rfl) (fun _ _ _ h => h) (Or.inl ⟨by rfl, ?_⟩) (by assumption) ?_
  rotate_left
  · intro w hSw
    try dsimp only at hSw
    go_simp
    try with_reducible rfl
  simp only [Act.put, List.setIfInBounds_toArray, List.set_cons_zero, List.set_cons_succ]
  refine wpAnyH_take (i := 8) (v := ?_) (at_list rfl) (by kernel_rfl) (by kernel_rfl) (by kernel_rfl) (fun _ _ _ h => h) (Or.inl ⟨by rfl, ?_⟩) (by assumption) ?_
  rotate_left
  · intro w hSw
    try dsimp only at hSw
    go_simp
    try with_reducible rfl
  simp only [Act.put, List.setIfInBounds_toArray, List.set_cons_zero, List.set_cons_succ]
  refine wpAnyH_take (i := 9) (v := ?_) (at_list rfl) (by kernel_rfl) (by kernel_rfl) (by kernel_rfl) (fun _ _ _ h => h) (Or.inl ⟨by rfl, ?_⟩) (by assumption) ?_
  rotate_left
  · intro w hSw
    try dsimp only at hSw
    go_simp
    try with_reducible rfl
  simp only [Act.put, List.setIfInBounds_toArray, List.set_cons_zero, List.set_cons_succ]
  refine wpAnyH_take (i := 10) (v := ?_) (at_list rfl) (by kernel_rfl) (by kernel_rfl) (by kernel_rfl) (fun _ _ _ h => h) (Or.inl ⟨by rfl, ?_⟩) (by assumption) ?_
  rotate_left
  · intro w hSw
    try dsimp only at hSw
    go_simp
    try with_reducible rfl
  simp only [Act.put, List.setIfInBounds_toArray, List.set_cons_zero, List.set_cons_succ]
  refine wpAnyH_take (i := 11) (v := ?_) (at_list rfl) (by kernel_rfl) (by kernel_rfl) (by kernel_rfl) (fun _ _ _ h => h) (Or.inl ⟨by rfl, ?_⟩) (by assumption) ?_
  rotate_left
  · intro w hSw
    try dsimp only at hSw
    go_simp
    try with_reducible rfl
  simp only [Act.put, List.setIfInBounds_toArray, List.set_cons_zero, List.set_cons_succ]
  refine wpAnyH_take (i := 12) (v := ?_) (at_list rfl) (by kernel_rfl) (by kernel_rfl) (by kernel_rfl) (fun _ _ _ h => h) (Or.inl ⟨by rfl, ?_⟩) (by assumption) ?_
  rotate_left
  · intro w hSw
    try dsimp only at hSw
    go_simp
    try with_reducible rfl
  simp only [Act.put, List.setIfInBounds_toArray, List.set_cons_zero, List.set_cons_succ]
  refine wpAnyH_take (i := 13) (v := ?_) (at_list rfl) (by kernel_rfl) (by kernel_rfl) (by kernel_rfl) (fun _ _ _ h => h) (Or.inl ⟨by rfl, ?_⟩) (by assumption) ?_
  rotate_left
  · intro w hSw
    try dsimp only at hSw
    go_simp
    try with_reducible rfl
  simp only [Act.put, List.setIfInBounds_toArray, List.set_cons_zero, List.set_cons_succ]
  refine wpAnyH_take (i := 14) (v := ?_) (at_list rfl) (by kernel_rfl) (by kernel_rfl) (by kernel_rfl) (fun _ _ _ h => h) (Or.inl ⟨by rfl, ?_⟩) (by assumption) ?_
  rotate_left
  · intro w hSw
    try dsimp only at hSw
    go_simp
    try with_reducible rfl
  simp only [Act.put, List.setIfInBounds_toArray, List.set_cons_zero, List.set_cons_succ]
  refine wpAnyH_take (i := 15) (v := ?_) (at_list rfl) (by kernel_rfl) (by kernel_rfl) (by kernel_rfl) (fun _ _ _ h => h) (Or.inl ⟨by rfl, ?_⟩) (by assumption) ?_
  rotate_left
  · intro w hSw
    try dsimp only at hSw
    go_simp
    try with_reducible rfl
  simp only [Act.put, List.setIfInBounds_toArray, List.set_cons_zero, List.set_cons_succ]
  refine wpAnyH_take (i := 16) (v := ?_) (at_list rfl) (by kernel_rfl) (by kernel_rfl) (by kernel_rfl) (fun _ _ _ h => h) (Or.inl ⟨by rfl, ?_⟩) (by assumption) ?_
  rotate_left
  · intro w hSw
    try dsimp only at hSw
    go_simp
    try with_reducible rfl
  simp only [Act.put, List.setIfInBounds_toArray, List.set_cons_zero, List.set_cons_succ]
  refine wpAnyH_take (i := 17) (v := ?_) (at_list rfl) (by kernel_rfl) (by kernel_rfl) (by kernel_rfl) (fun _ _ _ h => h) (Or.inl ⟨by rfl, ?_⟩) (by assumption) ?_
  rotate_left
  · intro w hSw
    try dsimp only at hSw
    go_simp
    try with_reducible rfl
  simp only [Act.put, List.setIfInBounds_toArray, List.set_cons_zero, List.set_cons_succ]
  refine wpAnyH_ready (rs := [18]) (by kernel_rfl) (by simp) ?_
  refine AllReadyH.cons (at_list rfl) (fun KK hKK => ?_) AllReadyH.nil
  go_simp
  refine hKK.out _ _ ?_ (fun hHeld2 => ?_)
  · try dsimp only
    go_keep
  clear hKK KK hHeld
  rename _ => hHeld
  try simp only [Act.put, List.setIfInBounds_toArray, List.set_cons_zero, List.set_cons_succ]
  refine wpAnyH_ready (rs := [19]) (by kernel_rfl) (by simp) ?_
  refine AllReadyH.cons (at_list rfl) (fun KK hKK => ?_) AllReadyH.nil
  go_simp
  refine hKK.out _ _ ?_ (fun hHeld2 => ?_)
  · try dsimp only
    go_keep
  clear hKK KK hHeld
  rename _ => hHeld
  try simp only [Act.put, List.setIfInBounds_toArray, List.set_cons_zero, List.set_cons_succ]
  refine wpAnyH_done (by kernel_rfl) ?_ _
  refine NoPanic.normal ?_
  obtain ⟨b, hb⟩ : ∃ b, b = w2.heap.size := ⟨_, rfl⟩
  have HB3 := Lib.hid (show ((w2.alloc (.cells #[.int .i64 4, .int .i64 (a : Int), .int .i64 b0] 78)).drew).heap[b]? = some (.cells #[.int .i64 4, .int .i64 (a : Int), .int .i64 b0] 78 (0, 0)) by rw [hb]; exact blk_drew (blk_new _ _))
  have Q3 := Lib.hid (show Quiet w ((w2.alloc (.cells #[.int .i64 4, .int .i64 (a : Int), .int .i64 b0] 78)).drew) from (Q2.out.alloc _).drew)
  rw [← hb]
  clear hHeld t1 t2 t3 t4 t5 t6 t7 t8 t9 hb
  generalize (w2.alloc (.cells #[.int .i64 4, .int .i64 (a : Int), .int .i64 b0] 78)).drew = w3 at HB3 Q3 ⊢
  obtain ⟨⟨t1, t2, t3⟩, t4, t7, t8, t9⟩ := HF.out _ Q3.out
  clear t4 t9
  obtain ⟨cu, hcu⟩ := row_ownB (H.out.quiet Q3.out).tasks (k := g) (by rw [HV.out]; rfl)
  have hfz : w3.frozen? ⟨g, i * 3 + 1, none⟩ = false := blk_frozen hcu _
  have hbg : b ≠ g := blk_ne HB3.out hcu (by decide)
  have HB4 := Lib.hid (blk_far HB3.out (p := ⟨g, i * 3 + 1, none⟩) hbg (.int .i64 ((n : Int) + 1)))
  obtain ⟨hm4, ho4⟩ := (H.out.quiet Q3.out).setTask HT.out HV.out ⟨t.A, t.c, t.all, t.next + 1, t.has⟩ 1 (.int .i64 ((n : Int) + 1)) (by decide) (by rw [HNX.out]; simp [rtc]) ⟨rfl, rfl, rfl⟩ ⟨by simp, by show t.next + 1 ≤ t.all.length; have := HNX.out; have := HL.out; omega⟩ (H.out.fit.tz _ (List.mem_of_getElem? (H.out.thread HT.out))).2.1
  have H4 := Lib.hid hm4
  have O4 := Lib.hid (RSide.trans (RSide.quiet Q3.out) ho4)
  clear hm4 ho4 hcu
  go_upto_region 10 with (fail)
  clear t1 t2 t3 t7 t8 hfz
  generalize w3.setCell ⟨g, i * 3 + 1, none⟩ (.int .i64 ((n : Int) + 1)) = w4 at HB4 H4 O4 ⊢
  have x0 : w4.cell? ⟨b, 0, none⟩ = some (.int .i64 4) := blk_cell HB4.out 0
  have x1 : w4.cell? ⟨b, 1, none⟩ = some (.int .i64 (a : Int)) := blk_cell HB4.out 1
  have x2 : w4.cell? ⟨b, 2, none⟩ = some (.int .i64 b0) := blk_cell HB4.out 2
  have hbs : b < w4.heap.size := lt_of_heap HB4.out
  have hq1 : ((setT W i ⟨t.all.drop (t.next + 1), t.has⟩)).pipes[a]? = some q := HQ.out
  obtain ⟨X1, gh, oh, gz, oz, hX0, hXl, hgA0, ghs, hac0, hcc0, hcm0, yc, hzA, gzs, haz, hzc, hzm, hzx⟩ := H4.out.chan hq1
  have hX : M.cs[a]? = some X1 := hX0
  have hgA : M.gA = some ⟨gh, oh, none⟩ := hgA0
  have hac : a < M.cs.length := hac0
  have hcc : M.cs.length ≤ M.gc := hcc0
  have hcm : M.gc ≤ maxLen := hcm0
  have c2 : w4.cell? ⟨M.p, 2, none⟩ = some (.slice M.gA M.cs.length M.gc) := H4.out.head.2.2.1
  have c5 : M.p < w4.heap.size := H4.out.head.2.2.2.2.2
  have hsx : Sl w4 3 X1.A X1.l.length X1.c (i64s X1.l) := H4.out.rows X1 (List.mem_of_getElem? (i := a + 3) hX0)
  obtain ⟨pz1, pz2, pz3, pz4⟩ := H4.out.fit.pz q (List.mem_of_getElem? hq1)
  rw [hgA] at c2
  obtain ⟨cuh, hcuh⟩ := H4.out.chans.type (k := gh) ⟨_, hgA, rfl⟩
  rw [hXl] at hsx
  have hnr : ¬ RowOf X1.A gh := fun k => by obtain ⟨cu2, hc2⟩ := hsx.type k; exact blk_ne hc2 hcuh (by decide) rfl
  have hbr : ¬ RowOf X1.A b := fun k => by obtain ⟨cu2, hc2⟩ := hsx.type k; exact blk_ne hc2 HB4.out (by decide) rfl
  have hpr : ¬ RowOf X1.A M.p := fun k => by obtain ⟨cu2, hc2⟩ := hsx.type k; exact blk_ne hc2 H4.out.blk (by decide) rfl
  have hbh : b ≠ gh := blk_ne HB4.out hcuh (by decide)
  have hph : M.p ≠ gh := blk_ne H4.out.blk hcuh (by decide)
  have hfh : w4.frozen? ⟨gh, oh + a, none⟩ = false := blk_frozen hcuh _
  have HX := Lib.hid hX
  have HGA := Lib.hid hgA
  have HQ1 := Lib.hid hq1
  obtain ⟨nc, hnc⟩ : ∃ n, n = M.cs.length := ⟨_, rfl⟩
  obtain ⟨cc, hccq⟩ : ∃ n, n = M.gc := ⟨_, rfl⟩
  rw [← hnc, ← hccq] at c2
  rw [← hnc] at hac hcc
  rw [← hccq] at hcc hcm
  unfold maxLen at hcm
  have hxle := hsx.le
  have hxcm := hsx.capLe
  unfold maxLen at hxcm
  have a0 : (0 : Int) ≤ (a : Int) := by omega
  have a1 : (a : Int) < (nc : Int) := by omega
  clear hX0 hgA0 hac0 hcc0 hcm0 hzA gzs haz hzc hzm hzx hXl hX hgA hnc hccq hq1
  obtain rfl : X1 = X := Option.some.inj (HX.out.symm.trans HXX.out)
  obtain ⟨gx, ox, hxA, gxs, yv⟩ := hsx.cell (i := 0) (i64s_at (l := q.l) (x := v) (by rw [HLL.out]; rfl))
  rw [Nat.add_zero] at yv
  have hv32 : In32 v := pz4 v (by rw [HLL.out]; exact .head _)
  unfold In32 at hv32
  obtain ⟨m, hm⟩ : ∃ m, m = rest.length := ⟨_, rfl⟩
  have hqm : q.l.length = m + 1 := by rw [HLL.out, hm]; rfl
  rw [hqm] at yc hxle
  have HXA := Lib.hid hxA
  have HM := Lib.hid hm
  rw [hxA] at yc
  have HT4 := Lib.hid (show ({ M with ts := M.ts.set i ⟨t.A, t.c, t.all, t.next + 1, t.has⟩ } : RMem).ts[i]? = some ⟨t.A, t.c, t.all, t.next + 1, t.has⟩ from List.getElem?_set_self (by have := HN.out; omega))
  have HV4 := Lib.hid (show ({ M with ts := M.ts.set i ⟨t.A, t.c, t.all, t.next + 1, t.has⟩ } : RMem).vt = .slice (some ⟨g, 0, none⟩) ({ M with ts := M.ts.set i ⟨t.A, t.c, t.all, t.next + 1, t.has⟩ } : RMem).ts.length cap by rw [HV.out]; simp)
  obtain ⟨cug, hcug⟩ := row_ownB H4.out.tasks (k := g) (by rw [HV4.out]; rfl)
  have hpg : M.p ≠ g := blk_ne H4.out.blk hcug (by decide)
  have hbg4 : b ≠ g := blk_ne HB4.out hcug (by decide)
  have hfg : w4.frozen? ⟨g, i * 3 + 2, none⟩ = false := blk_frozen hcug _
  have hgs : g < w4.heap.size := lt_of_heap hcug
  have s4 : w4.cell? ⟨M.p, 4, none⟩ = some (.slice (some ⟨g, 0, none⟩) N cap) := by have := H4.out.head.2.2.2.2.1; rw [HV4.out] at this; rw [HN.out]; simpa using this
  obtain ⟨s0, s1, s2⟩ : w4.cell? ⟨g, i * 3, none⟩ = some (.slice (some ⟨go, off, none⟩) L c) ∧ w4.cell? ⟨g, i * 3 + 1, none⟩ = some (.int .i64 ((n : Int) + 1)) ∧ w4.cell? ⟨g, i * 3 + 2, none⟩ = some (.int .i64 t.has) := by
    obtain ⟨g', cap', e1, _, _, _, e2, e3, e4⟩ := H4.out.task HT4.out
    rw [HV4.out] at e1
    simp only [Value.slice.injEq, Option.some.injEq, Addr.mk.injEq] at e1
    obtain ⟨⟨rfl, _⟩, _⟩ := e1
    rw [HG0.out, HNX.out]; exact ⟨e2, by rw [e3]; simp, e4⟩
  have hhg : gh ≠ g := blk_ne hcuh hcug (by decide)
  obtain ⟨cux, hcux⟩ := hsx.type (k := gx) ⟨_, hxA, rfl⟩
  have hxg : gx ≠ g := blk_ne hcux hcug (by decide)
  have FS := Lib.hid (fun (V : World) (hV : Only (· = g) w4 V) => show V.cell? ⟨M.p, 4, none⟩ = some (.slice (some ⟨g, 0, none⟩) N cap) ∧ V.cell? ⟨M.p, 2, none⟩ = some (.slice (some ⟨gh, oh, none⟩) nc cc) ∧ V.cell? ⟨b, 1, none⟩ = some (.int .i64 (a : Int)) ∧ V.cell? ⟨gh, oh + a, none⟩ = some (.slice (some ⟨gx, ox, none⟩) (m + 1) X1.c) ∧ V.cell? ⟨gx, ox, none⟩ = some (.int .i64 v) from
    ⟨(hV.cell (p := ⟨M.p, 4, none⟩) c5 hpg).trans s4, (hV.cell (p := ⟨M.p, 2, none⟩) c5 hpg).trans c2, (hV.cell (p := ⟨b, 1, none⟩) hbs hbg4).trans x1, (hV.cell (p := ⟨gh, oh + a, none⟩) ghs hhg).trans yc, (hV.cell (p := ⟨gx, ox, none⟩) gxs hxg).trans yv⟩)
  have FC := Lib.hid (fun (V : World) (hV : Quiet w4 V) => show V.cell? ⟨g, i * 3 + 2, none⟩ = some (.int .i64 t.has) ∧ V.frozen? ⟨g, i * 3 + 2, none⟩ = false ∧ gh < V.heap.size ∧ M.p < V.heap.size ∧ b < V.heap.size ∧ g < V.heap.size ∧ gx < V.heap.size from
    ⟨(hV.cell (p := ⟨g, i * 3 + 2, none⟩) hgs (fun x => x)).trans s2, blk_frozen (hV.keep hcug (fun x => x)) _, Nat.lt_of_lt_of_le ghs hV.size, Nat.lt_of_lt_of_le c5 hV.size, Nat.lt_of_lt_of_le hbs hV.size, Nat.lt_of_lt_of_le hgs hV.size, Nat.lt_of_lt_of_le gxs hV.size⟩)
  have hth : In32 t.has := (H.out.fit.tz _ (List.mem_of_getElem? (H.out.thread HT.out))).2.1
  unfold In32 at hth
  have iw : IntKind.i64.wrap (t.has + v) = t.has + v := by have := IntKind.wrap_i64 (t.has + v); omega
  have m0 : (0 : Int) < (m : Int) + 1 := by omega
  have HBG := Lib.hid hbg4
  clear hth hv32 hcug hsx hcuh hcux hxA hm hqm hnr hbr hpr pz4 pz1 HXX
  go_wp2_with fail
  refine wp_region_noPanic ?_
  refine wp_region_held_drew (S := (fun w' => w'.cell? ⟨M.p, 4, none⟩ = some (.slice (some ⟨g, 0, none⟩) N cap) ∧ w'.cell? ⟨M.p, 2, none⟩ = some (.slice (some ⟨gh, oh, none⟩) nc cc) ∧ w'.cell? ⟨b, 1, none⟩ = some (.int .i64 (a : Int)) ∧ w'.cell? ⟨gh, oh + a, none⟩ = some (.slice (some ⟨gx, ox, none⟩) (m + 1) X1.c) ∧ w'.cell? ⟨gx, ox, none⟩ = some (.int .i64 v))) (by kernel_rfl) ?_ (fun hHeld => ?_)
  · try dsimp only
    exact FS.out _ (by repeat (first | exact Only.refl _ _ | exact QS7.out | exact QS6.out | refine Only.drewN ?_ _ | refine Only.drew ?_ | refine Only.alloc ?_ _ | refine Only.setCell (S := (· = g)) ?_ (fun _ => rfl) _))
  refine wpAnyH_take (i := 0) (v := ?_) (at_list rfl) (by kernel_rfl) (by kernel_rfl) (by kernel_rfl) (fun _ _ _ h => h) (Or.inl ⟨by rfl, ?_⟩) (by assumption) ?_
  rotate_left
  · intro w hSw
    try dsimp only at hSw
    go_simp
    try with_reducible rfl
  simp only [Act.put, List.setIfInBounds_toArray, List.set_cons_zero, List.set_cons_succ]
  refine wpAnyH_take (i := 1) (v := ?_) (at_list rfl) (by kernel_rfl) (by kernel_rfl) (by kernel_rfl) (fun _ _ _ h => h) (Or.inl ⟨by rfl, ?_⟩) (by assumption) ?_
  rotate_left
  · intro w hSw
    try dsimp only at hSw
    go_simp
    try with_reducible rfl
  simp only [Act.put, List.setIfInBounds_toArray, List.set_cons_zero, List.set_cons_succ]
  refine wpAnyH_take (i := 2) (v := ?_) (at_list rfl) (by kernel_rfl) (by kernel_rfl) (by kernel_rfl) (fun _ _ _ h => h) (Or.inl ⟨by rfl, ?_⟩) (by assumption) ?_
  rotate_left
  · intro w hSw
    try dsimp only at hSw
    go_simp
    try with_reducible rfl
  simp only [Act.put, List.setIfInBounds_toArray, List.set_cons_zero, List.set_cons_succ]
  refine wpAnyH_take (i := 3) (v := ?_) (at_list rfl) (by kernel_rfl) (by kernel_rfl) (by kernel_rfl) (fun _ _ _ h => h) (Or.inl ⟨by rfl, ?_⟩) (by assumption) ?_
  rotate_left
  · intro w hSw
    try dsimp only at hSw
    go_simp
    try with_reducible rfl
  simp only [Act.put, List.setIfInBounds_toArray, List.set_cons_zero, List.set_cons_succ]
  refine wpAnyH_take (i := 4) (v := ?_) (at_list rfl) (by kernel_rfl) (by kernel_rfl) (by kernel_rfl) (fun _ _ _ h => h) (Or.inl ⟨by rfl, ?_⟩) (by assumption) ?_
  rotate_left
  · intro w hSw
    try dsimp only at hSw
    go_simp
    try with_reducible rfl
  simp only [Act.put, List.setIfInBounds_toArray, List.set_cons_zero, List.set_cons_succ]
  refine wpAnyH_take (i := 5) (v := ?_) (at_list rfl) (by kernel_rfl) (by kernel_rfl) (by kernel_rfl) (fun _ _ _ h => h) (Or.inl ⟨by rfl, ?_⟩) (by assumption) ?_
  rotate_left
  · intro w hSw
    try dsimp only at hSw
    go_simp
    try with_reducible rfl
  simp only [Act.put, List.setIfInBounds_toArray, List.set_cons_zero, List.set_cons_succ]
  refine wpAnyH_take (i := 6) (v := ?_) (at_list rfl) (by kernel_rfl) (by kernel_rfl) (by kernel_rfl) (fun _ _ _ h => h) (Or.inl ⟨by rfl, ?_⟩) (by assumption) ?_
  rotate_left
  · intro w hSw
    try dsimp only at hSw
    go_simp
    try with_reducible rfl
  simp only [Act.put, List.setIfInBounds_toArray, List.set_cons_zero, List.set_cons_succ]
  refine wpAnyH_take (i := 7) (v := ?_) (at_list rfl) (by kernel_rfl) (by kernel_rfl) (by kernel_rfl) (fun _ _ _ h => h) (Or.inl ⟨by rfl, ?_⟩) (by assumption) ?_
  rotate_left
  · intro w hSw
    try dsimp only at hSw
    go_simp
    try with_reducible rfl
  simp only [Act.put, List.setIfInBounds_toArray, List.set_cons_zero, List.set_cons_succ]
  refine wpAnyH_take (i := 8) (v := ?_) (at_list rfl) (by kernel_rfl) (by kernel_rfl) (by kernel_rfl) (fun _ _ _ h => h) (Or.inl ⟨by rfl, ?_⟩) (by assumption) ?_
  rotate_left
  · intro w hSw
    try dsimp only at hSw
    go_simp
    try with_reducible rfl
  simp only [Act.put, List.setIfInBounds_toArray, List.set_cons_zero, List.set_cons_succ]
  refine wpAnyH_take (i := 9) (v := ?_) (at_list rfl) (by kernel_rfl) (by kernel_rfl) (by kernel_rfl) (fun _ _ _ h => h) (Or.inl ⟨by rfl, ?_⟩) (by assumption) ?_
  rotate_left
  · intro w hSw
    try dsimp only at hSw
    go_simp
    try with_reducible rfl
  simp only [Act.put, List.setIfInBounds_toArray, List.set_cons_zero, List.set_cons_succ]
  refine wpAnyH_take (i := 10) (v := ?_) (at_list rfl) (by kernel_rfl) (by kernel_rfl) (by kernel_rfl) (fun _ _ _ h => h) (Or.inl ⟨by rfl, ?_⟩) (by assumption) ?_
  rotate_left
  · intro w hSw
    try dsimp only at hSw
    go_simp
    try with_reducible rfl
  simp only [Act.put, List.setIfInBounds_toArray, List.set_cons_zero, List.set_cons_succ]
  refine wpAnyH_take (i := 11) (v := ?_) (at_list rfl) (by kernel_rfl) (by kernel_rfl) (by kernel_rfl) (fun _ _ _ h => h) (Or.inl ⟨by rfl, ?_⟩) (by assumption) ?_
  rotate_left
  · intro w hSw
    try dsimp only at hSw
    go_simp
    try with_reducible rfl
  simp only [Act.put, List.setIfInBounds_toArray, List.set_cons_zero, List.set_cons_succ]
  refine wpAnyH_take (i := 13) (v := ?_) (at_list rfl) (by kernel_rfl) (by kernel_rfl) (by kernel_rfl) (fun _ _ _ h => h) (Or.inl ⟨by rfl, ?_⟩) (by assumption) ?_
  rotate_left
  · intro w hSw
    try dsimp only at hSw
    go_simp
    try with_reducible rfl
  simp only [Act.put, List.setIfInBounds_toArray, List.set_cons_zero, List.set_cons_succ]
  refine wpAnyH_take (i := 14) (v := ?_) (at_list rfl) (by kernel_rfl) (by kernel_rfl) (by kernel_rfl) (fun _ _ _ h => h) (Or.inl ⟨by rfl, ?_⟩) (by assumption) ?_
  rotate_left
  · intro w hSw
    try dsimp only at hSw
    go_simp
    try with_reducible rfl
  simp only [Act.put, List.setIfInBounds_toArray, List.set_cons_zero, List.set_cons_succ]
  refine wpAnyH_take (i := 15) (v := ?_) (at_list rfl) (by kernel_rfl) (by kernel_rfl) (by kernel_rfl) (fun _ _ _ h => h) (Or.inl ⟨by rfl, ?_⟩) (by assumption) ?_
  rotate_left
  · intro w hSw
    try dsimp only at hSw
    go_simp
    try with_reducible rfl
  simp only [Act.put, List.setIfInBounds_toArray, List.set_cons_zero, List.set_cons_succ]
  refine wpAnyH_take (i := 16) (v := ?_) (at_list rfl) (by kernel_rfl) (by kernel_rfl) (by kernel_rfl) (fun _ _ _ h => h) (Or.inl ⟨by rfl, ?_⟩) (by assumption) ?_
  rotate_left
  · intro w hSw
    try dsimp only at hSw
    go_simp
    try with_reducible rfl
  simp only [Act.put, List.setIfInBounds_toArray, List.set_cons_zero, List.set_cons_succ]
  refine wpAnyH_take (i := 17) (v := ?_) (at_list rfl) (by kernel_rfl) (by kernel_rfl) (by kernel_rfl) (fun _ _ _ h => h) (Or.inl ⟨by rfl, ?_⟩) (by assumption) ?_
  rotate_left
  · intro w hSw
    try dsimp only at hSw
    go_simp
    try with_reducible rfl
  simp only [Act.put, List.setIfInBounds_toArray, List.set_cons_zero, List.set_cons_succ]
  refine wpAnyH_take (i := 18) (v := ?_) (at_list rfl) (by kernel_rfl) (by kernel_rfl) (by kernel_rfl) (fun _ _ _ h => h) (Or.inl ⟨by rfl, ?_⟩) (by assumption) ?_
  rotate_left
  · intro w hSw
    try dsimp only at hSw
    go_simp
    try with_reducible rfl
  simp only [Act.put, List.setIfInBounds_toArray, List.set_cons_zero, List.set_cons_succ]
  refine wpAnyH_take (i := 19) (v := ?_) (at_list rfl) (by kernel_rfl) (by kernel_rfl) (by kernel_rfl) (fun _ _ _ h => h) (Or.inl ⟨by rfl, ?_⟩) (by assumption) ?_
  rotate_left
  · intro w hSw
    try dsimp only at hSw
    go_simp
    try with_reducible rfl
  simp only [Act.put, List.setIfInBounds_toArray, List.set_cons_zero, List.set_cons_succ]
  refine wpAnyH_take (i := 20) (v := ?_) (at_list rfl) (by kernel_rfl) (by kernel_rfl) (by kernel_rfl) (fun _ _ _ h => h) (Or.inl ⟨by rfl, ?_⟩) (by assumption) ?_
  rotate_left
  · intro w hSw
    try dsimp only at hSw
    go_simp
    try with_reducible rfl
  simp only [Act.put, List.setIfInBounds_toArray, List.set_cons_zero, List.set_cons_succ]
  refine wpAnyH_take (i := 21) (v := ?_) (at_list rfl) (by kernel_rfl) (by kernel_rfl) (by kernel_rfl) (fun _ _ _ h => h) (Or.inl ⟨by rfl, ?_⟩) (by assumption) ?_
  rotate_left
  · intro w hSw
    try dsimp only at hSw
    go_simp
    try with_reducible rfl
  simp only [Act.put, List.setIfInBounds_toArray, List.set_cons_zero, List.set_cons_succ]
  refine wpAnyH_take (i := 22) (v := ?_) (at_list rfl) (by kernel_rfl) (by kernel_rfl) (by kernel_rfl) (fun _ _ _ h => h) (Or.inl ⟨by rfl, ?_⟩) (by assumption) ?_
  rotate_left
  · intro w hSw
    try dsimp only at hSw
    go_simp
    try with_reducible rfl
  simp only [Act.put, List.setIfInBounds_toArray, List.set_cons_zero, List.set_cons_succ]
  refine wpAnyH_ready (rs := [12]) (by kernel_rfl) (by simp) ?_
  refine AllReadyH.cons (at_list rfl) (fun KK hKK => ?_) AllReadyH.nil
  go_simp
  refine hKK.out _ _ ?_ (fun hHeld2 => ?_)
  · try dsimp only
    exact FS.out _ (by repeat (first | exact Only.refl _ _ | exact QS7.out | exact QS6.out | refine Only.drewN ?_ _ | refine Only.drew ?_ | refine Only.alloc ?_ _ | refine Only.setCell (S := (· = g)) ?_ (fun _ => rfl) _))
  clear hKK KK hHeld
  rename _ => hHeld
  try simp only [Act.put, List.setIfInBounds_toArray, List.set_cons_zero, List.set_cons_succ]
  refine wpAnyH_take (i := 23) (v := ?_) (at_list rfl) (by kernel_rfl) (by kernel_rfl) (by kernel_rfl) (fun _ _ _ h => h) (Or.inl ⟨by rfl, ?_⟩) (by assumption) ?_
  rotate_left
  · intro w hSw
    try dsimp only at hSw
    go_simp
    try with_reducible rfl
  simp only [Act.put, List.setIfInBounds_toArray, List.set_cons_zero, List.set_cons_succ]
  refine wpAnyH_ready (rs := [24]) (by kernel_rfl) (by simp) ?_
  refine AllReadyH.cons (at_list rfl) (fun KK hKK => ?_) AllReadyH.nil
  go_simp
  go_at_call 30
  refine (rword_at _ _).mono ?_
  rintro e w6 ⟨rfl, hq6⟩
  have Q6 := Lib.hid (show Quiet w4 w6 from Only.trans (by repeat (first | exact Only.refl _ _ | exact Q7.out | exact Q6.out | refine Only.drewN ?_ _ | refine Only.drew ?_ | refine Only.alloc ?_ _)) hq6)
  have QS6 := Lib.hid (show Only (· = g) w4 w6 from Only.mono Q6.out (fun _ _ x => x.elim))
  obtain ⟨y1, y2, y3, y4, y5, y6, y7⟩ := FC.out w6 Q6.out
  clear hq6
  try go_wp2_with fail
  refine hKK.out _ _ ?_ (fun hHeld2 => ?_)
  · try dsimp only
    exact FS.out _ (by repeat (first | exact Only.refl _ _ | exact QS7.out | exact QS6.out | refine Only.drewN ?_ _ | refine Only.drew ?_ | refine Only.alloc ?_ _ | refine Only.setCell (S := (· = g)) ?_ (fun _ => rfl) _))
  clear hKK KK hHeld
  rename _ => hHeld
  try simp only [Act.put, List.setIfInBounds_toArray, List.set_cons_zero, List.set_cons_succ]
  refine wpAnyH_take (i := 25) (v := ?_) (at_list rfl) (by kernel_rfl) (by kernel_rfl) (by kernel_rfl) (fun _ _ _ h => h) (Or.inl ⟨by rfl, ?_⟩) (by assumption) ?_
  rotate_left
  · intro w hSw
    try dsimp only at hSw
    go_simp
    try with_reducible rfl
  simp only [Act.put, List.setIfInBounds_toArray, List.set_cons_zero, List.set_cons_succ]
  refine wpAnyH_take (i := 26) (v := ?_) (at_list rfl) (by kernel_rfl) (by kernel_rfl) (by kernel_rfl) (fun _ _ _ h => h) (Or.inl ⟨by rfl, ?_⟩) (by assumption) ?_
  rotate_left
  · intro w hSw
    try dsimp only at hSw
    go_simp
    try with_reducible rfl
  simp only [Act.put, List.setIfInBounds_toArray, List.set_cons_zero, List.set_cons_succ]
  refine wpAnyH_ready (rs := [27]) (by kernel_rfl) (by simp) ?_
  refine AllReadyH.cons (at_list rfl) (fun KK hKK => ?_) AllReadyH.nil
  go_simp
  refine hKK.out _ _ ?_ (fun hHeld2 => ?_)
  · try dsimp only
    exact FS.out _ (by repeat (first | exact Only.refl _ _ | exact QS7.out | exact QS6.out | refine Only.drewN ?_ _ | refine Only.drew ?_ | refine Only.alloc ?_ _ | refine Only.setCell (S := (· = g)) ?_ (fun _ => rfl) _))
  clear hKK KK hHeld
  rename _ => hHeld
  try simp only [Act.put, List.setIfInBounds_toArray, List.set_cons_zero, List.set_cons_succ]
  refine wpAnyH_done (by kernel_rfl) ?_ _
  refine NoPanic.normal ?_
  obtain ⟨hm5, ho5⟩ := (H4.out.quiet Q6.out).setTask HT4.out HV4.out ⟨t.A, t.c, t.all, t.next + 1, w32 (t.has + v)⟩ 2 (.int .i64 (w32 (t.has + v))) (by decide) (by simp [rtc]) ⟨rfl, rfl, rfl⟩ ⟨Nat.le_refl _, by have := HNX.out; have := HL.out; show t.next + 1 ≤ t.all.length; omega⟩ (in32_w32 _)
  have H7 := Lib.hid hm5
  have O7 := Lib.hid (RSide.trans O4.out (RSide.trans (RSide.quiet Q6.out) ho5))
  have HB7 := Lib.hid (blk_far (Q6.out.keep HB4.out (fun x => x)) (p := ⟨g, i * 3 + 2, none⟩) HBG.out (.int .i64 (w32 (t.has + v))))
  clear hm5 ho5 hHeld FS FC QS6 Q6 y1 y2 y3 y4 y5 y6 y7
  clear ghs c2 c5 gxs yv yc x0 x1 x2 hbs s4 s0 s1 s2 hgs hfg hpg hbg4 hhg hxg hfh hbh hph iw m0 hac hcc hcm hxle hxcm a0 a1 pz2 pz3
  generalize w6.setCell ⟨g, i * 3 + 2, none⟩ (.int .i64 (w32 (t.has + v))) = w7 at H7 O7 HB7 ⊢
  have x1 : w7.cell? ⟨b, 1, none⟩ = some (.int .i64 (a : Int)) := blk_cell HB7.out 1
  have hbs : b < w7.heap.size := lt_of_heap HB7.out
  have hq1k : ((setT (setT W i ⟨t.all.drop (t.next + 1), t.has⟩) i ⟨t.all.drop (t.next + 1), w32 (t.has + v)⟩)).pipes[a]? = some q := HQ.out
  obtain ⟨X2, ghk, ohk, gzk, ozk, hX0k, hXlk, hgA0k, ghsk, hac0k, hcc0k, hcm0k, yck, hzAk, gzsk, hazk, hzck, hzmk, hzxk⟩ := H7.out.chan hq1k
  have hXk : M.cs[a]? = some X2 := hX0k
  have hgAk : M.gA = some ⟨ghk, ohk, none⟩ := hgA0k
  have hack : a < M.cs.length := hac0k
  have hcck : M.cs.length ≤ M.gc := hcc0k
  have hcmk : M.gc ≤ maxLen := hcm0k
  have c2k : w7.cell? ⟨M.p, 2, none⟩ = some (.slice M.gA M.cs.length M.gc) := H7.out.head.2.2.1
  have c5k : M.p < w7.heap.size := H7.out.head.2.2.2.2.2
  have hsxk : Sl w7 3 X2.A X2.l.length X2.c (i64s X2.l) := H7.out.rows X2 (List.mem_of_getElem? (i := a + 3) hX0k)
  obtain ⟨pz1k, pz2k, pz3k, pz4k⟩ := H7.out.fit.pz q (List.mem_of_getElem? hq1k)
  rw [hgAk] at c2k
  obtain ⟨cuhk, hcuhk⟩ := H7.out.chans.type (k := ghk) ⟨_, hgAk, rfl⟩
  rw [hXlk] at hsxk
  have hnrk : ¬ RowOf X2.A ghk := fun k => by obtain ⟨cu2, hc2⟩ := hsxk.type k; exact blk_ne hc2 hcuhk (by decide) rfl
  have hbrk : ¬ RowOf X2.A b := fun k => by obtain ⟨cu2, hc2⟩ := hsxk.type k; exact blk_ne hc2 HB7.out (by decide) rfl
  have hprk : ¬ RowOf X2.A M.p := fun k => by obtain ⟨cu2, hc2⟩ := hsxk.type k; exact blk_ne hc2 H7.out.blk (by decide) rfl
  have hbhk : b ≠ ghk := blk_ne HB7.out hcuhk (by decide)
  have hphk : M.p ≠ ghk := blk_ne H7.out.blk hcuhk (by decide)
  have hfhk : w7.frozen? ⟨ghk, ohk + a, none⟩ = false := blk_frozen hcuhk _
  have HXk := Lib.hid hXk
  have HGAk := Lib.hid hgAk
  have HQ1k := Lib.hid hq1k
  obtain ⟨nck, hnck⟩ : ∃ n, n = M.cs.length := ⟨_, rfl⟩
  obtain ⟨cck, hccqk⟩ : ∃ n, n = M.gc := ⟨_, rfl⟩
  rw [← hnck, ← hccqk] at c2k
  rw [← hnck] at hack hcck
  rw [← hccqk] at hcck hcmk
  unfold maxLen at hcmk
  have hxlek := hsxk.le
  have hxcmk := hsxk.capLe
  unfold maxLen at hxcmk
  have a0k : (0 : Int) ≤ (a : Int) := by omega
  have a1k : (a : Int) < (nck : Int) := by omega
  clear hX0k hgA0k hac0k hcc0k hcm0k hzAk gzsk hazk hzck hzmk hzxk hXlk hXk hgAk hnck hccqk hq1k
  obtain rfl : X1 = X2 := Option.some.inj (HX.out.symm.trans HXk.out)
  have hcc := HCC.out
  have hqm : q.l.length = m + 1 := by rw [HLL.out, HM.out]; rfl
  rw [hqm, HXA.out] at yck
  rw [hqm] at hxlek pz3k
  have hcut := hsxk.cut (m := 1) (by omega)
  rw [if_pos hcc, hcc, Nat.sub_self, HXA.out] at hcut
  rw [show (i64s q.l).drop 1 = i64s rest by rw [HLL.out]; rfl, hqm, Nat.add_sub_cancel] at hcut
  have HSRC := Lib.hid (fun (V : World) (hV : Quiet w7 V) => (hcut.only hV (fun _ _ x => x)).src)
  have HFF := Lib.hid (H7.out.fit.setP a (p := ⟨rest, q.size⟩) ⟨pz1k, pz2k, by have := HM.out; show (rest.length : Int) ≤ q.size; omega, fun x hx => pz4k x (by rw [HLL.out]; exact .tail _ hx)⟩)
  obtain ⟨i3, h30, h31, h32, h33⟩ := info_parts Try.info3
  have FS := Lib.hid (fun (V : World) (hV : Only (· = ghk) w7 V) => show V.cell? ⟨M.p, 2, none⟩ = some (.slice (some ⟨ghk, ohk, none⟩) nck cck) ∧ V.cell? ⟨b, 1, none⟩ = some (.int .i64 (a : Int)) from
    ⟨(hV.cell (p := ⟨M.p, 2, none⟩) c5k hphk).trans c2k, (hV.cell (p := ⟨b, 1, none⟩) hbs hbhk).trans x1⟩)
  have FC := Lib.hid (fun (V : World) (hV : Quiet w7 V) => show V.cell? ⟨ghk, ohk + a, none⟩ = some (.slice (some ⟨gx, ox, none⟩) (m + 1) X1.c) ∧ V.frozen? ⟨ghk, ohk + a, none⟩ = false ∧ ghk < V.heap.size ∧ M.p < V.heap.size ∧ b < V.heap.size from
    ⟨(hV.cell (p := ⟨ghk, ohk + a, none⟩) ghsk (fun x => x)).trans yck, blk_frozen (hV.keep hcuhk (fun x => x)) _, Nat.lt_of_lt_of_le ghsk hV.size, Nat.lt_of_lt_of_le c5k hV.size, Nat.lt_of_lt_of_le hbs hV.size⟩)
  have HNM := Lib.hid hqm
  have m0 : (0 : Int) < (m : Int) + 1 := by omega
  have m1 : (1 : Int) ≤ (m : Int) + 1 := by omega
  clear hsxk hcut hcuhk hqm hnrk hbrk hprk pz4k pz1k
  go_wp2_with fail
  refine wp_region_noPanic ?_
  refine wp_region_held_drew (S := (fun w' => w'.cell? ⟨M.p, 2, none⟩ = some (.slice (some ⟨ghk, ohk, none⟩) nck cck) ∧ w'.cell? ⟨b, 1, none⟩ = some (.int .i64 (a : Int)))) (by kernel_rfl) ?_ (fun hHeld => ?_)
  · try dsimp only
    exact FS.out _ (by repeat (first | exact Only.refl _ _ | exact QS8.out | refine Only.drewN ?_ _ | refine Only.drew ?_ | refine Only.alloc ?_ _ | refine Only.setCell (S := (· = ghk)) ?_ (fun _ => rfl) _))
  refine wpAnyH_take (i := 0) (v := ?_) (at_list rfl) (by kernel_rfl) (by kernel_rfl) (by kernel_rfl) (fun _ _ _ h => h) (Or.inl ⟨by rfl, ?_⟩) (by assumption) ?_
  rotate_left
  · intro w hSw
    try dsimp only at hSw
    go_simp
    try with_reducible rfl
  simp only [Act.put, List.setIfInBounds_toArray, List.set_cons_zero, List.set_cons_succ]
  refine wpAnyH_take (i := 1) (v := ?_) (at_list rfl) (by kernel_rfl) (by kernel_rfl) (by kernel_rfl) (fun _ _ _ h => h) (Or.inl ⟨by rfl, ?_⟩) (by assumption) ?_
  rotate_left
  · intro w hSw
    try dsimp only at hSw
    go_simp
    try with_reducible rfl
  simp only [Act.put, List.setIfInBounds_toArray, List.set_cons_zero, List.set_cons_succ]
  refine wpAnyH_take (i := 2) (v := ?_) (at_list rfl) (by kernel_rfl) (by kernel_rfl) (by kernel_rfl) (fun _ _ _ h => h) (Or.inl ⟨by rfl, ?_⟩) (by assumption) ?_
  rotate_left
  · intro w hSw
    try dsimp only at hSw
    go_simp
    try with_reducible rfl
  simp only [Act.put, List.setIfInBounds_toArray, List.set_cons_zero, List.set_cons_succ]
  refine wpAnyH_take (i := 3) (v := ?_) (at_list rfl) (by kernel_rfl) (by kernel_rfl) (by kernel_rfl) (fun _ _ _ h => h) (Or.inl ⟨by rfl, ?_⟩) (by assumption) ?_
  rotate_left
  · intro w hSw
    try dsimp only at hSw
    go_simp
    try with_reducible rfl
  simp only [Act.put, List.setIfInBounds_toArray, List.set_cons_zero, List.set_cons_succ]
  refine wpAnyH_take (i := 4) (v := ?_) (at_list rfl) (by kernel_rfl) (by kernel_rfl) (by kernel_rfl) (fun _ _ _ h => h) (Or.inl ⟨by rfl, ?_⟩) (by assumption) ?_
  rotate_left
  · intro w hSw
    try dsimp only at hSw
    go_simp
    try with_reducible rfl
  simp only [Act.put, List.setIfInBounds_toArray, List.set_cons_zero, List.set_cons_succ]
  refine wpAnyH_take (i := 5) (v := ?_) (at_list rfl) (by kernel_rfl) (by kernel_rfl) (by kernel_rfl) (fun _ _ _ h => h) (Or.inl ⟨by rfl, ?_⟩) (by assumption) ?_
  rotate_left
  · intro w hSw
    try dsimp only at hSw
    go_simp
    try with_reducible rfl
  simp only [Act.put, List.setIfInBounds_toArray, List.set_cons_zero, List.set_cons_succ]
  refine wpAnyH_take (i := 7) (v := ?_) (at_list rfl) (by kernel_rfl) (by kernel_rfl) (by kernel_rfl) (fun _ _ _ h => h) (Or.inl ⟨by rfl, ?_⟩) (by assumption) ?_
  rotate_left
  · intro w hSw
    try dsimp only at hSw
    go_simp
    try with_reducible rfl
  simp only [Act.put, List.setIfInBounds_toArray, List.set_cons_zero, List.set_cons_succ]
  refine wpAnyH_take (i := 8) (v := ?_) (at_list rfl) (by kernel_rfl) (by kernel_rfl) (by kernel_rfl) (fun _ _ _ h => h) (Or.inl ⟨by rfl, ?_⟩) (by assumption) ?_
  rotate_left
  · intro w hSw
    try dsimp only at hSw
    go_simp
    try with_reducible rfl
  simp only [Act.put, List.setIfInBounds_toArray, List.set_cons_zero, List.set_cons_succ]
  refine wpAnyH_take (i := 9) (v := ?_) (at_list rfl) (by kernel_rfl) (by kernel_rfl) (by kernel_rfl) (fun _ _ _ h => h) (Or.inl ⟨by rfl, ?_⟩) (by assumption) ?_
  rotate_left
  · intro w hSw
    try dsimp only at hSw
    go_simp
    try with_reducible rfl
  simp only [Act.put, List.setIfInBounds_toArray, List.set_cons_zero, List.set_cons_succ]
  refine wpAnyH_take (i := 10) (v := ?_) (at_list rfl) (by kernel_rfl) (by kernel_rfl) (by kernel_rfl) (fun _ _ _ h => h) (Or.inl ⟨by rfl, ?_⟩) (by assumption) ?_
  rotate_left
  · intro w hSw
    try dsimp only at hSw
    go_simp
    try with_reducible rfl
  simp only [Act.put, List.setIfInBounds_toArray, List.set_cons_zero, List.set_cons_succ]
  refine wpAnyH_take (i := 11) (v := ?_) (at_list rfl) (by kernel_rfl) (by kernel_rfl) (by kernel_rfl) (fun _ _ _ h => h) (Or.inl ⟨by rfl, ?_⟩) (by assumption) ?_
  rotate_left
  · intro w hSw
    try dsimp only at hSw
    go_simp
    try with_reducible rfl
  simp only [Act.put, List.setIfInBounds_toArray, List.set_cons_zero, List.set_cons_succ]
  refine wpAnyH_take (i := 12) (v := ?_) (at_list rfl) (by kernel_rfl) (by kernel_rfl) (by kernel_rfl) (fun _ _ _ h => h) (Or.inl ⟨by rfl, ?_⟩) (by assumption) ?_
  rotate_left
  · intro w hSw
    try dsimp only at hSw
    go_simp
    try with_reducible rfl
  simp only [Act.put, List.setIfInBounds_toArray, List.set_cons_zero, List.set_cons_succ]
  refine wpAnyH_take (i := 13) (v := ?_) (at_list rfl) (by kernel_rfl) (by kernel_rfl) (by kernel_rfl) (fun _ _ _ h => h) (Or.inl ⟨by rfl, ?_⟩) (by assumption) ?_
  rotate_left
  · intro w hSw
    try dsimp only at hSw
    go_simp
    try with_reducible rfl
  simp only [Act.put, List.setIfInBounds_toArray, List.set_cons_zero, List.set_cons_succ]
  refine wpAnyH_ready (rs := [6, 14]) (by kernel_rfl) (by simp) ?_
  refine AllReadyH.cons (at_list rfl) (fun KK hKK => ?_) (AllReadyH.cons (at_list rfl) (fun KK hKK => ?_) AllReadyH.nil)
  · skip
    go_simp
    refine hKK.out _ _ ?_ (fun hHeld2 => ?_)
    · try dsimp only
      exact FS.out _ (by repeat (first | exact Only.refl _ _ | exact QS8.out | refine Only.drewN ?_ _ | refine Only.drew ?_ | refine Only.alloc ?_ _ | refine Only.setCell (S := (· = ghk)) ?_ (fun _ => rfl) _))
    clear hKK KK hHeld
    rename _ => hHeld
    try simp only [Act.put, List.setIfInBounds_toArray, List.set_cons_zero, List.set_cons_succ]
    refine wpAnyH_ready (rs := [14]) (by kernel_rfl) (by simp) ?_
    refine AllReadyH.cons (at_list rfl) (fun KK hKK => ?_) AllReadyH.nil
    go_simp
    refine hKK.out _ _ ?_ (fun hHeld2 => ?_)
    · try dsimp only
      exact FS.out _ (by repeat (first | exact Only.refl _ _ | exact QS8.out | refine Only.drewN ?_ _ | refine Only.drew ?_ | refine Only.alloc ?_ _ | refine Only.setCell (S := (· = ghk)) ?_ (fun _ => rfl) _))
    clear hKK KK hHeld
    rename _ => hHeld
    try simp only [Act.put, List.setIfInBounds_toArray, List.set_cons_zero, List.set_cons_succ]
    refine wpAnyH_take (i := 15) (v := ?_) (at_list rfl) (by kernel_rfl) (by kernel_rfl) (by kernel_rfl) (fun _ _ _ h => h) (Or.inl ⟨by rfl, ?_⟩) (by assumption) ?_
    rotate_left
    · intro w hSw
      try dsimp only at hSw
      go_simp
      try with_reducible rfl
    simp only [Act.put, List.setIfInBounds_toArray, List.set_cons_zero, List.set_cons_succ]
    refine wpAnyH_ready (rs := [16]) (by kernel_rfl) (by simp) ?_
    refine AllReadyH.cons (at_list rfl) (fun KK hKK => ?_) AllReadyH.nil
    refine step_append_sl _ (by rfl) (.tmp 152) (.tmp 161) 44 (by rfl) 3 i3 (.int .i64 0) 8 Try.underlying44 h30 h31 h32 h33 rfl (some ⟨w7.heap.size, 0, none⟩) 0 0 [] (by rfl) (sl_empty (by repeat (first | exact blk_new' _ _ (by first | rfl | simp) | refine blk_drewN ?_ | refine blk_drew ?_ | refine blk_alloc ?_ _))) (some ⟨gx, ox, none⟩) m 0 (i64s rest) (by rfl) (by rw [i64s_len, HM.out]) (HSRC.out _ (by repeat (first | exact Only.refl _ _ | exact Q8.out | refine Only.drewN ?_ _ | refine Only.drew ?_ | refine Only.alloc ?_ _))) nofun (i64s_one _) (by unfold maxLen; omega) (by omega) ?_
    intro A8 c8 w8 hs8 ho8 hr8
    rw [Nat.zero_add, List.nil_append] at hs8
    try simp only [Nat.zero_add]
    obtain ⟨hq8, hn8⟩ := fresh_app (w0 := w7) (by repeat (first | exact Only.refl _ _ | exact Q8.out | refine Only.drewN ?_ _ | refine Only.drew ?_ | refine Only.alloc ?_ _)) (Nat.le_refl _) ho8 hr8
    have HP := Lib.hid (RPost.after O7.out (chan_post (n := m) (c8 := c8) (A8 := A8) H7.out HQ1k.out HXk.out (Only.refl _ _) (Only.mono (T := RowOf X1.A) hq8 (fun _ _ x => x.elim)) HM.out hs8 (fun k hk => .inr (hn8 k hk)) HGAk.out HFF.out))
    have Q8 := Lib.hid hq8
    have QS8 := Lib.hid (show Only (· = ghk) w7 w8 from Only.mono hq8 (fun _ _ x => x.elim))
    obtain ⟨z1, z2, z3, z4, z5⟩ := FC.out w8 hq8
    clear hs8 ho8 hr8 hq8 hn8
    refine hKK.out _ _ ?_ (fun hHeld2 => ?_)
    · try dsimp only
      exact FS.out _ (by repeat (first | exact Only.refl _ _ | exact QS8.out | refine Only.drewN ?_ _ | refine Only.drew ?_ | refine Only.alloc ?_ _ | refine Only.setCell (S := (· = ghk)) ?_ (fun _ => rfl) _))
    clear hKK KK hHeld
    rename _ => hHeld
    try simp only [Act.put, List.setIfInBounds_toArray, List.set_cons_zero, List.set_cons_succ]
    refine wpAnyH_take (i := 17) (v := ?_) (at_list rfl) (by kernel_rfl) (by kernel_rfl) (by kernel_rfl) (fun _ _ _ h => h) (Or.inl ⟨by rfl, ?_⟩) (by assumption) ?_
    rotate_left
    · intro w hSw
      try dsimp only at hSw
      go_simp
      try with_reducible rfl
    simp only [Act.put, List.setIfInBounds_toArray, List.set_cons_zero, List.set_cons_succ]
    refine wpAnyH_ready (rs := [18]) (by kernel_rfl) (by simp) ?_
    refine AllReadyH.cons (at_list rfl) (fun KK hKK => ?_) AllReadyH.nil
    go_simp
    refine hKK.out _ _ ?_ (fun hHeld2 => ?_)
    · try dsimp only
      exact FS.out _ (by repeat (first | exact Only.refl _ _ | exact QS8.out | refine Only.drewN ?_ _ | refine Only.drew ?_ | refine Only.alloc ?_ _ | refine Only.setCell (S := (· = ghk)) ?_ (fun _ => rfl) _))
    clear hKK KK hHeld
    rename _ => hHeld
    try simp only [Act.put, List.setIfInBounds_toArray, List.set_cons_zero, List.set_cons_succ]
    refine wpAnyH_done (by kernel_rfl) ?_ _
    refine NoPanic.normal ?_
    go_wp2_with (go_at_call 23; refine (rstate HP.out.1 (i : Int)).mono ?_; rintro e w9 ⟨rfl, hq9⟩; have Q9 := Lib.hid hq9; clear hq9)
    go_ret2
    exact ⟨rfl, HP.out.quiet Q9.out⟩
  · skip
    go_simp
    refine hKK.out _ _ ?_ (fun hHeld2 => ?_)
    · try dsimp only
      exact FS.out _ (by repeat (first | exact Only.refl _ _ | exact QS8.out | refine Only.drewN ?_ _ | refine Only.drew ?_ | refine Only.alloc ?_ _ | refine Only.setCell (S := (· = ghk)) ?_ (fun _ => rfl) _))
    clear hKK KK hHeld
    rename _ => hHeld
    try simp only [Act.put, List.setIfInBounds_toArray, List.set_cons_zero, List.set_cons_succ]
    refine wpAnyH_take (i := 15) (v := ?_) (at_list rfl) (by kernel_rfl) (by kernel_rfl) (by kernel_rfl) (fun _ _ _ h => h) (Or.inl ⟨by rfl, ?_⟩) (by assumption) ?_
    rotate_left
    · intro w hSw
      try dsimp only at hSw
      go_simp
      try with_reducible rfl
    simp only [Act.put, List.setIfInBounds_toArray, List.set_cons_zero, List.set_cons_succ]
    refine wpAnyH_ready (rs := [6]) (by kernel_rfl) (by simp) ?_
    refine AllReadyH.cons (at_list rfl) (fun KK hKK => ?_) AllReadyH.nil
    go_simp
    refine hKK.out _ _ ?_ (fun hHeld2 => ?_)
    · try dsimp only
      exact FS.out _ (by repeat (first | exact Only.refl _ _ | exact QS8.out | refine Only.drewN ?_ _ | refine Only.drew ?_ | refine Only.alloc ?_ _ | refine Only.setCell (S := (· = ghk)) ?_ (fun _ => rfl) _))
    clear hKK KK hHeld
    rename _ => hHeld
    try simp only [Act.put, List.setIfInBounds_toArray, List.set_cons_zero, List.set_cons_succ]
    refine wpAnyH_ready (rs := [16]) (by kernel_rfl) (by simp) ?_
    refine AllReadyH.cons (at_list rfl) (fun KK hKK => ?_) AllReadyH.nil
    refine step_append_sl _ (by rfl) (.tmp 152) (.tmp 161) 44 (by rfl) 3 i3 (.int .i64 0) 8 Try.underlying44 h30 h31 h32 h33 rfl (some ⟨w7.heap.size, 0, none⟩) 0 0 [] (by rfl) (sl_empty (by repeat (first | exact blk_new' _ _ (by first | rfl | simp) | refine blk_drewN ?_ | refine blk_drew ?_ | refine blk_alloc ?_ _))) (some ⟨gx, ox, none⟩) m 0 (i64s rest) (by rfl) (by rw [i64s_len, HM.out]) (HSRC.out _ (by repeat (first | exact Only.refl _ _ | exact Q8.out | refine Only.drewN ?_ _ | refine Only.drew ?_ | refine Only.alloc ?_ _))) nofun (i64s_one _) (by unfold maxLen; omega) (by omega) ?_
    intro A8 c8 w8 hs8 ho8 hr8
    rw [Nat.zero_add, List.nil_append] at hs8
    try simp only [Nat.zero_add]
    obtain ⟨hq8, hn8⟩ := fresh_app (w0 := w7) (by repeat (first | exact Only.refl _ _ | exact Q8.out | refine Only.drewN ?_ _ | refine Only.drew ?_ | refine Only.alloc ?_ _)) (Nat.le_refl _) ho8 hr8
    have HP := Lib.hid (RPost.after O7.out (chan_post (n := m) (c8 := c8) (A8 := A8) H7.out HQ1k.out HXk.out (Only.refl _ _) (Only.mono (T := RowOf X1.A) hq8 (fun _ _ x => x.elim)) HM.out hs8 (fun k hk => .inr (hn8 k hk)) HGAk.out HFF.out))
    have Q8 := Lib.hid hq8
    have QS8 := Lib.hid (show Only (· = ghk) w7 w8 from Only.mono hq8 (fun _ _ x => x.elim))
    obtain ⟨z1, z2, z3, z4, z5⟩ := FC.out w8 hq8
    clear hs8 ho8 hr8 hq8 hn8
    refine hKK.out _ _ ?_ (fun hHeld2 => ?_)
    · try dsimp only
      exact FS.out _ (by repeat (first | exact Only.refl _ _ | exact QS8.out | refine Only.drewN ?_ _ | refine Only.drew ?_ | refine Only.alloc ?_ _ | refine Only.setCell (S := (· = ghk)) ?_ (fun _ => rfl) _))
    clear hKK KK hHeld
    rename _ => hHeld
    try simp only [Act.put, List.setIfInBounds_toArray, List.set_cons_zero, List.set_cons_succ]
    refine wpAnyH_take (i := 17) (v := ?_) (at_list rfl) (by kernel_rfl) (by kernel_rfl) (by kernel_rfl) (fun _ _ _ h => h) (Or.inl ⟨by rfl, ?_⟩) (by assumption) ?_
    rotate_left
    · intro w hSw
      try dsimp only at hSw
      go_simp
      try with_reducible rfl
    simp only [Act.put, List.setIfInBounds_toArray, List.set_cons_zero, List.set_cons_succ]
    refine wpAnyH_ready (rs := [18]) (by kernel_rfl) (by simp) ?_
    refine AllReadyH.cons (at_list rfl) (fun KK hKK => ?_) AllReadyH.nil
    go_simp
    refine hKK.out _ _ ?_ (fun hHeld2 => ?_)
    · try dsimp only
      exact FS.out _ (by repeat (first | exact Only.refl _ _ | exact QS8.out | refine Only.drewN ?_ _ | refine Only.drew ?_ | refine Only.alloc ?_ _ | refine Only.setCell (S := (· = ghk)) ?_ (fun _ => rfl) _))
    clear hKK KK hHeld
    rename _ => hHeld
    try simp only [Act.put, List.setIfInBounds_toArray, List.set_cons_zero, List.set_cons_succ]
    refine wpAnyH_done (by kernel_rfl) ?_ _
    refine NoPanic.normal ?_
    go_wp2_with (go_at_call 23; refine (rstate HP.out.1 (i : Int)).mono ?_; rintro e w9 ⟨rfl, hq9⟩; have Q9 := Lib.hid hq9; clear hq9)
    go_ret2
    exact ⟨rfl, HP.out.quiet Q9.out⟩
set_option maxRecDepth 8000 in
set_option maxHeartbeats 16000000 in
theorem rstep_recv2 {w : World} {M : RMem} {W : Wd} (h : RAt w M W) {i : Nat} {t : RTask} (ht : M.ts[i]? = some t) (he : t.next < t.all.length) {o : Op3} (ho : t.all[t.next]? = some o) (hd : t.all.drop t.next = o :: t.all.drop (t.next + 1)) (hw : waitsB W o = false) (hk : o.kind = 4) {a : Nat} (ha : o.a = (a : Int)) {q : Pipe} (hq : W.pipes[a]? = some q) {v : Int} {rest : List Int} (hql : q.l = v :: rest) {X : RRow} (hX : M.cs[a]? = some X) (hcc : (X.c == 1) = false) :
    Calls Try.prog 21 #[.pointer (some ⟨M.p, 0, none⟩), .int .i64 (i : Int)] w fun e w' => e = .returned (.tuple #[.int .i64 (stateF (setP (setT (setT W i ⟨t.all.drop (t.next + 1), t.has⟩) i ⟨t.all.drop (t.next + 1), w32 (t.has + v)⟩) a ⟨rest, q.size⟩) (i : Int)), .int .i64 0]) ∧ RPost M.base M.p w (setP (setT (setT W i ⟨t.all.drop (t.next + 1), t.has⟩) i ⟨t.all.drop (t.next + 1), w32 (t.has + v)⟩) a ⟨rest, q.size⟩) w' := by
  have HS := Lib.hid (rstate_at h (i : Int))
  have hst : stateF W (i : Int) = 1 := by
    rw [stateF_at (h.thread ht)]
    unfold stateT
    simp only [hd]
    rw [hw]; rfl
  rw [hst] at HS
  have c4 := h.head.2.2.2.2.1
  have ps := h.head.2.2.2.2.2
  obtain ⟨g, cap, hv, hc1, hc2, gs, g0, g1, g2⟩ := h.task ht
  obtain ⟨o', go, off, ho', hdd, hmy, hA, hc3, hc4, os, o0, o1, o2⟩ := h.op ht he
  rw [ho] at ho'
  obtain rfl := Option.some.inj ho'
  have hi := (List.getElem?_eq_some_iff.1 ht).1
  obtain ⟨hl, hl2⟩ := h.len
  have hln := (h.tl t (List.mem_of_getElem? ht)).2.2
  clear hdd hmy
  rw [hv] at c4
  obtain ⟨N, hN⟩ : ∃ N, N = M.ts.length := ⟨_, rfl⟩
  rw [← hN] at c4 hl2 hc1 hi hv
  obtain ⟨L, hL⟩ : ∃ L, L = t.all.length := ⟨_, rfl⟩
  obtain ⟨n, hn⟩ : ∃ n, n = t.next := ⟨_, rfl⟩
  obtain ⟨c, hc⟩ : ∃ c, c = t.c := ⟨_, rfl⟩
  rw [hA] at g0
  rw [← hL] at g0 hln he hc3
  rw [← hn] at g1 he o0 o1 o2
  rw [← hc] at g0 hc3 hc4
  unfold maxLen at hc2 hc4
  have HG0 := Lib.hid (show (Value.slice (some ⟨go, off, none⟩) L c) = .slice t.A t.all.length t.c by rw [hA, hL, hc])
  have HF := Lib.hid (fun (V : World) (hV : Quiet w V) => show (V.cell? ⟨M.p, 4, none⟩ = some (.slice (some ⟨g, 0, none⟩) N cap) ∧ V.cell? ⟨g, i * 3, none⟩ = some (.slice (some ⟨go, off, none⟩) L c) ∧ V.cell? ⟨g, i * 3 + 1, none⟩ = some (.int .i64 (n : Nat))) ∧
    (V.cell? ⟨go, off + n * 3, none⟩ = some (.int .i64 o.kind) ∧ V.cell? ⟨go, off + n * 3 + 1, none⟩ = some (.int .i64 o.a) ∧ V.cell? ⟨go, off + n * 3 + 2, none⟩ = some (.int .i64 o.b)) ∧ M.p < V.heap.size ∧ g < V.heap.size ∧ go < V.heap.size from
    ⟨⟨(hV.cell (p := ⟨M.p, 4, none⟩) ps (fun x => x)).trans c4, (hV.cell (p := ⟨g, i * 3, none⟩) gs (fun x => x)).trans g0, (hV.cell (p := ⟨g, i * 3 + 1, none⟩) gs (fun x => x)).trans g1⟩,
      ⟨(hV.cell (p := ⟨go, off + n * 3, none⟩) os (fun x => x)).trans o0, (hV.cell (p := ⟨go, off + n * 3 + 1, none⟩) os (fun x => x)).trans o1, (hV.cell (p := ⟨go, off + n * 3 + 2, none⟩) os (fun x => x)).trans o2⟩, Nat.lt_of_lt_of_le ps hV.size, Nat.lt_of_lt_of_le gs hV.size, Nat.lt_of_lt_of_le os hV.size⟩)
  have H := Lib.hid h
  have HT := Lib.hid ht
  have HV := Lib.hid (hN ▸ hv)
  have HN := Lib.hid hN
  have HL := Lib.hid hL
  have HNX := Lib.hid hn
  obtain ⟨kd, a0, b0⟩ := o
  have HKD := Lib.hid (show kd = 4 from hk)
  simp only at HF hk
  subst hk
  simp only at ha
  subst ha
  have HQ := Lib.hid hq
  clear hq
  have HXX := Lib.hid hX
  clear hX
  have HLL := Lib.hid hql
  clear hql
  have HCC := Lib.hid hcc
  clear hcc
  have HO := Lib.hid (show W = W from rfl)
  clear hv hl h hN hL ho ht hA hn hc ho' hd hw c4 g0 g1 g2 o0 o1 o2 hst ps gs os
  have d1 : decide ((i : Int) < 0) = false := by simp
  have d2 : decide ((N : Int) ≤ (i : Int)) = false := by simp; omega
  have i0 : (0 : Int) ≤ (i : Int) := by omega
  have i1 : (i : Int) < (N : Int) := by omega
  have n0 : (0 : Int) ≤ (n : Int) := by omega
  have n1 : (n : Int) < (L : Int) := by omega
  go_enter Try.func21, Try.ntmps21
  go_wp2_with (first
    | (go_at_call 23; refine HS.out.mono ?_; rintro e w2 ⟨rfl, hq⟩; have Q2 := Lib.hid hq; clear hq; obtain ⟨⟨t1, t2, t3⟩, ⟨t4, t5, t6⟩, t7, t8, t9⟩ := HF.out _ Q2.out))
  refine wp_region_noPanic ?_
  refine wp_region_held_drew (S := (fun w' => w'.cell? ⟨M.p, 4, none⟩ = some (.slice (some ⟨g, 0, none⟩) N cap) ∧ w'.cell? ⟨g, i * 3, none⟩ = some (.slice (some ⟨go, off, none⟩) L c) ∧ w'.cell? ⟨g, i * 3 + 1, none⟩ = some (.int .i64 (n : Nat)) ∧ w'.cell? ⟨go, off + n * 3, none⟩ = some (.int .i64 4) ∧ w'.cell? ⟨go, off + n * 3 + 1, none⟩ = some (.int .i64 (a : Int)) ∧ w'.cell? ⟨go, off + n * 3 + 2, none⟩ = some (.int .i64 b0))) (by kernel_rfl) ?_ (fun hHeld => ?_)
  · try dsimp only
    go_keep
  refine wpAnyH_take (i := 0) (v := ?_) (at_list rfl) (by kernel_rfl) (by kernel_rfl) (by kernel_rfl) (fun _ _ _ h => h) (Or.inl ⟨by rfl, ?_⟩) (by assumption) ?_
  rotate_left
  · intro w hSw
    try dsimp only at hSw
    go_simp
    try with_reducible rfl
  simp only [Act.put, List.setIfInBounds_toArray, List.set_cons_zero, List.set_cons_succ]
  refine wpAnyH_take (i := 1) (v := ?_) (at_list rfl) (by kernel_rfl) (by kernel_rfl) (by kernel_rfl) (fun _ _ _ h => h) (Or.inl ⟨by rfl, ?_⟩) (by assumption) ?_
  rotate_left
  · intro w hSw
    try dsimp only at hSw
    go_simp
    try with_reducible rfl
  simp only [Act.put, List.setIfInBounds_toArray, List.set_cons_zero, List.set_cons_succ]
  refine wpAnyH_take (i := 2) (v := ?_) (at_list rfl) (by kernel_rfl) (by kernel_rfl) (by kernel_rfl) (fun _ _ _ h => h) (Or.inl ⟨by rfl, ?_⟩) (by assumption) ?_
  rotate_left
  · intro w hSw
    try dsimp only at hSw
    go_simp
    try with_reducible rfl
  simp only [Act.put, List.setIfInBounds_toArray, List.set_cons_zero, List.set_cons_succ]
  refine wpAnyH_take (i := 3) (v := ?_) (at_list rfl) (by kernel_rfl) (by kernel_rfl) (by kernel_rfl) (fun _ _ _ h => h) (Or.inl ⟨by rfl, ?_⟩) (by assumption) ?_
  rotate_left
  · intro w hSw
    try dsimp only at hSw
    go_simp
    try with_reducible rfl
  simp only [Act.put, List.setIfInBounds_toArray, List.set_cons_zero, List.set_cons_succ]
  refine wpAnyH_take (i := 4) (v := ?_) (at_list rfl) (by kernel_rfl) (by kernel_rfl) (by kernel_rfl) (fun _ _ _ h => h) (Or.inl ⟨by rfl, ?_⟩) (by assumption) ?_
  rotate_left
  · intro w hSw
    try dsimp only at hSw
    go_simp
    try with_reducible rfl
  simp only [Act.put, List.setIfInBounds_toArray, List.set_cons_zero, List.set_cons_succ]
  refine wpAnyH_take (i := 5) (v := ?_) (at_list rfl) (by kernel_rfl) (by kernel_rfl) (by kernel_rfl) (fun _ _ _ h => h) (Or.inl ⟨by rfl, ?_⟩) (by assumption) ?_
  rotate_left
  · intro w hSw
    try dsimp only at hSw
    go_simp
    try with_reducible rfl
  simp only [Act.put, List.setIfInBounds_toArray, List.set_cons_zero, List.set_cons_succ]
  refine wpAnyH_take (i := 6) (v := ?_) (at_list rfl) (by kernel_rfl) (by kernel_rfl) (by kernel_rfl) (fun _ _ _ h => h) (Or.inl ⟨by rfl, ?_⟩) (by assumption) ?_
  rotate_left
  · intro w hSw
    try dsimp only at hSw
    go_simp
    try with_reducible rfl
  simp only [Act.put, List.setIfInBounds_toArray, List.set_cons_zero, List.set_cons_succ]
  refine wpAnyH_take (i := 7) (v := ?_) (at_list rfl) (by kernel_rfl) (by kernel_rfl) (by kernel_rfl) (fun _ _ _ h => h) (Or.inl ⟨by rfl, ?_⟩) (by assumption) ?_
  rotate_left
  · intro w hSw
    try dsimp only at hSw
    go_simp
    try with_reducible rfl
  simp only [Act.put, List.setIfInBounds_toArray, List.set_cons_zero, List.set_cons_succ]
  refine wpAnyH_take (i := 8) (v := ?_) (at_list rfl) (by kernel_rfl) (by kernel_rfl) (by kernel_rfl) (fun _ _ _ h => h) (Or.inl ⟨by rfl, ?_⟩) (by assumption) ?_
  rotate_left
  · intro w hSw
    try dsimp only at hSw
    go_simp
    try with_reducible rfl
  simp only [Act.put, List.setIfInBounds_toArray, List.set_cons_zero, List.set_cons_succ]
  refine wpAnyH_take (i := 9) (v := ?_) (at_list rfl) (by kernel_rfl) (by kernel_rfl) (by kernel_rfl) (fun _ _ _ h => h) (Or.inl ⟨by rfl, ?_⟩) (by assumption) ?_
  rotate_left
  · intro w hSw
    try dsimp only at hSw
    go_simp
    try with_reducible rfl
  simp only [Act.put, List.setIfInBounds_toArray, List.set_cons_zero, List.set_cons_succ]
  refine wpAnyH_take (i := 10) (v := ?_) (at_list rfl) (by kernel_rfl) (by kernel_rfl) (by kernel_rfl) (fun _ _ _ h => h) (Or.inl ⟨by rfl, ?_⟩) (by assumption) ?_
  rotate_left
  · intro w hSw
    try dsimp only at hSw
    go_simp
    try with_reducible rfl
  simp only [Act.put, List.setIfInBounds_toArray, List.set_cons_zero, List.set_cons_succ]
  refine wpAnyH_take (i := 11) (v := ?_) (at_list rfl) (by kernel_rfl) (by kernel_rfl) (by kernel_rfl) (fun _ _ _ h => h) (Or.inl ⟨by rfl, ?_⟩) (by assumption) ?_
  rotate_left
  · intro w hSw
    try dsimp only at hSw
    go_simp
    try with_reducible rfl
  simp only [Act.put, List.setIfInBounds_toArray, List.set_cons_zero, List.set_cons_succ]
  refine wpAnyH_take (i := 12) (v := ?_) (at_list rfl) (by kernel_rfl) (by kernel_rfl) (by kernel_rfl) (fun _ _ _ h => h) (Or.inl ⟨by rfl, ?_⟩) (by assumption) ?_
  rotate_left
  · intro w hSw
    try dsimp only at hSw
    go_simp
    try with_reducible rfl
  simp only [Act.put, List.setIfInBounds_toArray, List.set_cons_zero, List.set_cons_succ]
  refine wpAnyH_take (i := 13) (v := ?_) (at_list rfl) (by kernel_rfl) (by kernel_rfl) (by kernel_rfl) (fun _ _ _ h => h) (Or.inl ⟨by rfl, ?_⟩) (by assumption) ?_
  rotate_left
  · intro w hSw
    try dsimp only at hSw
    go_simp
    try with_reducible rfl
  simp only [Act.put, List.setIfInBounds_toArray, List.set_cons_zero, List.set_cons_succ]
  refine wpAnyH_take (i := 14) (v := ?_) (at_list rfl) (by kernel_rfl) (by kernel_rfl) (by kernel_rfl) (fun _ _ _ h => h) (Or.inl ⟨by rfl, ?_⟩) (by assumption) ?_
  rotate_left
  · intro w hSw
    try dsimp only at hSw
    go_simp
    try with_reducible rfl
  simp only [Act.put, List.setIfInBounds_toArray, List.set_cons_zero, List.set_cons_succ]
  refine wpAnyH_take (i := 15) (v := ?_) (at_list rfl) (by kernel_rfl) (by kernel_rfl) (by kernel_rfl) (fun _ _ _ h => h) (Or.inl ⟨by rfl, ?_⟩) (by assumption) ?_
  rotate_left
  · intro w hSw
    try dsimp only at hSw
    go_simp
    try with_reducible rfl
  simp only [Act.put, List.setIfInBounds_toArray, List.set_cons_zero, List.set_cons_succ]
  refine wpAnyH_take (i := 16) (v := ?_) (at_list rfl) (by kernel_rfl) (by kernel_rfl) (by kernel_rfl) (fun _ _ _ h => h) (Or.inl ⟨by rfl, ?_⟩) (by assumption) ?_
  rotate_left
  · intro w hSw
    try dsimp only at hSw
    go_simp
    try with_reducible rfl
  simp only [Act.put, List.setIfInBounds_toArray, List.set_cons_zero, List.set_cons_succ]
  refine wpAnyH_take (i := 17) (v := ?_) (at_list rfl) (by kernel_rfl) (by kernel_rfl) (by kernel_rfl) (fun _ _ _ h => h) (Or.inl ⟨by rfl, ?_⟩) (by assumption) ?_
  rotate_left
  · intro w hSw
    try dsimp only at hSw
    go_simp
    try with_reducible rfl
  simp only [Act.put, List.setIfInBounds_toArray, List.set_cons_zero, List.set_cons_succ]
  refine wpAnyH_ready (rs := [18]) (by kernel_rfl) (by simp) ?_
  refine AllReadyH.cons (at_list rfl) (fun KK hKK => ?_) AllReadyH.nil
  go_simp
  refine hKK.out _ _ ?_ (fun hHeld2 => ?_)
  · try dsimp only
    go_keep
  clear hKK KK hHeld
  rename _ => hHeld
  try simp only [Act.put, List.setIfInBounds_toArray, List.set_cons_zero, List.set_cons_succ]
  refine wpAnyH_ready (rs := [19]) (by kernel_rfl) (by simp) ?_
  refine AllReadyH.cons (at_list rfl) (fun KK hKK => ?_) AllReadyH.nil
  go_simp
  refine hKK.out _ _ ?_ (fun hHeld2 => ?_)
  · try dsimp only
    go_keep
  clear hKK KK hHeld
  rename _ => hHeld
  try simp only [Act.put, List.setIfInBounds_toArray, List.set_cons_zero, List.set_cons_succ]
  refine wpAnyH_done (by kernel_rfl) ?_ _
  refine NoPanic.normal ?_
  obtain ⟨b, hb⟩ : ∃ b, b = w2.heap.size := ⟨_, rfl⟩
  have HB3 := Lib.hid (show ((w2.alloc (.cells #[.int .i64 4, .int .i64 (a : Int), .int .i64 b0] 78)).drew).heap[b]? = some (.cells #[.int .i64 4, .int .i64 (a : Int), .int .i64 b0] 78 (0, 0)) by rw [hb]; exact blk_drew (blk_new _ _))
  have Q3 := Lib.hid (show Quiet w ((w2.alloc (.cells #[.int .i64 4, .int .i64 (a : Int), .int .i64 b0] 78)).drew) from (Q2.out.alloc _).drew)
  rw [← hb]
  clear hHeld t1 t2 t3 t4 t5 t6 t7 t8 t9 hb
  generalize (w2.alloc (.cells #[.int .i64 4, .int .i64 (a : Int), .int .i64 b0] 78)).drew = w3 at HB3 Q3 ⊢
  obtain ⟨⟨t1, t2, t3⟩, t4, t7, t8, t9⟩ := HF.out _ Q3.out
  clear t4 t9
  obtain ⟨cu, hcu⟩ := row_ownB (H.out.quiet Q3.out).tasks (k := g) (by rw [HV.out]; rfl)
  have hfz : w3.frozen? ⟨g, i * 3 + 1, none⟩ = false := blk_frozen hcu _
  have hbg : b ≠ g := blk_ne HB3.out hcu (by decide)
  have HB4 := Lib.hid (blk_far HB3.out (p := ⟨g, i * 3 + 1, none⟩) hbg (.int .i64 ((n : Int) + 1)))
  obtain ⟨hm4, ho4⟩ := (H.out.quiet Q3.out).setTask HT.out HV.out ⟨t.A, t.c, t.all, t.next + 1, t.has⟩ 1 (.int .i64 ((n : Int) + 1)) (by decide) (by rw [HNX.out]; simp [rtc]) ⟨rfl, rfl, rfl⟩ ⟨by simp, by show t.next + 1 ≤ t.all.length; have := HNX.out; have := HL.out; omega⟩ (H.out.fit.tz _ (List.mem_of_getElem? (H.out.thread HT.out))).2.1
  have H4 := Lib.hid hm4
  have O4 := Lib.hid (RSide.trans (RSide.quiet Q3.out) ho4)
  clear hm4 ho4 hcu
  go_upto_region 10 with (fail)
  clear t1 t2 t3 t7 t8 hfz
  generalize w3.setCell ⟨g, i * 3 + 1, none⟩ (.int .i64 ((n : Int) + 1)) = w4 at HB4 H4 O4 ⊢
  have x0 : w4.cell? ⟨b, 0, none⟩ = some (.int .i64 4) := blk_cell HB4.out 0
  have x1 : w4.cell? ⟨b, 1, none⟩ = some (.int .i64 (a : Int)) := blk_cell HB4.out 1
  have x2 : w4.cell? ⟨b, 2, none⟩ = some (.int .i64 b0) := blk_cell HB4.out 2
  have hbs : b < w4.heap.size := lt_of_heap HB4.out
  have hq1 : ((setT W i ⟨t.all.drop (t.next + 1), t.has⟩)).pipes[a]? = some q := HQ.out
  obtain ⟨X1, gh, oh, gz, oz, hX0, hXl, hgA0, ghs, hac0, hcc0, hcm0, yc, hzA, gzs, haz, hzc, hzm, hzx⟩ := H4.out.chan hq1
  have hX : M.cs[a]? = some X1 := hX0
  have hgA : M.gA = some ⟨gh, oh, none⟩ := hgA0
  have hac : a < M.cs.length := hac0
  have hcc : M.cs.length ≤ M.gc := hcc0
  have hcm : M.gc ≤ maxLen := hcm0
  have c2 : w4.cell? ⟨M.p, 2, none⟩ = some (.slice M.gA M.cs.length M.gc) := H4.out.head.2.2.1
  have c5 : M.p < w4.heap.size := H4.out.head.2.2.2.2.2
  have hsx : Sl w4 3 X1.A X1.l.length X1.c (i64s X1.l) := H4.out.rows X1 (List.mem_of_getElem? (i := a + 3) hX0)
  obtain ⟨pz1, pz2, pz3, pz4⟩ := H4.out.fit.pz q (List.mem_of_getElem? hq1)
  rw [hgA] at c2
  obtain ⟨cuh, hcuh⟩ := H4.out.chans.type (k := gh) ⟨_, hgA, rfl⟩
  rw [hXl] at hsx
  have hnr : ¬ RowOf X1.A gh := fun k => by obtain ⟨cu2, hc2⟩ := hsx.type k; exact blk_ne hc2 hcuh (by decide) rfl
  have hbr : ¬ RowOf X1.A b := fun k => by obtain ⟨cu2, hc2⟩ := hsx.type k; exact blk_ne hc2 HB4.out (by decide) rfl
  have hpr : ¬ RowOf X1.A M.p := fun k => by obtain ⟨cu2, hc2⟩ := hsx.type k; exact blk_ne hc2 H4.out.blk (by decide) rfl
  have hbh : b ≠ gh := blk_ne HB4.out hcuh (by decide)
  have hph : M.p ≠ gh := blk_ne H4.out.blk hcuh (by decide)
  have hfh : w4.frozen? ⟨gh, oh + a, none⟩ = false := blk_frozen hcuh _
  have HX := Lib.hid hX
  have HGA := Lib.hid hgA
  have HQ1 := Lib.hid hq1
  obtain ⟨nc, hnc⟩ : ∃ n, n = M.cs.length := ⟨_, rfl⟩
  obtain ⟨cc, hccq⟩ : ∃ n, n = M.gc := ⟨_, rfl⟩
  rw [← hnc, ← hccq] at c2
  rw [← hnc] at hac hcc
  rw [← hccq] at hcc hcm
  unfold maxLen at hcm
  have hxle := hsx.le
  have hxcm := hsx.capLe
  unfold maxLen at hxcm
  have a0 : (0 : Int) ≤ (a : Int) := by omega
  have a1 : (a : Int) < (nc : Int) := by omega
  clear hX0 hgA0 hac0 hcc0 hcm0 hzA gzs haz hzc hzm hzx hXl hX hgA hnc hccq hq1
  obtain rfl : X1 = X := Option.some.inj (HX.out.symm.trans HXX.out)
  obtain ⟨gx, ox, hxA, gxs, yv⟩ := hsx.cell (i := 0) (i64s_at (l := q.l) (x := v) (by rw [HLL.out]; rfl))
  rw [Nat.add_zero] at yv
  have hv32 : In32 v := pz4 v (by rw [HLL.out]; exact .head _)
  unfold In32 at hv32
  obtain ⟨m, hm⟩ : ∃ m, m = rest.length := ⟨_, rfl⟩
  have hqm : q.l.length = m + 1 := by rw [HLL.out, hm]; rfl
  rw [hqm] at yc hxle
  have HXA := Lib.hid hxA
  have HM := Lib.hid hm
  rw [hxA] at yc
  have HT4 := Lib.hid (show ({ M with ts := M.ts.set i ⟨t.A, t.c, t.all, t.next + 1, t.has⟩ } : RMem).ts[i]? = some ⟨t.A, t.c, t.all, t.next + 1, t.has⟩ from List.getElem?_set_self (by have := HN.out; omega))
  have HV4 := Lib.hid (show ({ M with ts := M.ts.set i ⟨t.A, t.c, t.all, t.next + 1, t.has⟩ } : RMem).vt = .slice (some ⟨g, 0, none⟩) ({ M with ts := M.ts.set i ⟨t.A, t.c, t.all, t.next + 1, t.has⟩ } : RMem).ts.length cap by rw [HV.out]; simp)
  obtain ⟨cug, hcug⟩ := row_ownB H4.out.tasks (k := g) (by rw [HV4.out]; rfl)
  have hpg : M.p ≠ g := blk_ne H4.out.blk hcug (by decide)
  have hbg4 : b ≠ g := blk_ne HB4.out hcug (by decide)
  have hfg : w4.frozen? ⟨g, i * 3 + 2, none⟩ = false := blk_frozen hcug _
  have hgs : g < w4.heap.size := lt_of_heap hcug
  have s4 : w4.cell? ⟨M.p, 4, none⟩ = some (.slice (some ⟨g, 0, none⟩) N cap) := by have := H4.out.head.2.2.2.2.1; rw [HV4.out] at this; rw [HN.out]; simpa using this
  obtain ⟨s0, s1, s2⟩ : w4.cell? ⟨g, i * 3, none⟩ = some (.slice (some ⟨go, off, none⟩) L c) ∧ w4.cell? ⟨g, i * 3 + 1, none⟩ = some (.int .i64 ((n : Int) + 1)) ∧ w4.cell? ⟨g, i * 3 + 2, none⟩ = some (.int .i64 t.has) := by
    obtain ⟨g', cap', e1, _, _, _, e2, e3, e4⟩ := H4.out.task HT4.out
    rw [HV4.out] at e1
    simp only [Value.slice.injEq, Option.some.injEq, Addr.mk.injEq] at e1
    obtain ⟨⟨rfl, _⟩, _⟩ := e1
    rw [HG0.out, HNX.out]; exact ⟨e2, by rw [e3]; simp, e4⟩
  have hhg : gh ≠ g := blk_ne hcuh hcug (by decide)
  obtain ⟨cux, hcux⟩ := hsx.type (k := gx) ⟨_, hxA, rfl⟩
  have hxg : gx ≠ g := blk_ne hcux hcug (by decide)
  have FS := Lib.hid (fun (V : World) (hV : Only (· = g) w4 V) => show V.cell? ⟨M.p, 4, none⟩ = some (.slice (some ⟨g, 0, none⟩) N cap) ∧ V.cell? ⟨M.p, 2, none⟩ = some (.slice (some ⟨gh, oh, none⟩) nc cc) ∧ V.cell? ⟨b, 1, none⟩ = some (.int .i64 (a : Int)) ∧ V.cell? ⟨gh, oh + a, none⟩ = some (.slice (some ⟨gx, ox, none⟩) (m + 1) X1.c) ∧ V.cell? ⟨gx, ox, none⟩ = some (.int .i64 v) from
    ⟨(hV.cell (p := ⟨M.p, 4, none⟩) c5 hpg).trans s4, (hV.cell (p := ⟨M.p, 2, none⟩) c5 hpg).trans c2, (hV.cell (p := ⟨b, 1, none⟩) hbs hbg4).trans x1, (hV.cell (p := ⟨gh, oh + a, none⟩) ghs hhg).trans yc, (hV.cell (p := ⟨gx, ox, none⟩) gxs hxg).trans yv⟩)
  have FC := Lib.hid (fun (V : World) (hV : Quiet w4 V) => show V.cell? ⟨g, i * 3 + 2, none⟩ = some (.int .i64 t.has) ∧ V.frozen? ⟨g, i * 3 + 2, none⟩ = false ∧ gh < V.heap.size ∧ M.p < V.heap.size ∧ b < V.heap.size ∧ g < V.heap.size ∧ gx < V.heap.size from
    ⟨(hV.cell (p := ⟨g, i * 3 + 2, none⟩) hgs (fun x => x)).trans s2, blk_frozen (hV.keep hcug (fun x => x)) _, Nat.lt_of_lt_of_le ghs hV.size, Nat.lt_of_lt_of_le c5 hV.size, Nat.lt_of_lt_of_le hbs hV.size, Nat.lt_of_lt_of_le hgs hV.size, Nat.lt_of_lt_of_le gxs hV.size⟩)
  have hth : In32 t.has := (H.out.fit.tz _ (List.mem_of_getElem? (H.out.thread HT.out))).2.1
  unfold In32 at hth
  have iw : IntKind.i64.wrap (t.has + v) = t.has + v := by have := IntKind.wrap_i64 (t.has + v); omega
  have m0 : (0 : Int) < (m : Int) + 1 := by omega
  have HBG := Lib.hid hbg4
  clear hth hv32 hcug hsx hcuh hcux hxA hm hqm hnr hbr hpr pz4 pz1 HXX
  go_wp2_with fail
  refine wp_region_noPanic ?_
  refine wp_region_held_drew (S := (fun w' => w'.cell? ⟨M.p, 4, none⟩ = some (.slice (some ⟨g, 0, none⟩) N cap) ∧ w'.cell? ⟨M.p, 2, none⟩ = some (.slice (some ⟨gh, oh, none⟩) nc cc) ∧ w'.cell? ⟨b, 1, none⟩ = some (.int .i64 (a : Int)) ∧ w'.cell? ⟨gh, oh + a, none⟩ = some (.slice (some ⟨gx, ox, none⟩) (m + 1) X1.c) ∧ w'.cell? ⟨gx, ox, none⟩ = some (.int .i64 v))) (by kernel_rfl) ?_ (fun hHeld => ?_)
  · try dsimp only
    exact FS.out _ (by repeat (first | exact Only.refl _ _ | exact QS7.out | exact QS6.out | refine Only.drewN ?_ _ | refine Only.drew ?_ | refine Only.alloc ?_ _ | refine Only.setCell (S := (· = g)) ?_ (fun _ => rfl) _))
  refine wpAnyH_take (i := 0) (v := ?_) (at_list rfl) (by kernel_rfl) (by kernel_rfl) (by kernel_rfl) (fun _ _ _ h => h) (Or.inl ⟨by rfl, ?_⟩) (by assumption) ?_
  rotate_left
  · intro w hSw
    try dsimp only at hSw
    go_simp
    try with_reducible rfl
  simp only [Act.put, List.setIfInBounds_toArray, List.set_cons_zero, List.set_cons_succ]
  refine wpAnyH_take (i := 1) (v := ?_) (at_list rfl) (by kernel_rfl) (by kernel_rfl) (by kernel_rfl) (fun _ _ _ h => h) (Or.inl ⟨by rfl, ?_⟩) (by assumption) ?_
  rotate_left
  · intro w hSw
    try dsimp only at hSw
    go_simp
    try with_reducible rfl
  simp only [Act.put, List.setIfInBounds_toArray, List.set_cons_zero, List.set_cons_succ]
  refine wpAnyH_take (i := 2) (v := ?_) (at_list rfl) (by kernel_rfl) (by kernel_rfl) (by kernel_rfl) (fun _ _ _ h => h) (Or.inl ⟨by rfl, ?_⟩) (by assumption) ?_
  rotate_left
  · intro w hSw
    try dsimp only at hSw
    go_simp
    try with_reducible rfl
  simp only [Act.put, List.setIfInBounds_toArray, List.set_cons_zero, List.set_cons_succ]
  refine wpAnyH_take (i := 3) (v := ?_) (at_list rfl) (by kernel_rfl) (by kernel_rfl) (by kernel_rfl) (fun _ _ _ h => h) (Or.inl ⟨by rfl, ?_⟩) (by assumption) ?_
  rotate_left
  · intro w hSw
    try dsimp only at hSw
    go_simp
    try with_reducible rfl
  simp only [Act.put, List.setIfInBounds_toArray, List.set_cons_zero, List.set_cons_succ]
  refine wpAnyH_take (i := 4) (v := ?_) (at_list rfl) (by kernel_rfl) (by kernel_rfl) (by kernel_rfl) (fun _ _ _ h => h) (Or.inl ⟨by rfl, ?_⟩) (by assumption) ?_
  rotate_left
  · intro w hSw
    try dsimp only at hSw
    go_simp
    try with_reducible rfl
  simp only [Act.put, List.setIfInBounds_toArray, List.set_cons_zero, List.set_cons_succ]
  refine wpAnyH_take (i := 5) (v := ?_) (at_list rfl) (by kernel_rfl) (by kernel_rfl) (by kernel_rfl) (fun _ _ _ h => h) (Or.inl ⟨by rfl, ?_⟩) (by assumption) ?_
  rotate_left
  · intro w hSw
    try dsimp only at hSw
    go_simp
    try with_reducible rfl
  simp only [Act.put, List.setIfInBounds_toArray, List.set_cons_zero, List.set_cons_succ]
  refine wpAnyH_take (i := 6) (v := ?_) (at_list rfl) (by kernel_rfl) (by kernel_rfl) (by kernel_rfl) (fun _ _ _ h => h) (Or.inl ⟨by rfl, ?_⟩) (by assumption) ?_
  rotate_left
  · intro w hSw
    try dsimp only at hSw
    go_simp
    try with_reducible rfl
  simp only [Act.put, List.setIfInBounds_toArray, List.set_cons_zero, List.set_cons_succ]
  refine wpAnyH_take (i := 7) (v := ?_) (at_list rfl) (by kernel_rfl) (by kernel_rfl) (by kernel_rfl) (fun _ _ _ h => h) (Or.inl ⟨by rfl, ?_⟩) (by assumption) ?_
  rotate_left
  · intro w hSw
    try dsimp only at hSw
    go_simp
    try with_reducible rfl
  simp only [Act.put, List.setIfInBounds_toArray, List.set_cons_zero, List.set_cons_succ]
  refine wpAnyH_take (i := 8) (v := ?_) (at_list rfl) (by kernel_rfl) (by kernel_rfl) (by kernel_rfl) (fun _ _ _ h => h) (Or.inl ⟨by rfl, ?_⟩) (by assumption) ?_
  rotate_left
  · intro w hSw
    try dsimp only at hSw
    go_simp
    try with_reducible rfl
  simp only [Act.put, List.setIfInBounds_toArray, List.set_cons_zero, List.set_cons_succ]
  refine wpAnyH_take (i := 9) (v := ?_) (at_list rfl) (by kernel_rfl) (by kernel_rfl) (by kernel_rfl) (fun _ _ _ h => h) (Or.inl ⟨by rfl, ?_⟩) (by assumption) ?_
  rotate_left
  · intro w hSw
    try dsimp only at hSw
    go_simp
    try with_reducible rfl
  simp only [Act.put, List.setIfInBounds_toArray, List.set_cons_zero, List.set_cons_succ]
  refine wpAnyH_take (i := 10) (v := ?_) (at_list rfl) (by kernel_rfl) (by kernel_rfl) (by kernel_rfl) (fun _ _ _ h => h) (Or.inl ⟨by rfl, ?_⟩) (by assumption) ?_
  rotate_left
  · intro w hSw
    try dsimp only at hSw
    go_simp
    try with_reducible rfl
  simp only [Act.put, List.setIfInBounds_toArray, List.set_cons_zero, List.set_cons_succ]
  refine wpAnyH_take (i := 11) (v := ?_) (at_list rfl) (by kernel_rfl) (by kernel_rfl) (by kernel_rfl) (fun _ _ _ h => h) (Or.inl ⟨by rfl, ?_⟩) (by assumption) ?_
  rotate_left
  · intro w hSw
    try dsimp only at hSw
    go_simp
    try with_reducible rfl
  simp only [Act.put, List.setIfInBounds_toArray, List.set_cons_zero, List.set_cons_succ]
  refine wpAnyH_take (i := 13) (v := ?_) (at_list rfl) (by kernel_rfl) (by kernel_rfl) (by kernel_rfl) (fun _ _ _ h => h) (Or.inl ⟨by rfl, ?_⟩) (by assumption) ?_
  rotate_left
  · intro w hSw
    try dsimp only at hSw
    go_simp
    try with_reducible rfl
  simp only [Act.put, List.setIfInBounds_toArray, List.set_cons_zero, List.set_cons_succ]
  refine wpAnyH_take (i := 14) (v := ?_) (at_list rfl) (by kernel_rfl) (by kernel_rfl) (by kernel_rfl) (fun _ _ _ h => h) (Or.inl ⟨by rfl, ?_⟩) (by assumption) ?_
  rotate_left
  · intro w hSw
    try dsimp only at hSw
    go_simp
    try with_reducible rfl
  simp only [Act.put, List.setIfInBounds_toArray, List.set_cons_zero, List.set_cons_succ]
  refine wpAnyH_take (i := 15) (v := ?_) (at_list rfl) (by kernel_rfl) (by kernel_rfl) (by kernel_rfl) (fun _ _ _ h => h) (Or.inl ⟨by rfl, ?_⟩) (by assumption) ?_
  rotate_left
  · intro w hSw
    try dsimp only at hSw
    go_simp
    try with_reducible rfl
  simp only [Act.put, List.setIfInBounds_toArray, List.set_cons_zero, List.set_cons_succ]
  refine wpAnyH_take (i := 16) (v := ?_) (at_list rfl) (by kernel_rfl) (by kernel_rfl) (by kernel_rfl) (fun _ _ _ h => h) (Or.inl ⟨by rfl, ?_⟩) (by assumption) ?_
  rotate_left
  · intro w hSw
    try dsimp only at hSw
    go_simp
    try with_reducible rfl
  simp only [Act.put, List.setIfInBounds_toArray, List.set_cons_zero, List.set_cons_succ]
  refine wpAnyH_take (i := 17) (v := ?_) (at_list rfl) (by kernel_rfl) (by kernel_rfl) (by kernel_rfl) (fun _ _ _ h => h) (Or.inl ⟨by rfl, ?_⟩) (by assumption) ?_
  rotate_left
  · intro w hSw
    try dsimp only at hSw
    go_simp
    try with_reducible rfl
  simp only [Act.put, List.setIfInBounds_toArray, List.set_cons_zero, List.set_cons_succ]
  refine wpAnyH_take (i := 18) (v := ?_) (at_list rfl) (by kernel_rfl) (by kernel_rfl) (by kernel_rfl) (fun _ _ _ h => h) (Or.inl ⟨by rfl, ?_⟩) (by assumption) ?_
  rotate_left
  · intro w hSw
    try dsimp only at hSw
    go_simp
    try with_reducible rfl
  simp only [Act.put, List.setIfInBounds_toArray, List.set_cons_zero, List.set_cons_succ]
  refine wpAnyH_take (i := 19) (v := ?_) (at_list rfl) (by kernel_rfl) (by kernel_rfl) (by kernel_rfl) (fun _ _ _ h => h) (Or.inl ⟨by rfl, ?_⟩) (by assumption) ?_
  rotate_left
  · intro w hSw
    try dsimp only at hSw
    go_simp
    try with_reducible rfl
  simp only [Act.put, List.setIfInBounds_toArray, List.set_cons_zero, List.set_cons_succ]
  refine wpAnyH_take (i := 20) (v := ?_) (at_list rfl) (by kernel_rfl) (by kernel_rfl) (by kernel_rfl) (fun _ _ _ h => h) (Or.inl ⟨by rfl, ?_⟩) (by assumption) ?_
  rotate_left
  · intro w hSw
    try dsimp only at hSw
    go_simp
    try with_reducible rfl
  simp only [Act.put, List.setIfInBounds_toArray, List.set_cons_zero, List.set_cons_succ]
  refine wpAnyH_take (i := 21) (v := ?_) (at_list rfl) (by kernel_rfl) (by kernel_rfl) (by kernel_rfl) (fun _ _ _ h => h) (Or.inl ⟨by rfl, ?_⟩) (by assumption) ?_
  rotate_left
  · intro w hSw
    try dsimp only at hSw
    go_simp
    try with_reducible rfl
  simp only [Act.put, List.setIfInBounds_toArray, List.set_cons_zero, List.set_cons_succ]
  refine wpAnyH_take (i := 22) (v := ?_) (at_list rfl) (by kernel_rfl) (by kernel_rfl) (by kernel_rfl) (fun _ _ _ h => h) (Or.inl ⟨by rfl, ?_⟩) (by assumption) ?_
  rotate_left
  · intro w hSw
    try dsimp only at hSw
    go_simp
    try with_reducible rfl
  simp only [Act.put, List.setIfInBounds_toArray, List.set_cons_zero, List.set_cons_succ]
  refine wpAnyH_ready (rs := [12]) (by kernel_rfl) (by simp) ?_
  refine AllReadyH.cons (at_list rfl) (fun KK hKK => ?_) AllReadyH.nil
  go_simp
  refine hKK.out _ _ ?_ (fun hHeld2 => ?_)
  · try dsimp only
    exact FS.out _ (by repeat (first | exact Only.refl _ _ | exact QS7.out | exact QS6.out | refine Only.drewN ?_ _ | refine Only.drew ?_ | refine Only.alloc ?_ _ | refine Only.setCell (S := (· = g)) ?_ (fun _ => rfl) _))
  clear hKK KK hHeld
  rename _ => hHeld
  try simp only [Act.put, List.setIfInBounds_toArray, List.set_cons_zero, List.set_cons_succ]
  refine wpAnyH_take (i := 23) (v := ?_) (at_list rfl) (by kernel_rfl) (by kernel_rfl) (by kernel_rfl) (fun _ _ _ h => h) (Or.inl ⟨by rfl, ?_⟩) (by assumption) ?_
  rotate_left
  · intro w hSw
    try dsimp only at hSw
    go_simp
    try with_reducible rfl
  simp only [Act.put, List.setIfInBounds_toArray, List.set_cons_zero, List.set_cons_succ]
  refine wpAnyH_ready (rs := [24]) (by kernel_rfl) (by simp) ?_
  refine AllReadyH.cons (at_list rfl) (fun KK hKK => ?_) AllReadyH.nil
  go_simp
  go_at_call 30
  refine (rword_at _ _).mono ?_
  rintro e w6 ⟨rfl, hq6⟩
  have Q6 := Lib.hid (show Quiet w4 w6 from Only.trans (by repeat (first | exact Only.refl _ _ | exact Q7.out | exact Q6.out | refine Only.drewN ?_ _ | refine Only.drew ?_ | refine Only.alloc ?_ _)) hq6)
  have QS6 := Lib.hid (show Only (· = g) w4 w6 from Only.mono Q6.out (fun _ _ x => x.elim))
  obtain ⟨y1, y2, y3, y4, y5, y6, y7⟩ := FC.out w6 Q6.out
  clear hq6
  try go_wp2_with fail
  refine hKK.out _ _ ?_ (fun hHeld2 => ?_)
  · try dsimp only
    exact FS.out _ (by repeat (first | exact Only.refl _ _ | exact QS7.out | exact QS6.out | refine Only.drewN ?_ _ | refine Only.drew ?_ | refine Only.alloc ?_ _ | refine Only.setCell (S := (· = g)) ?_ (fun _ => rfl) _))
  clear hKK KK hHeld
  rename _ => hHeld
  try simp only [Act.put, List.setIfInBounds_toArray, List.set_cons_zero, List.set_cons_succ]
  refine wpAnyH_take (i := 25) (v := ?_) (at_list rfl) (by kernel_rfl) (by kernel_rfl) (by kernel_rfl) (fun _ _ _ h => h) (Or.inl ⟨by rfl, ?_⟩) (by assumption) ?_
  rotate_left
  · intro w hSw
    try dsimp only at hSw
    go_simp
    try with_reducible rfl
  simp only [Act.put, List.setIfInBounds_toArray, List.set_cons_zero, List.set_cons_succ]
  refine wpAnyH_take (i := 26) (v := ?_) (at_list rfl) (by kernel_rfl) (by kernel_rfl) (by kernel_rfl) (fun _ _ _ h => h) (Or.inl ⟨by rfl, ?_⟩) (by assumption) ?_
  rotate_left
  · intro w hSw
    try dsimp only at hSw
    go_simp
    try with_reducible rfl
  simp only [Act.put, List.setIfInBounds_toArray, List.set_cons_zero, List.set_cons_succ]
  refine wpAnyH_ready (rs := [27]) (by kernel_rfl) (by simp) ?_
  refine AllReadyH.cons (at_list rfl) (fun KK hKK => ?_) AllReadyH.nil
  go_simp
  refine hKK.out _ _ ?_ (fun hHeld2 => ?_)
  · try dsimp only
    exact FS.out _ (by repeat (first | exact Only.refl _ _ | exact QS7.out | exact QS6.out | refine Only.drewN ?_ _ | refine Only.drew ?_ | refine Only.alloc ?_ _ | refine Only.setCell (S := (· = g)) ?_ (fun _ => rfl) _))
  clear hKK KK hHeld
  rename _ => hHeld
  try simp only [Act.put, List.setIfInBounds_toArray, List.set_cons_zero, List.set_cons_succ]
  refine wpAnyH_done (by kernel_rfl) ?_ _
  refine NoPanic.normal ?_
  obtain ⟨hm5, ho5⟩ := (H4.out.quiet Q6.out).setTask HT4.out HV4.out ⟨t.A, t.c, t.all, t.next + 1, w32 (t.has + v)⟩ 2 (.int .i64 (w32 (t.has + v))) (by decide) (by simp [rtc]) ⟨rfl, rfl, rfl⟩ ⟨Nat.le_refl _, by have := HNX.out; have := HL.out; show t.next + 1 ≤ t.all.length; omega⟩ (in32_w32 _)
  have H7 := Lib.hid hm5
  have O7 := Lib.hid (RSide.trans O4.out (RSide.trans (RSide.quiet Q6.out) ho5))
  have HB7 := Lib.hid (blk_far (Q6.out.keep HB4.out (fun x => x)) (p := ⟨g, i * 3 + 2, none⟩) HBG.out (.int .i64 (w32 (t.has + v))))
  clear hm5 ho5 hHeld FS FC QS6 Q6 y1 y2 y3 y4 y5 y6 y7
  clear ghs c2 c5 gxs yv yc x0 x1 x2 hbs s4 s0 s1 s2 hgs hfg hpg hbg4 hhg hxg hfh hbh hph iw m0 hac hcc hcm hxle hxcm a0 a1 pz2 pz3
  generalize w6.setCell ⟨g, i * 3 + 2, none⟩ (.int .i64 (w32 (t.has + v))) = w7 at H7 O7 HB7 ⊢
  have x1 : w7.cell? ⟨b, 1, none⟩ = some (.int .i64 (a : Int)) := blk_cell HB7.out 1
  have hbs : b < w7.heap.size := lt_of_heap HB7.out
  have hq1k : ((setT (setT W i ⟨t.all.drop (t.next + 1), t.has⟩) i ⟨t.all.drop (t.next + 1), w32 (t.has + v)⟩)).pipes[a]? = some q := HQ.out
  obtain ⟨X2, ghk, ohk, gzk, ozk, hX0k, hXlk, hgA0k, ghsk, hac0k, hcc0k, hcm0k, yck, hzAk, gzsk, hazk, hzck, hzmk, hzxk⟩ := H7.out.chan hq1k
  have hXk : M.cs[a]? = some X2 := hX0k
  have hgAk : M.gA = some ⟨ghk, ohk, none⟩ := hgA0k
  have hack : a < M.cs.length := hac0k
  have hcck : M.cs.length ≤ M.gc := hcc0k
  have hcmk : M.gc ≤ maxLen := hcm0k
  have c2k : w7.cell? ⟨M.p, 2, none⟩ = some (.slice M.gA M.cs.length M.gc) := H7.out.head.2.2.1
  have c5k : M.p < w7.heap.size := H7.out.head.2.2.2.2.2
  have hsxk : Sl w7 3 X2.A X2.l.length X2.c (i64s X2.l) := H7.out.rows X2 (List.mem_of_getElem? (i := a + 3) hX0k)
  obtain ⟨pz1k, pz2k, pz3k, pz4k⟩ := H7.out.fit.pz q (List.mem_of_getElem? hq1k)
  rw [hgAk] at c2k
  obtain ⟨cuhk, hcuhk⟩ := H7.out.chans.type (k := ghk) ⟨_, hgAk, rfl⟩
  rw [hXlk] at hsxk
  have hnrk : ¬ RowOf X2.A ghk := fun k => by obtain ⟨cu2, hc2⟩ := hsxk.type k; exact blk_ne hc2 hcuhk (by decide) rfl
  have hbrk : ¬ RowOf X2.A b := fun k => by obtain ⟨cu2, hc2⟩ := hsxk.type k; exact blk_ne hc2 HB7.out (by decide) rfl
  have hprk : ¬ RowOf X2.A M.p := fun k => by obtain ⟨cu2, hc2⟩ := hsxk.type k; exact blk_ne hc2 H7.out.blk (by decide) rfl
  have hbhk : b ≠ ghk := blk_ne HB7.out hcuhk (by decide)
  have hphk : M.p ≠ ghk := blk_ne H7.out.blk hcuhk (by decide)
  have hfhk : w7.frozen? ⟨ghk, ohk + a, none⟩ = false := blk_frozen hcuhk _
  have HXk := Lib.hid hXk
  have HGAk := Lib.hid hgAk
  have HQ1k := Lib.hid hq1k
  obtain ⟨nck, hnck⟩ : ∃ n, n = M.cs.length := ⟨_, rfl⟩
  obtain ⟨cck, hccqk⟩ : ∃ n, n = M.gc := ⟨_, rfl⟩
  rw [← hnck, ← hccqk] at c2k
  rw [← hnck] at hack hcck
  rw [← hccqk] at hcck hcmk
  unfold maxLen at hcmk
  have hxlek := hsxk.le
  have hxcmk := hsxk.capLe
  unfold maxLen at hxcmk
  have a0k : (0 : Int) ≤ (a : Int) := by omega
  have a1k : (a : Int) < (nck : Int) := by omega
  clear hX0k hgA0k hac0k hcc0k hcm0k hzAk gzsk hazk hzck hzmk hzxk hXlk hXk hgAk hnck hccqk hq1k
  obtain rfl : X1 = X2 := Option.some.inj (HX.out.symm.trans HXk.out)
  have hcc := HCC.out
  have hqm : q.l.length = m + 1 := by rw [HLL.out, HM.out]; rfl
  rw [hqm, HXA.out] at yck
  rw [hqm] at hxlek pz3k
  have hcut := hsxk.cut (m := 1) (by omega)
  rw [if_neg (by simpa using hcc), HXA.out, Option.map_some, Addr.add_lit] at hcut
  rw [show (i64s q.l).drop 1 = i64s rest by rw [HLL.out]; rfl, hqm, Nat.add_sub_cancel] at hcut
  have HSRC := Lib.hid (fun (V : World) (hV : Quiet w7 V) => (hcut.only hV (fun _ _ x => x)).src)
  have HFF := Lib.hid (H7.out.fit.setP a (p := ⟨rest, q.size⟩) ⟨pz1k, pz2k, by have := HM.out; show (rest.length : Int) ≤ q.size; omega, fun x hx => pz4k x (by rw [HLL.out]; exact .tail _ hx)⟩)
  obtain ⟨i3, h30, h31, h32, h33⟩ := info_parts Try.info3
  have FS := Lib.hid (fun (V : World) (hV : Only (· = ghk) w7 V) => show V.cell? ⟨M.p, 2, none⟩ = some (.slice (some ⟨ghk, ohk, none⟩) nck cck) ∧ V.cell? ⟨b, 1, none⟩ = some (.int .i64 (a : Int)) from
    ⟨(hV.cell (p := ⟨M.p, 2, none⟩) c5k hphk).trans c2k, (hV.cell (p := ⟨b, 1, none⟩) hbs hbhk).trans x1⟩)
  have FC := Lib.hid (fun (V : World) (hV : Quiet w7 V) => show V.cell? ⟨ghk, ohk + a, none⟩ = some (.slice (some ⟨gx, ox, none⟩) (m + 1) X1.c) ∧ V.frozen? ⟨ghk, ohk + a, none⟩ = false ∧ ghk < V.heap.size ∧ M.p < V.heap.size ∧ b < V.heap.size from
    ⟨(hV.cell (p := ⟨ghk, ohk + a, none⟩) ghsk (fun x => x)).trans yck, blk_frozen (hV.keep hcuhk (fun x => x)) _, Nat.lt_of_lt_of_le ghsk hV.size, Nat.lt_of_lt_of_le c5k hV.size, Nat.lt_of_lt_of_le hbs hV.size⟩)
  have HNM := Lib.hid hqm
  have m0 : (0 : Int) < (m : Int) + 1 := by omega
  have m1 : (1 : Int) ≤ (m : Int) + 1 := by omega
  have hcc2 : X1.c ≠ 1 := by simpa using hcc
  clear hsxk hcut hcuhk hqm hnrk hbrk hprk pz4k pz1k
  go_wp2_with fail
  refine wp_region_noPanic ?_
  refine wp_region_held_drew (S := (fun w' => w'.cell? ⟨M.p, 2, none⟩ = some (.slice (some ⟨ghk, ohk, none⟩) nck cck) ∧ w'.cell? ⟨b, 1, none⟩ = some (.int .i64 (a : Int)))) (by kernel_rfl) ?_ (fun hHeld => ?_)
  · try dsimp only
    exact FS.out _ (by repeat (first | exact Only.refl _ _ | exact QS8.out | refine Only.drewN ?_ _ | refine Only.drew ?_ | refine Only.alloc ?_ _ | refine Only.setCell (S := (· = ghk)) ?_ (fun _ => rfl) _))
  refine wpAnyH_take (i := 0) (v := ?_) (at_list rfl) (by kernel_rfl) (by kernel_rfl) (by kernel_rfl) (fun _ _ _ h => h) (Or.inl ⟨by rfl, ?_⟩) (by assumption) ?_
  rotate_left
  · intro w hSw
    try dsimp only at hSw
    go_simp
    try with_reducible rfl
  simp only [Act.put, List.setIfInBounds_toArray, List.set_cons_zero, List.set_cons_succ]
  refine wpAnyH_take (i := 1) (v := ?_) (at_list rfl) (by kernel_rfl) (by kernel_rfl) (by kernel_rfl) (fun _ _ _ h => h) (Or.inl ⟨by rfl, ?_⟩) (by assumption) ?_
  rotate_left
  · intro w hSw
    try dsimp only at hSw
    go_simp
    try with_reducible rfl
  simp only [Act.put, List.setIfInBounds_toArray, List.set_cons_zero, List.set_cons_succ]
  refine wpAnyH_take (i := 2) (v := ?_) (at_list rfl) (by kernel_rfl) (by kernel_rfl) (by kernel_rfl) (fun _ _ _ h => h) (Or.inl ⟨by rfl, ?_⟩) (by assumption) ?_
  rotate_left
  · intro w hSw
    try dsimp only at hSw
    go_simp
    try with_reducible rfl
  simp only [Act.put, List.setIfInBounds_toArray, List.set_cons_zero, List.set_cons_succ]
  refine wpAnyH_take (i := 3) (v := ?_) (at_list rfl) (by kernel_rfl) (by kernel_rfl) (by kernel_rfl) (fun _ _ _ h => h) (Or.inl ⟨by rfl, ?_⟩) (by assumption) ?_
  rotate_left
  · intro w hSw
    try dsimp only at hSw
    go_simp
    try with_reducible rfl
  simp only [Act.put, List.setIfInBounds_toArray, List.set_cons_zero, List.set_cons_succ]
  refine wpAnyH_take (i := 4) (v := ?_) (at_list rfl) (by kernel_rfl) (by kernel_rfl) (by kernel_rfl) (fun _ _ _ h => h) (Or.inl ⟨by rfl, ?_⟩) (by assumption) ?_
  rotate_left
  · intro w hSw
    try dsimp only at hSw
    go_simp
    try with_reducible rfl
  simp only [Act.put, List.setIfInBounds_toArray, List.set_cons_zero, List.set_cons_succ]
  refine wpAnyH_take (i := 5) (v := ?_) (at_list rfl) (by kernel_rfl) (by kernel_rfl) (by kernel_rfl) (fun _ _ _ h => h) (Or.inl ⟨by rfl, ?_⟩) (by assumption) ?_
  rotate_left
  · intro w hSw
    try dsimp only at hSw
    go_simp
    try with_reducible rfl
  simp only [Act.put, List.setIfInBounds_toArray, List.set_cons_zero, List.set_cons_succ]
  refine wpAnyH_take (i := 7) (v := ?_) (at_list rfl) (by kernel_rfl) (by kernel_rfl) (by kernel_rfl) (fun _ _ _ h => h) (Or.inl ⟨by rfl, ?_⟩) (by assumption) ?_
  rotate_left
  · intro w hSw
    try dsimp only at hSw
    go_simp
    try with_reducible rfl
  simp only [Act.put, List.setIfInBounds_toArray, List.set_cons_zero, List.set_cons_succ]
  refine wpAnyH_take (i := 8) (v := ?_) (at_list rfl) (by kernel_rfl) (by kernel_rfl) (by kernel_rfl) (fun _ _ _ h => h) (Or.inl ⟨by rfl, ?_⟩) (by assumption) ?_
  rotate_left
  · intro w hSw
    try dsimp only at hSw
    go_simp
    try with_reducible rfl
  simp only [Act.put, List.setIfInBounds_toArray, List.set_cons_zero, List.set_cons_succ]
  refine wpAnyH_take (i := 9) (v := ?_) (at_list rfl) (by kernel_rfl) (by kernel_rfl) (by kernel_rfl) (fun _ _ _ h => h) (Or.inl ⟨by rfl, ?_⟩) (by assumption) ?_
  rotate_left
  · intro w hSw
    try dsimp only at hSw
    go_simp
    try with_reducible rfl
  simp only [Act.put, List.setIfInBounds_toArray, List.set_cons_zero, List.set_cons_succ]
  refine wpAnyH_take (i := 10) (v := ?_) (at_list rfl) (by kernel_rfl) (by kernel_rfl) (by kernel_rfl) (fun _ _ _ h => h) (Or.inl ⟨by rfl, ?_⟩) (by assumption) ?_
  rotate_left
  · intro w hSw
    try dsimp only at hSw
    go_simp
    try with_reducible rfl
  simp only [Act.put, List.setIfInBounds_toArray, List.set_cons_zero, List.set_cons_succ]
  refine wpAnyH_take (i := 11) (v := ?_) (at_list rfl) (by kernel_rfl) (by kernel_rfl) (by kernel_rfl) (fun _ _ _ h => h) (Or.inl ⟨by rfl, ?_⟩) (by assumption) ?_
  rotate_left
  · intro w hSw
    try dsimp only at hSw
    go_simp
    try with_reducible rfl
  simp only [Act.put, List.setIfInBounds_toArray, List.set_cons_zero, List.set_cons_succ]
  refine wpAnyH_take (i := 12) (v := ?_) (at_list rfl) (by kernel_rfl) (by kernel_rfl) (by kernel_rfl) (fun _ _ _ h => h) (Or.inl ⟨by rfl, ?_⟩) (by assumption) ?_
  rotate_left
  · intro w hSw
    try dsimp only at hSw
    go_simp
    try with_reducible rfl
  simp only [Act.put, List.setIfInBounds_toArray, List.set_cons_zero, List.set_cons_succ]
  refine wpAnyH_take (i := 13) (v := ?_) (at_list rfl) (by kernel_rfl) (by kernel_rfl) (by kernel_rfl) (fun _ _ _ h => h) (Or.inl ⟨by rfl, ?_⟩) (by assumption) ?_
  rotate_left
  · intro w hSw
    try dsimp only at hSw
    go_simp
    try with_reducible rfl
  simp only [Act.put, List.setIfInBounds_toArray, List.set_cons_zero, List.set_cons_succ]
  refine wpAnyH_ready (rs := [6, 14]) (by kernel_rfl) (by simp) ?_
  refine AllReadyH.cons (at_list rfl) (fun KK hKK => ?_) (AllReadyH.cons (at_list rfl) (fun KK hKK => ?_) AllReadyH.nil)
  · skip
    go_simp
    refine hKK.out _ _ ?_ (fun hHeld2 => ?_)
    · try dsimp only
      exact FS.out _ (by repeat (first | exact Only.refl _ _ | exact QS8.out | refine Only.drewN ?_ _ | refine Only.drew ?_ | refine Only.alloc ?_ _ | refine Only.setCell (S := (· = ghk)) ?_ (fun _ => rfl) _))
    clear hKK KK hHeld
    rename _ => hHeld
    try simp only [Act.put, List.setIfInBounds_toArray, List.set_cons_zero, List.set_cons_succ]
    refine wpAnyH_ready (rs := [14]) (by kernel_rfl) (by simp) ?_
    refine AllReadyH.cons (at_list rfl) (fun KK hKK => ?_) AllReadyH.nil
    go_simp
    refine hKK.out _ _ ?_ (fun hHeld2 => ?_)
    · try dsimp only
      exact FS.out _ (by repeat (first | exact Only.refl _ _ | exact QS8.out | refine Only.drewN ?_ _ | refine Only.drew ?_ | refine Only.alloc ?_ _ | refine Only.setCell (S := (· = ghk)) ?_ (fun _ => rfl) _))
    clear hKK KK hHeld
    rename _ => hHeld
    try simp only [Act.put, List.setIfInBounds_toArray, List.set_cons_zero, List.set_cons_succ]
    refine wpAnyH_take (i := 15) (v := ?_) (at_list rfl) (by kernel_rfl) (by kernel_rfl) (by kernel_rfl) (fun _ _ _ h => h) (Or.inl ⟨by rfl, ?_⟩) (by assumption) ?_
    rotate_left
    · intro w hSw
      try dsimp only at hSw
      go_simp
      try with_reducible rfl
    simp only [Act.put, List.setIfInBounds_toArray, List.set_cons_zero, List.set_cons_succ]
    refine wpAnyH_ready (rs := [16]) (by kernel_rfl) (by simp) ?_
    refine AllReadyH.cons (at_list rfl) (fun KK hKK => ?_) AllReadyH.nil
    refine step_append_sl _ (by rfl) (.tmp 152) (.tmp 161) 44 (by rfl) 3 i3 (.int .i64 0) 8 Try.underlying44 h30 h31 h32 h33 rfl (some ⟨w7.heap.size, 0, none⟩) 0 0 [] (by rfl) (sl_empty (by repeat (first | exact blk_new' _ _ (by first | rfl | simp) | refine blk_drewN ?_ | refine blk_drew ?_ | refine blk_alloc ?_ _))) (some ⟨gx, ox + 1, none⟩) m (X1.c - 1) (i64s rest) (by rfl) (by rw [i64s_len, HM.out]) (HSRC.out _ (by repeat (first | exact Only.refl _ _ | exact Q8.out | refine Only.drewN ?_ _ | refine Only.drew ?_ | refine Only.alloc ?_ _))) nofun (i64s_one _) (by unfold maxLen; omega) (by omega) ?_
    intro A8 c8 w8 hs8 ho8 hr8
    rw [Nat.zero_add, List.nil_append] at hs8
    try simp only [Nat.zero_add]
    obtain ⟨hq8, hn8⟩ := fresh_app (w0 := w7) (by repeat (first | exact Only.refl _ _ | exact Q8.out | refine Only.drewN ?_ _ | refine Only.drew ?_ | refine Only.alloc ?_ _)) (Nat.le_refl _) ho8 hr8
    have HP := Lib.hid (RPost.after O7.out (chan_post (n := m) (c8 := c8) (A8 := A8) H7.out HQ1k.out HXk.out (Only.refl _ _) (Only.mono (T := RowOf X1.A) hq8 (fun _ _ x => x.elim)) HM.out hs8 (fun k hk => .inr (hn8 k hk)) HGAk.out HFF.out))
    have Q8 := Lib.hid hq8
    have QS8 := Lib.hid (show Only (· = ghk) w7 w8 from Only.mono hq8 (fun _ _ x => x.elim))
    obtain ⟨z1, z2, z3, z4, z5⟩ := FC.out w8 hq8
    clear hs8 ho8 hr8 hq8 hn8
    refine hKK.out _ _ ?_ (fun hHeld2 => ?_)
    · try dsimp only
      exact FS.out _ (by repeat (first | exact Only.refl _ _ | exact QS8.out | refine Only.drewN ?_ _ | refine Only.drew ?_ | refine Only.alloc ?_ _ | refine Only.setCell (S := (· = ghk)) ?_ (fun _ => rfl) _))
    clear hKK KK hHeld
    rename _ => hHeld
    try simp only [Act.put, List.setIfInBounds_toArray, List.set_cons_zero, List.set_cons_succ]
    refine wpAnyH_take (i := 17) (v := ?_) (at_list rfl) (by kernel_rfl) (by kernel_rfl) (by kernel_rfl) (fun _ _ _ h => h) (Or.inl ⟨by rfl, ?_⟩) (by assumption) ?_
    rotate_left
    · intro w hSw
      try dsimp only at hSw
      go_simp
      try with_reducible rfl
    simp only [Act.put, List.setIfInBounds_toArray, List.set_cons_zero, List.set_cons_succ]
    refine wpAnyH_ready (rs := [18]) (by kernel_rfl) (by simp) ?_
    refine AllReadyH.cons (at_list rfl) (fun KK hKK => ?_) AllReadyH.nil
    go_simp
    refine hKK.out _ _ ?_ (fun hHeld2 => ?_)
    · try dsimp only
      exact FS.out _ (by repeat (first | exact Only.refl _ _ | exact QS8.out | refine Only.drewN ?_ _ | refine Only.drew ?_ | refine Only.alloc ?_ _ | refine Only.setCell (S := (· = ghk)) ?_ (fun _ => rfl) _))
    clear hKK KK hHeld
    rename _ => hHeld
    try simp only [Act.put, List.setIfInBounds_toArray, List.set_cons_zero, List.set_cons_succ]
    refine wpAnyH_done (by kernel_rfl) ?_ _
    refine NoPanic.normal ?_
    go_wp2_with (go_at_call 23; refine (rstate HP.out.1 (i : Int)).mono ?_; rintro e w9 ⟨rfl, hq9⟩; have Q9 := Lib.hid hq9; clear hq9)
    go_ret2
    exact ⟨rfl, HP.out.quiet Q9.out⟩
  · skip
    go_simp
    refine hKK.out _ _ ?_ (fun hHeld2 => ?_)
    · try dsimp only
      exact FS.out _ (by repeat (first | exact Only.refl _ _ | exact QS8.out | refine Only.drewN ?_ _ | refine Only.drew ?_ | refine Only.alloc ?_ _ | refine Only.setCell (S := (· = ghk)) ?_ (fun _ => rfl) _))
    clear hKK KK hHeld
    rename _ => hHeld
    try simp only [Act.put, List.setIfInBounds_toArray, List.set_cons_zero, List.set_cons_succ]
    refine wpAnyH_take (i := 15) (v := ?_) (at_list rfl) (by kernel_rfl) (by kernel_rfl) (by kernel_rfl) (fun _ _ _ h => h) (Or.inl ⟨by rfl, ?_⟩) (by assumption) ?_
    rotate_left
    · intro w hSw
      try dsimp only at hSw
      go_simp
      try with_reducible rfl
    simp only [Act.put, List.setIfInBounds_toArray, List.set_cons_zero, List.set_cons_succ]
    refine wpAnyH_ready (rs := [6]) (by kernel_rfl) (by simp) ?_
    refine AllReadyH.cons (at_list rfl) (fun KK hKK => ?_) AllReadyH.nil
    go_simp
    refine hKK.out _ _ ?_ (fun hHeld2 => ?_)
    · try dsimp only
      exact FS.out _ (by repeat (first | exact Only.refl _ _ | exact QS8.out | refine Only.drewN ?_ _ | refine Only.drew ?_ | refine Only.alloc ?_ _ | refine Only.setCell (S := (· = ghk)) ?_ (fun _ => rfl) _))
    clear hKK KK hHeld
    rename _ => hHeld
    try simp only [Act.put, List.setIfInBounds_toArray, List.set_cons_zero, List.set_cons_succ]
    refine wpAnyH_ready (rs := [16]) (by kernel_rfl) (by simp) ?_
    refine AllReadyH.cons (at_list rfl) (fun KK hKK => ?_) AllReadyH.nil
    refine step_append_sl _ (by rfl) (.tmp 152) (.tmp 161) 44 (by rfl) 3 i3 (.int .i64 0) 8 Try.underlying44 h30 h31 h32 h33 rfl (some ⟨w7.heap.size, 0, none⟩) 0 0 [] (by rfl) (sl_empty (by repeat (first | exact blk_new' _ _ (by first | rfl | simp) | refine blk_drewN ?_ | refine blk_drew ?_ | refine blk_alloc ?_ _))) (some ⟨gx, ox + 1, none⟩) m (X1.c - 1) (i64s rest) (by rfl) (by rw [i64s_len, HM.out]) (HSRC.out _ (by repeat (first | exact Only.refl _ _ | exact Q8.out | refine Only.drewN ?_ _ | refine Only.drew ?_ | refine Only.alloc ?_ _))) nofun (i64s_one _) (by unfold maxLen; omega) (by omega) ?_
    intro A8 c8 w8 hs8 ho8 hr8
    rw [Nat.zero_add, List.nil_append] at hs8
    try simp only [Nat.zero_add]
    obtain ⟨hq8, hn8⟩ := fresh_app (w0 := w7) (by repeat (first | exact Only.refl _ _ | exact Q8.out | refine Only.drewN ?_ _ | refine Only.drew ?_ | refine Only.alloc ?_ _)) (Nat.le_refl _) ho8 hr8
    have HP := Lib.hid (RPost.after O7.out (chan_post (n := m) (c8 := c8) (A8 := A8) H7.out HQ1k.out HXk.out (Only.refl _ _) (Only.mono (T := RowOf X1.A) hq8 (fun _ _ x => x.elim)) HM.out hs8 (fun k hk => .inr (hn8 k hk)) HGAk.out HFF.out))
    have Q8 := Lib.hid hq8
    have QS8 := Lib.hid (show Only (· = ghk) w7 w8 from Only.mono hq8 (fun _ _ x => x.elim))
    obtain ⟨z1, z2, z3, z4, z5⟩ := FC.out w8 hq8
    clear hs8 ho8 hr8 hq8 hn8
    refine hKK.out _ _ ?_ (fun hHeld2 => ?_)
    · try dsimp only
      exact FS.out _ (by repeat (first | exact Only.refl _ _ | exact QS8.out | refine Only.drewN ?_ _ | refine Only.drew ?_ | refine Only.alloc ?_ _ | refine Only.setCell (S := (· = ghk)) ?_ (fun _ => rfl) _))
    clear hKK KK hHeld
    rename _ => hHeld
    try simp only [Act.put, List.setIfInBounds_toArray, List.set_cons_zero, List.set_cons_succ]
    refine wpAnyH_take (i := 17) (v := ?_) (at_list rfl) (by kernel_rfl) (by kernel_rfl) (by kernel_rfl) (fun _ _ _ h => h) (Or.inl ⟨by rfl, ?_⟩) (by assumption) ?_
    rotate_left
    · intro w hSw
      try dsimp only at hSw
      go_simp
      try with_reducible rfl
    simp only [Act.put, List.setIfInBounds_toArray, List.set_cons_zero, List.set_cons_succ]
    refine wpAnyH_ready (rs := [18]) (by kernel_rfl) (by simp) ?_
    refine AllReadyH.cons (at_list rfl) (fun KK hKK => ?_) AllReadyH.nil
    go_simp
    refine hKK.out _ _ ?_ (fun hHeld2 => ?_)
    · try dsimp only
      exact FS.out _ (by repeat (first | exact Only.refl _ _ | exact QS8.out | refine Only.drewN ?_ _ | refine Only.drew ?_ | refine Only.alloc ?_ _ | refine Only.setCell (S := (· = ghk)) ?_ (fun _ => rfl) _))
    clear hKK KK hHeld
    rename _ => hHeld
    try simp only [Act.put, List.setIfInBounds_toArray, List.set_cons_zero, List.set_cons_succ]
    refine wpAnyH_done (by kernel_rfl) ?_ _
    refine NoPanic.normal ?_
    go_wp2_with (go_at_call 23; refine (rstate HP.out.1 (i : Int)).mono ?_; rintro e w9 ⟨rfl, hq9⟩; have Q9 := Lib.hid hq9; clear hq9)
    go_ret2
    exact ⟨rfl, HP.out.quiet Q9.out⟩
end Go.Proofs.Ytgdjbmfpbihopaa
