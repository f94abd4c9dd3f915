/-
  What the program's do does: sending. No conditions.
-/
import Derived.Test.YtgdjbmfpbihopaaDo
namespace Go.Proofs.Ytgdjbmfpbihopaa
open Go.RowKit Go.MapKept
set_option linter.unusedVariables false
set_option linter.unusedSimpArgs false

theorem send_post {w W1 w3 : World} {M : TMem} (h : TAt w M) {j : Nat} {z : BR × Pipe} (hz : M.ps[j]? = some z) {gp n cap : Nat} (hv : M.vp = .slice (some ⟨gp, 0, none⟩) n cap) (hq : Quiet w W1) (hlt : (z.2.l.length : Int) < z.2.size)
    {A' : Option Addr} {c' N : Nat} (hN : N = z.2.l.length + 1) {b : Int} {x : Value} (hx : x = .int .i32 (w32 b)) (hsl : Sl w3 21 A' N c' (i32s z.2.l ++ [x])) (hon : Only (RowOf z.1.A) W1 w3) (hrow : ∀ k, RowOf A' k → RowOf z.1.A k ∨ W1.heap.size ≤ k) :
    DPost M w (setP M.wd j { z.2 with l := z.2.l ++ [w32 b] }) (w3.setCell ⟨gp, j * 2, none⟩ (.slice A' N c')) := by
  subst hN hx
  have h1 := h.quiet hq
  have hzm := List.mem_of_getElem? hz
  have hjl := (List.getElem?_eq_some_iff.1 hz).1
  have hzl := h1.pl z hzm
  obtain ⟨⟨cur, hg⟩, _⟩ := h1.pipes.kind (k := gp) (by rw [hv]; rfl)
  have hng : ¬ RowOf z.1.A gp := fun q => by
    obtain ⟨cu, hc⟩ := hzl.type q
    exact blk_ne hc hg (by decide) rfl
  have hg3 := hon.keep hg hng
  have own := h1.pipes.only hon (fun k hk q => by
    rw [hv] at hk
    obtain rfl := Option.some.inj hk
    exact hng q)
  rw [hv] at own
  have e := fl_set0 (f := pc) hz (⟨A', c'⟩, { z.2 with l := z.2.l ++ [w32 b] }) rfl
  have e2 : (pc (⟨A', c'⟩, { z.2 with l := z.2.l ++ [w32 b] })).1 = .slice A' (z.2.l.length + 1) c' := by simp [pc]
  rw [e2] at e
  have own2 := own.set (j := j * 2) (c := .slice A' (z.2.l.length + 1) c') (l' := M.ps.set j (⟨A', c'⟩, { z.2 with l := z.2.l ++ [w32 b] })) (by omega) e (by simp)
  rw [← hv] at own2
  have hset : Only (· = gp) w3 (w3.setCell ⟨gp, j * 2, none⟩ (.slice A' (z.2.l.length + 1) c')) := Only.setCell (S := (· = gp)) (p := ⟨gp, j * 2, none⟩) (Only.refl _ _) (fun _ => rfl) _
  obtain ⟨p1, p2, p3, p4⟩ := h.fit.pz z.2 (by simp only [TMem.wd]; exact List.mem_map_of_mem hzm)
  obtain ⟨t1, t2, t3⟩ := h1.pipe (y' := (⟨A', c'⟩, { z.2 with l := z.2.l ++ [w32 b] })) hz hv ((hon.mono fun k _ q => .inr q).trans (hset.mono fun k _ q => .inl q)) own2
    (by
      have := hsl.only hset (fun k hk q => by
        obtain ⟨cu, hc⟩ := hsl.type hk
        subst q
        exact blk_ne hc hg3 (by decide) rfl)
      simpa [i32s, i32] using this) hrow
    (h.fit.setP j ⟨p1, p2, by simp; omega, fun x hx => by
      rcases List.mem_append.1 hx with hx | hx
      · exact p4 x hx
      · obtain rfl := List.mem_singleton.1 hx
        exact in32_w32 _⟩)
  exact DPost.after hq ⟨_, t1, t2, rfl, rfl, t3⟩
set_option maxRecDepth 8000 in
set_option maxHeartbeats 4000000 in
theorem do_send {w : World} {M : TMem} (h : TAt w M) {i : Nat} {y : BR × Thr} (hy : M.ts[i]? = some y) (j : Nat) (b : Int) {z : BR × Pipe} (hz : M.ps[j]? = some z) (hlt : (z.2.l.length : Int) < z.2.size) :
    Calls Try.prog 27 #[.pointer (some ⟨M.p, 0, none⟩), .int .i64 (i : Int), .agg #[.int .i64 3, .int .i64 (j : Int), .int .i64 b]] w fun e w' => e = .returned (.int .i64 0) ∧ DPost M w (setP M.wd j { z.2 with l := z.2.l ++ [w32 b] }) w' := by
  obtain ⟨ii, hi0, hz0, hz1, hz2⟩ := info_parts Try.info21
  obtain ⟨⟨c0, c1, c2, c3, c4, c5⟩, ps, pf⟩ := h.cells
  have pf4 := pf 4
  obtain ⟨g, cap, hv, hcap, hcm, _, ⟨cur, hg⟩, r0, r1⟩ := h.tasks.row hy
  have gs := lt_of_heap hg
  have gf0 := blk_frozen hg (i * 2)
  have gf1 := blk_frozen hg (i * 2 + 1)
  simp only [tc] at r0 r1
  have hi : i < M.ts.length := (List.getElem?_eq_some_iff.1 hy).1
  have hsm := h.fit.tasks
  rw [h.tlen] at hsm
  rw [hv] at c5
  unfold maxLen at hcm
  obtain ⟨n, hn⟩ : ∃ n, n = M.ts.length := ⟨_, rfl⟩
  rw [← hn] at c5 hcap hi hsm
  have i0 : (0 : Int) ≤ (i : Int) := by omega
  have i1 : (i : Int) < (n : Int) := by omega
  have ps1 : M.p < w.heap.size + 1 := by omega
  have gs1 : g < w.heap.size + 1 := by omega
  obtain ⟨gp, capp, hvp, hcapp, hcmp, _, ⟨curp, hgp⟩, rp0, rp1⟩ := h.pipes.row hz
  have gps := lt_of_heap hgp
  have gpf0 := blk_frozen hgp (j * 2)
  simp only [pc] at rp0 rp1
  have hj : j < M.ps.length := (List.getElem?_eq_some_iff.1 hz).1
  have hsmp := h.fit.pipes
  rw [h.plen] at hsmp
  rw [hvp] at c4
  unfold maxLen at hcmp
  obtain ⟨np, hnp⟩ : ∃ np, np = M.ps.length := ⟨_, rfl⟩
  rw [← hnp] at c4 hcapp hj hsmp
  have j0 : (0 : Int) ≤ (j : Int) := by omega
  have j1 : (j : Int) < (np : Int) := by omega
  have gps1 : gp < w.heap.size + 1 := by omega
  have hzl := h.pl z (List.mem_of_getElem? hz)
  have hzle := hzl.le
  have hzcm := hzl.capLe
  unfold maxLen at hzcm
  have hfz := h.fit.pz z.2 (by simp only [TMem.wd]; exact List.mem_map_of_mem (List.mem_of_getElem? hz))
  obtain ⟨z1, z2, z3, _⟩ := hfz
  have ne1 : M.p ≠ gp := blk_ne h.blk hgp (by decide)
  have HZ := Lib.hid hz; clear hz
  have HVP := Lib.hid hvp; clear hvp
  have HNP := Lib.hid hnp; clear hnp
  have HZL := Lib.hid hzl; clear hzl
  obtain ⟨zn, hzn⟩ : ∃ zn, zn = z.2.l.length := ⟨_, rfl⟩
  rw [← hzn] at rp0 HZL hlt z3 hzle
  have HZN := Lib.hid hzn; clear hzn
  have H := Lib.hid h; clear h
  have HY := Lib.hid hy; clear hy
  have HV := Lib.hid hv; clear hv
  have HN := Lib.hid hn; clear hn
  clear pf hg
  clear c0 c1 c2 c3 r0 r1 rp1
  go_enter Try.func27, Try.ntmps27
  go_wp2
  have x1 : (w.alloc (.cells #[.int .i64 3, .int .i64 (j : Int), .int .i64 b] 41)).cell? ⟨w.heap.size, 1, none⟩ = some (.int .i64 (j : Int)) := blk_cell (blk_new _ _) 1
  have x2 : (w.alloc (.cells #[.int .i64 3, .int .i64 (j : Int), .int .i64 b] 41)).cell? ⟨w.heap.size, 2, none⟩ = some (.int .i64 b) := blk_cell (blk_new _ _) 2
  have y4 : (w.alloc (.cells #[.int .i64 3, .int .i64 (j : Int), .int .i64 b] 41)).cell? ⟨M.p, 4, none⟩ = some (.slice (some ⟨gp, 0, none⟩) np capp) := ((Only.refl (fun _ => False) w).alloc (.cells #[.int .i64 3, .int .i64 (j : Int), .int .i64 b] 41)).cell (p := ⟨M.p, 4, none⟩) ps (fun x => x) |>.trans c4
  have yp : (w.alloc (.cells #[.int .i64 3, .int .i64 (j : Int), .int .i64 b] 41)).cell? ⟨gp, j * 2, none⟩ = some (.slice z.1.A zn z.1.c) := ((Only.refl (fun _ => False) w).alloc (.cells #[.int .i64 3, .int .i64 (j : Int), .int .i64 b] 41)).cell (p := ⟨gp, j * 2, none⟩) gps (fun x => x) |>.trans rp0
  have QW := Lib.hid (show Quiet w (w.alloc (.cells #[.int .i64 3, .int .i64 (j : Int), .int .i64 b] 41)) from (Only.refl (fun _ => False) w).alloc (.cells #[.int .i64 3, .int .i64 (j : Int), .int .i64 b] 41))
  have HBOO := Lib.hid (show (w.alloc (.cells #[.int .i64 3, .int .i64 (j : Int), .int .i64 b] 41)).heap[w.heap.size]? = some (.cells #[.int .i64 3, .int .i64 (j : Int), .int .i64 b] 41) from blk_new _ _)
  have hws : (w.alloc (.cells #[.int .i64 3, .int .i64 (j : Int), .int .i64 b] 41)).heap.size = w.heap.size + 1 := by simp
  generalize w.alloc (.cells #[.int .i64 3, .int .i64 (j : Int), .int .i64 b] 41) = W at x1 x2 y4 yp QW HBOO hws ⊢
  obtain ⟨s, hs⟩ : ∃ s, s = w.heap.size := ⟨_, rfl⟩
  rw [← hs] at x1 x2 HBOO ⊢
  have HS := Lib.hid hs; clear hs
  have ne2 : s ≠ gp := blk_ne HBOO.out (QW.out.keep hgp (fun x => x)) (by decide)
  have wps : M.p < W.heap.size := by omega
  have wgs : gp < W.heap.size := by omega
  have wss : s < W.heap.size := by have := HS.out; omega
  have HWS := Lib.hid hws; clear hws hgp
  clear hcm c4 c5 rp0 i0 i1 hi hcap hsm gs1 ps1 gps1 gf0 gf1 gs gpf0 pf4 ps gps hcapp
  refine wp_region_noPanic ?_
  refine wp_region_held_drew (S := (fun w' => w'.cell? ⟨s, 1, none⟩ = some (.int .i64 (j : Int)) ∧ w'.cell? ⟨s, 2, none⟩ = some (.int .i64 b) ∧ w'.cell? ⟨M.p, 4, none⟩ = some (.slice (some ⟨gp, 0, none⟩) np capp))) (by kernel_rfl) ?_ (fun hHeld => ?_)
  · try dsimp only
    (first | exact ⟨x1, x2, y4⟩ | exact ⟨k1, k2, k3⟩ | exact ⟨(cell_far ne2 _ trivial).trans k1, (cell_far ne2 _ trivial).trans k2, (cell_far ne1 _ trivial).trans k3⟩ | go_keep)
  refine wpAnyH_take (i := 0) (v := ?_) (at_list rfl) (by kernel_rfl) (by kernel_rfl) (by kernel_rfl) (fun _ _ _ h => h) (Or.inl ⟨by rfl, ?_⟩) (by assumption) ?_
  rotate_left
  · intro w hSw
    try dsimp only at hSw
    go_simp
    try with_reducible rfl
  simp only [Act.put, List.setIfInBounds_toArray, List.set_cons_zero, List.set_cons_succ]
  refine wpAnyH_take (i := 1) (v := ?_) (at_list rfl) (by kernel_rfl) (by kernel_rfl) (by kernel_rfl) (fun _ _ _ h => h) (Or.inl ⟨by rfl, ?_⟩) (by assumption) ?_
  rotate_left
  · intro w hSw
    try dsimp only at hSw
    go_simp
    try with_reducible rfl
  simp only [Act.put, List.setIfInBounds_toArray, List.set_cons_zero, List.set_cons_succ]
  refine wpAnyH_take (i := 2) (v := ?_) (at_list rfl) (by kernel_rfl) (by kernel_rfl) (by kernel_rfl) (fun _ _ _ h => h) (Or.inl ⟨by rfl, ?_⟩) (by assumption) ?_
  rotate_left
  · intro w hSw
    try dsimp only at hSw
    go_simp
    try with_reducible rfl
  simp only [Act.put, List.setIfInBounds_toArray, List.set_cons_zero, List.set_cons_succ]
  refine wpAnyH_take (i := 3) (v := ?_) (at_list rfl) (by kernel_rfl) (by kernel_rfl) (by kernel_rfl) (fun _ _ _ h => h) (Or.inl ⟨by rfl, ?_⟩) (by assumption) ?_
  rotate_left
  · intro w hSw
    try dsimp only at hSw
    go_simp
    try with_reducible rfl
  simp only [Act.put, List.setIfInBounds_toArray, List.set_cons_zero, List.set_cons_succ]
  refine wpAnyH_take (i := 4) (v := ?_) (at_list rfl) (by kernel_rfl) (by kernel_rfl) (by kernel_rfl) (fun _ _ _ h => h) (Or.inl ⟨by rfl, ?_⟩) (by assumption) ?_
  rotate_left
  · intro w hSw
    try dsimp only at hSw
    go_simp
    try with_reducible rfl
  simp only [Act.put, List.setIfInBounds_toArray, List.set_cons_zero, List.set_cons_succ]
  refine wpAnyH_take (i := 5) (v := ?_) (at_list rfl) (by kernel_rfl) (by kernel_rfl) (by kernel_rfl) (fun _ _ _ h => h) (Or.inl ⟨by rfl, ?_⟩) (by assumption) ?_
  rotate_left
  · intro w hSw
    try dsimp only at hSw
    go_simp
    try with_reducible rfl
  simp only [Act.put, List.setIfInBounds_toArray, List.set_cons_zero, List.set_cons_succ]
  refine wpAnyH_take (i := 6) (v := ?_) (at_list rfl) (by kernel_rfl) (by kernel_rfl) (by kernel_rfl) (fun _ _ _ h => h) (Or.inl ⟨by rfl, ?_⟩) (by assumption) ?_
  rotate_left
  · intro w hSw
    try dsimp only at hSw
    go_simp
    try with_reducible rfl
  simp only [Act.put, List.setIfInBounds_toArray, List.set_cons_zero, List.set_cons_succ]
  refine wpAnyH_take (i := 7) (v := ?_) (at_list rfl) (by kernel_rfl) (by kernel_rfl) (by kernel_rfl) (fun _ _ _ h => h) (Or.inl ⟨by rfl, ?_⟩) (by assumption) ?_
  rotate_left
  · intro w hSw
    try dsimp only at hSw
    go_simp
    try with_reducible rfl
  simp only [Act.put, List.setIfInBounds_toArray, List.set_cons_zero, List.set_cons_succ]
  refine wpAnyH_take (i := 8) (v := ?_) (at_list rfl) (by kernel_rfl) (by kernel_rfl) (by kernel_rfl) (fun _ _ _ h => h) (Or.inl ⟨by rfl, ?_⟩) (by assumption) ?_
  rotate_left
  · intro w hSw
    try dsimp only at hSw
    go_simp
    try with_reducible rfl
  simp only [Act.put, List.setIfInBounds_toArray, List.set_cons_zero, List.set_cons_succ]
  refine wpAnyH_take (i := 9) (v := ?_) (at_list rfl) (by kernel_rfl) (by kernel_rfl) (by kernel_rfl) (fun _ _ _ h => h) (Or.inl ⟨by rfl, ?_⟩) (by assumption) ?_
  rotate_left
  · intro w hSw
    try dsimp only at hSw
    go_simp
    try with_reducible rfl
  simp only [Act.put, List.setIfInBounds_toArray, List.set_cons_zero, List.set_cons_succ]
  refine wpAnyH_take (i := 10) (v := ?_) (at_list rfl) (by kernel_rfl) (by kernel_rfl) (by kernel_rfl) (fun _ _ _ h => h) (Or.inl ⟨by rfl, ?_⟩) (by assumption) ?_
  rotate_left
  · intro w hSw
    try dsimp only at hSw
    go_simp
    try with_reducible rfl
  simp only [Act.put, List.setIfInBounds_toArray, List.set_cons_zero, List.set_cons_succ]
  refine wpAnyH_take (i := 11) (v := ?_) (at_list rfl) (by kernel_rfl) (by kernel_rfl) (by kernel_rfl) (fun _ _ _ h => h) (Or.inl ⟨by rfl, ?_⟩) (by assumption) ?_
  rotate_left
  · intro w hSw
    try dsimp only at hSw
    go_simp
    try with_reducible rfl
  simp only [Act.put, List.setIfInBounds_toArray, List.set_cons_zero, List.set_cons_succ]
  refine wpAnyH_take (i := 12) (v := ?_) (at_list rfl) (by kernel_rfl) (by kernel_rfl) (by kernel_rfl) (fun _ _ _ h => h) (Or.inl ⟨by rfl, ?_⟩) (by assumption) ?_
  rotate_left
  · intro w hSw
    try dsimp only at hSw
    go_simp
    try with_reducible rfl
  simp only [Act.put, List.setIfInBounds_toArray, List.set_cons_zero, List.set_cons_succ]
  refine wpAnyH_take (i := 13) (v := ?_) (at_list rfl) (by kernel_rfl) (by kernel_rfl) (by kernel_rfl) (fun _ _ _ h => h) (Or.inl ⟨by rfl, ?_⟩) (by assumption) ?_
  rotate_left
  · intro w hSw
    try dsimp only at hSw
    go_simp
    try with_reducible rfl
  simp only [Act.put, List.setIfInBounds_toArray, List.set_cons_zero, List.set_cons_succ]
  refine wpAnyH_take (i := 15) (v := ?_) (at_list rfl) (by kernel_rfl) (by kernel_rfl) (by kernel_rfl) (fun _ _ _ h => h) (Or.inl ⟨by rfl, ?_⟩) (by assumption) ?_
  rotate_left
  · intro w hSw
    try dsimp only at hSw
    go_simp
    try with_reducible rfl
  simp only [Act.put, List.setIfInBounds_toArray, List.set_cons_zero, List.set_cons_succ]
  refine wpAnyH_take (i := 16) (v := ?_) (at_list rfl) (by kernel_rfl) (by kernel_rfl) (by kernel_rfl) (fun _ _ _ h => h) (Or.inl ⟨by rfl, ?_⟩) (by assumption) ?_
  rotate_left
  · intro w hSw
    try dsimp only at hSw
    go_simp
    try with_reducible rfl
  simp only [Act.put, List.setIfInBounds_toArray, List.set_cons_zero, List.set_cons_succ]
  refine wpAnyH_take (i := 17) (v := ?_) (at_list rfl) (by kernel_rfl) (by kernel_rfl) (by kernel_rfl) (fun _ _ _ h => h) (Or.inl ⟨by rfl, ?_⟩) (by assumption) ?_
  rotate_left
  · intro w hSw
    try dsimp only at hSw
    go_simp
    try with_reducible rfl
  simp only [Act.put, List.setIfInBounds_toArray, List.set_cons_zero, List.set_cons_succ]
  refine wpAnyH_ready (rs := [14, 18]) (by kernel_rfl) (by simp) ?_
  refine AllReadyH.cons (at_list rfl) (fun KK hKK => ?_) (AllReadyH.cons (at_list rfl) (fun KK hKK => ?_) AllReadyH.nil)
  · skip
    go_simp
    refine hKK.out _ _ ?_ (fun hHeld2 => ?_)
    · try dsimp only
      (first | exact ⟨x1, x2, y4⟩ | exact ⟨k1, k2, k3⟩ | exact ⟨(cell_far ne2 _ trivial).trans k1, (cell_far ne2 _ trivial).trans k2, (cell_far ne1 _ trivial).trans k3⟩ | go_keep)
    clear hKK KK hHeld
    rename _ => hHeld
    try simp only [Act.put, List.setIfInBounds_toArray, List.set_cons_zero, List.set_cons_succ]
    refine wpAnyH_ready (rs := [18]) (by kernel_rfl) (by simp) ?_
    refine AllReadyH.cons (at_list rfl) (fun KK hKK => ?_) AllReadyH.nil
    go_simp
    refine hKK.out _ _ ?_ (fun hHeld2 => ?_)
    · try dsimp only
      (first | exact ⟨x1, x2, y4⟩ | exact ⟨k1, k2, k3⟩ | exact ⟨(cell_far ne2 _ trivial).trans k1, (cell_far ne2 _ trivial).trans k2, (cell_far ne1 _ trivial).trans k3⟩ | go_keep)
    clear hKK KK hHeld
    rename _ => hHeld
    try simp only [Act.put, List.setIfInBounds_toArray, List.set_cons_zero, List.set_cons_succ]
    refine wpAnyH_ready (rs := [19]) (by kernel_rfl) (by simp) ?_
    refine AllReadyH.cons (at_list rfl) (fun KK hKK => ?_) AllReadyH.nil
    refine step_append_sl _ (by rfl) (.tmp 71) (.tmp 75) 25 (by rfl) 21 ii (.int .i32 0) 4 Try.underlying25 hi0 hz0 hz1 hz2 rfl z.1.A zn z.1.c (i32s z.2.l) (by rfl) (HZL.out.only (F := fun _ => False) (Only.trans QW.out (by repeat (first | exact Only.refl _ _ | refine Only.drewN ?_ _ | refine Only.drew ?_ | refine Only.alloc ?_ _))) (fun _ _ h => h)) (some ⟨W.heap.size, 0, none⟩) 1 1 [_] (by rfl) rfl (src_one (by repeat (first | exact blk_new' _ _ rfl | refine blk_drewN ?_ | refine blk_drew ?_))) nofun (one_one rfl) (by unfold maxLen; omega) (by omega) ?_
    intro A' c' w3 hsl hon hrow
    obtain ⟨⟨k1, k2, k3, k4⟩, k5⟩ := send_keep H.out HZ.out HVP.out QW.out (by repeat (first | exact Only.refl _ _ | refine Only.drewN ?_ _ | refine Only.drew ?_ | refine Only.alloc ?_ _)) HBOO.out hon
    rw [HVP.out, ← HNP.out] at k3
    rw [← HZN.out] at k4
    have HSL := Lib.hid hsl
    have HON := Lib.hid hon
    have HROW := Lib.hid hrow
    clear hsl hon hrow
    refine hKK.out _ _ ?_ (fun hHeld2 => ?_)
    · try dsimp only
      (first | exact ⟨x1, x2, y4⟩ | exact ⟨k1, k2, k3⟩ | exact ⟨(cell_far ne2 _ trivial).trans k1, (cell_far ne2 _ trivial).trans k2, (cell_far ne1 _ trivial).trans k3⟩ | go_keep)
    clear hKK KK hHeld
    rename _ => hHeld
    try simp only [Act.put, List.setIfInBounds_toArray, List.set_cons_zero, List.set_cons_succ]
    refine wpAnyH_take (i := 20) (v := ?_) (at_list rfl) (by kernel_rfl) (by kernel_rfl) (by kernel_rfl) (fun _ _ _ h => h) (Or.inl ⟨by rfl, ?_⟩) (by assumption) ?_
    rotate_left
    · intro w hSw
      try dsimp only at hSw
      go_simp
      try with_reducible rfl
    simp only [Act.put, List.setIfInBounds_toArray, List.set_cons_zero, List.set_cons_succ]
    refine wpAnyH_take (i := 21) (v := ?_) (at_list rfl) (by kernel_rfl) (by kernel_rfl) (by kernel_rfl) (fun _ _ _ h => h) (Or.inl ⟨by rfl, ?_⟩) (by assumption) ?_
    rotate_left
    · intro w hSw
      try dsimp only at hSw
      go_simp
      try with_reducible rfl
    simp only [Act.put, List.setIfInBounds_toArray, List.set_cons_zero, List.set_cons_succ]
    refine wpAnyH_ready (rs := [22]) (by kernel_rfl) (by simp) ?_
    refine AllReadyH.cons (at_list rfl) (fun KK hKK => ?_) AllReadyH.nil
    go_simp
    refine hKK.out _ _ ?_ (fun hHeld2 => ?_)
    · try dsimp only
      (first | exact ⟨x1, x2, y4⟩ | exact ⟨k1, k2, k3⟩ | exact ⟨(cell_far ne2 _ trivial).trans k1, (cell_far ne2 _ trivial).trans k2, (cell_far ne1 _ trivial).trans k3⟩ | go_keep)
    clear hKK KK hHeld
    rename _ => hHeld
    try simp only [Act.put, List.setIfInBounds_toArray, List.set_cons_zero, List.set_cons_succ]
    refine wpAnyH_done (by kernel_rfl) ?_ _
    refine NoPanic.normal ?_
    go_wp2
    go_ret
    exact ⟨rfl, send_post H.out HZ.out HVP.out (Only.trans QW.out (by repeat (first | exact Only.refl _ _ | refine Only.drewN ?_ _ | refine Only.drew ?_ | refine Only.alloc ?_ _))) (by have := HZN.out; omega) (by have := HZN.out; omega) (congrArg (Value.int .i32) (w32_wrap b)) HSL.out HON.out HROW.out⟩
  · skip
    go_simp
    refine hKK.out _ _ ?_ (fun hHeld2 => ?_)
    · try dsimp only
      (first | exact ⟨x1, x2, y4⟩ | exact ⟨k1, k2, k3⟩ | exact ⟨(cell_far ne2 _ trivial).trans k1, (cell_far ne2 _ trivial).trans k2, (cell_far ne1 _ trivial).trans k3⟩ | go_keep)
    clear hKK KK hHeld
    rename _ => hHeld
    try simp only [Act.put, List.setIfInBounds_toArray, List.set_cons_zero, List.set_cons_succ]
    refine wpAnyH_ready (rs := [14]) (by kernel_rfl) (by simp) ?_
    refine AllReadyH.cons (at_list rfl) (fun KK hKK => ?_) AllReadyH.nil
    go_simp
    refine hKK.out _ _ ?_ (fun hHeld2 => ?_)
    · try dsimp only
      (first | exact ⟨x1, x2, y4⟩ | exact ⟨k1, k2, k3⟩ | exact ⟨(cell_far ne2 _ trivial).trans k1, (cell_far ne2 _ trivial).trans k2, (cell_far ne1 _ trivial).trans k3⟩ | go_keep)
    clear hKK KK hHeld
    rename _ => hHeld
    try simp only [Act.put, List.setIfInBounds_toArray, List.set_cons_zero, List.set_cons_succ]
    refine wpAnyH_ready (rs := [19]) (by kernel_rfl) (by simp) ?_
    refine AllReadyH.cons (at_list rfl) (fun KK hKK => ?_) AllReadyH.nil
    refine step_append_sl _ (by rfl) (.tmp 71) (.tmp 75) 25 (by rfl) 21 ii (.int .i32 0) 4 Try.underlying25 hi0 hz0 hz1 hz2 rfl z.1.A zn z.1.c (i32s z.2.l) (by rfl) (HZL.out.only (F := fun _ => False) (Only.trans QW.out (by repeat (first | exact Only.refl _ _ | refine Only.drewN ?_ _ | refine Only.drew ?_ | refine Only.alloc ?_ _))) (fun _ _ h => h)) (some ⟨W.heap.size, 0, none⟩) 1 1 [_] (by rfl) rfl (src_one (by repeat (first | exact blk_new' _ _ rfl | refine blk_drewN ?_ | refine blk_drew ?_))) nofun (one_one rfl) (by unfold maxLen; omega) (by omega) ?_
    intro A' c' w3 hsl hon hrow
    obtain ⟨⟨k1, k2, k3, k4⟩, k5⟩ := send_keep H.out HZ.out HVP.out QW.out (by repeat (first | exact Only.refl _ _ | refine Only.drewN ?_ _ | refine Only.drew ?_ | refine Only.alloc ?_ _)) HBOO.out hon
    rw [HVP.out, ← HNP.out] at k3
    rw [← HZN.out] at k4
    have HSL := Lib.hid hsl
    have HON := Lib.hid hon
    have HROW := Lib.hid hrow
    clear hsl hon hrow
    refine hKK.out _ _ ?_ (fun hHeld2 => ?_)
    · try dsimp only
      (first | exact ⟨x1, x2, y4⟩ | exact ⟨k1, k2, k3⟩ | exact ⟨(cell_far ne2 _ trivial).trans k1, (cell_far ne2 _ trivial).trans k2, (cell_far ne1 _ trivial).trans k3⟩ | go_keep)
    clear hKK KK hHeld
    rename _ => hHeld
    try simp only [Act.put, List.setIfInBounds_toArray, List.set_cons_zero, List.set_cons_succ]
    refine wpAnyH_take (i := 20) (v := ?_) (at_list rfl) (by kernel_rfl) (by kernel_rfl) (by kernel_rfl) (fun _ _ _ h => h) (Or.inl ⟨by rfl, ?_⟩) (by assumption) ?_
    rotate_left
    · intro w hSw
      try dsimp only at hSw
      go_simp
      try with_reducible rfl
    simp only [Act.put, List.setIfInBounds_toArray, List.set_cons_zero, List.set_cons_succ]
    refine wpAnyH_take (i := 21) (v := ?_) (at_list rfl) (by kernel_rfl) (by kernel_rfl) (by kernel_rfl) (fun _ _ _ h => h) (Or.inl ⟨by rfl, ?_⟩) (by assumption) ?_
    rotate_left
    · intro w hSw
      try dsimp only at hSw
      go_simp
      try with_reducible rfl
    simp only [Act.put, List.setIfInBounds_toArray, List.set_cons_zero, List.set_cons_succ]
    refine wpAnyH_ready (rs := [22]) (by kernel_rfl) (by simp) ?_
    refine AllReadyH.cons (at_list rfl) (fun KK hKK => ?_) AllReadyH.nil
    go_simp
    refine hKK.out _ _ ?_ (fun hHeld2 => ?_)
    · try dsimp only
      (first | exact ⟨x1, x2, y4⟩ | exact ⟨k1, k2, k3⟩ | exact ⟨(cell_far ne2 _ trivial).trans k1, (cell_far ne2 _ trivial).trans k2, (cell_far ne1 _ trivial).trans k3⟩ | go_keep)
    clear hKK KK hHeld
    rename _ => hHeld
    try simp only [Act.put, List.setIfInBounds_toArray, List.set_cons_zero, List.set_cons_succ]
    refine wpAnyH_done (by kernel_rfl) ?_ _
    refine NoPanic.normal ?_
    go_wp2
    go_ret
    exact ⟨rfl, send_post H.out HZ.out HVP.out (Only.trans QW.out (by repeat (first | exact Only.refl _ _ | refine Only.drewN ?_ _ | refine Only.drew ?_ | refine Only.alloc ?_ _))) (by have := HZN.out; omega) (by have := HZN.out; omega) (congrArg (Value.int .i32) (w32_wrap b)) HSL.out HON.out HROW.out⟩
end Go.Proofs.Ytgdjbmfpbihopaa
