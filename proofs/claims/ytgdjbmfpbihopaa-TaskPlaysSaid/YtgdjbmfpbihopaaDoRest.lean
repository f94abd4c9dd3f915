/-
  What the program's do does: adding, loading, receiving. No conditions.
-/
import Derived.Test.YtgdjbmfpbihopaaDoSend
namespace Go.Proofs.Ytgdjbmfpbihopaa
open Go.RowKit Go.MapKept
set_option linter.unusedVariables false
set_option linter.unusedSimpArgs false

theorem add_post {w W : World} {M : TMem} (h : TAt w M) (hq : Quiet w W) {g off c j : Nat} {x : Int} (hA : M.wr.A = some ⟨g, off, none⟩) (hj : j < M.words.length) {u : Int} (hu : In32 u) :
    DPost M w { M.wd with words := M.words.set j u } (W.setCell ⟨g, off + j, none⟩ (.int .i32 u)) := by
  have h1 := h.quiet hq
  have hs := h1.words.put hA hj (.int .i32 u)
  obtain ⟨t1, t2, t3⟩ := h1.word (ws := M.words.set j u) (by simp) (Only.setCell (S := RowOf M.wr.A) (p := ⟨g, off + j, none⟩) (Only.refl _ _) (fun _ => ⟨_, hA, rfl⟩) (.int .i32 u)) (by simpa [i32s, i32, List.map_set] using hs) (h.fit.setW j hu)
  exact DPost.after hq ⟨_, t1, t2, rfl, rfl, t3⟩
set_option maxRecDepth 8000 in
set_option maxHeartbeats 4000000 in
theorem do_add {w : World} {M : TMem} (h : TAt w M) {i : Nat} {y : BR × Thr} (hy : M.ts[i]? = some y) (j : Nat) (b x : Int) (hx : M.words[j]? = some x) :
    Calls Try.prog 27 #[.pointer (some ⟨M.p, 0, none⟩), .int .i64 (i : Int), .agg #[.int .i64 5, .int .i64 (j : Int), .int .i64 b]] w fun e w' => e = .returned (.int .i64 0) ∧ DPost M w ({ M.wd with words := M.words.set j (w32 (x + w32 b)) }) w' := by
  obtain ⟨⟨c0, c1, c2, c3, c4, c5⟩, ps, pf⟩ := h.cells
  have pf4 := pf 4
  obtain ⟨g, cap, hv, hcap, hcm, _, ⟨cur, hg⟩, r0, r1⟩ := h.tasks.row hy
  have gs := lt_of_heap hg
  have gf0 := blk_frozen hg (i * 2)
  have gf1 := blk_frozen hg (i * 2 + 1)
  simp only [tc] at r0 r1
  have hi : i < M.ts.length := (List.getElem?_eq_some_iff.1 hy).1
  have hsm := h.fit.tasks
  rw [h.tlen] at hsm
  rw [hv] at c5
  unfold maxLen at hcm
  obtain ⟨n, hn⟩ : ∃ n, n = M.ts.length := ⟨_, rfl⟩
  rw [← hn] at c5 hcap hi hsm
  have i0 : (0 : Int) ≤ (i : Int) := by omega
  have i1 : (i : Int) < (n : Int) := by omega
  have ps1 : M.p < w.heap.size + 1 := by omega
  have gs1 : g < w.heap.size + 1 := by omega
  obtain ⟨gw, off, hA, gws, rw0⟩ := h.words.cell (i := j) (x := i32 x) (by rw [i32s, List.getElem?_map, hx]; rfl)
  unfold i32 at rw0
  have hwj : j < M.words.length := (List.getElem?_eq_some_iff.1 hx).1
  have hwm := h.fit.words
  have hwi := h.fit.wi x (by simp only [TMem.wd]; exact List.mem_of_getElem? hx)
  unfold In32 at hwi
  obtain ⟨wi1, wi2⟩ := hwi
  simp only [TMem.wd] at hwm
  have hwle := h.words.le
  have hwcm := h.words.capLe
  unfold maxLen at hwcm
  obtain ⟨curw, hgw⟩ := h.words.type (k := gw) ⟨_, hA, rfl⟩
  have gwf := blk_frozen hgw (off + j)
  rw [hA] at c3
  obtain ⟨nw, hnw⟩ : ∃ nw, nw = M.words.length := ⟨_, rfl⟩
  rw [← hnw] at c3 hwj hwm hwle
  have j0 : (0 : Int) ≤ (j : Int) := by omega
  have j1 : (j : Int) < (nw : Int) := by omega
  have gws1 : gw < w.heap.size + 1 := by omega
  have HX := Lib.hid hx; clear hx
  have HA := Lib.hid hA; clear hA
  have HNW := Lib.hid hnw; clear hnw
  clear hgw
  have H := Lib.hid h; clear h
  have HY := Lib.hid hy; clear hy
  have HV := Lib.hid hv; clear hv
  have HN := Lib.hid hn; clear hn
  clear pf hg
  have ww := w32_wrap b
  have www := w32_wrap (x + w32 b)
  clear c0 c1 c2 c4 r0 r1
  go_enter Try.func27, Try.ntmps27
  go_wp2
  go_region
  all_goals
    go_wp2
    go_ret
    exact ⟨rfl, (add_post (W := w) (g := gw) (off := off) (c := M.wr.c) (j := j) (x := x) H.out (Only.refl _ _) HA.out (HNW.out ▸ hwj) (in32_w32 _)).quiet (by repeat (first | exact Only.refl _ _ | refine Only.drewN ?_ _ | refine Only.drew ?_ | refine Only.alloc ?_ _))⟩
set_option maxRecDepth 8000 in
set_option maxHeartbeats 4000000 in
theorem do_load {w : World} {M : TMem} (h : TAt w M) {i : Nat} {y : BR × Thr} (hy : M.ts[i]? = some y) (j : Nat) (b x : Int) (hx : M.words[j]? = some x) :
    Calls Try.prog 27 #[.pointer (some ⟨M.p, 0, none⟩), .int .i64 (i : Int), .agg #[.int .i64 6, .int .i64 (j : Int), .int .i64 b]] w fun e w' => e = .returned (.int .i64 0) ∧ DPost M w (setT M.wd i { y.2 with has := w32 (y.2.has + x) }) w' := by
  obtain ⟨⟨c0, c1, c2, c3, c4, c5⟩, ps, pf⟩ := h.cells
  have pf4 := pf 4
  obtain ⟨g, cap, hv, hcap, hcm, _, ⟨cur, hg⟩, r0, r1⟩ := h.tasks.row hy
  have gs := lt_of_heap hg
  have gf0 := blk_frozen hg (i * 2)
  have gf1 := blk_frozen hg (i * 2 + 1)
  simp only [tc] at r0 r1
  have hi : i < M.ts.length := (List.getElem?_eq_some_iff.1 hy).1
  have hsm := h.fit.tasks
  rw [h.tlen] at hsm
  rw [hv] at c5
  unfold maxLen at hcm
  obtain ⟨n, hn⟩ : ∃ n, n = M.ts.length := ⟨_, rfl⟩
  rw [← hn] at c5 hcap hi hsm
  have i0 : (0 : Int) ≤ (i : Int) := by omega
  have i1 : (i : Int) < (n : Int) := by omega
  have ps1 : M.p < w.heap.size + 1 := by omega
  have gs1 : g < w.heap.size + 1 := by omega
  obtain ⟨gw, off, hA, gws, rw0⟩ := h.words.cell (i := j) (x := i32 x) (by rw [i32s, List.getElem?_map, hx]; rfl)
  unfold i32 at rw0
  have hwj : j < M.words.length := (List.getElem?_eq_some_iff.1 hx).1
  have hwm := h.fit.words
  have hwi := h.fit.wi x (by simp only [TMem.wd]; exact List.mem_of_getElem? hx)
  unfold In32 at hwi
  obtain ⟨wi1, wi2⟩ := hwi
  simp only [TMem.wd] at hwm
  have hwle := h.words.le
  have hwcm := h.words.capLe
  unfold maxLen at hwcm
  obtain ⟨curw, hgw⟩ := h.words.type (k := gw) ⟨_, hA, rfl⟩
  have gwf := blk_frozen hgw (off + j)
  rw [hA] at c3
  obtain ⟨nw, hnw⟩ : ∃ nw, nw = M.words.length := ⟨_, rfl⟩
  rw [← hnw] at c3 hwj hwm hwle
  have j0 : (0 : Int) ≤ (j : Int) := by omega
  have j1 : (j : Int) < (nw : Int) := by omega
  have gws1 : gw < w.heap.size + 1 := by omega
  have HX := Lib.hid hx; clear hx
  have HA := Lib.hid hA; clear hA
  have HNW := Lib.hid hnw; clear hnw
  clear hgw
  have hz := h.fit.tz y.2 (by simp only [TMem.wd]; exact List.mem_map_of_mem (List.mem_of_getElem? hy))
  obtain ⟨hz1, hz2⟩ := hz.2.1
  clear hz
  have H := Lib.hid h; clear h
  have HY := Lib.hid hy; clear hy
  have HV := Lib.hid hv; clear hv
  have HN := Lib.hid hn; clear hn
  clear pf hg
  have www := w32_wrap (y.2.has + x)
  clear c0 c1 c2 c4 r0
  go_enter Try.func27, Try.ntmps27
  go_wp2
  go_region
  all_goals
    go_wp2
    go_ret
    obtain ⟨M', t1, t2, t3, t4, _, _, t5⟩ := turn_has H.out HY.out HV.out (w32 (y.2.has + x)) (in32_w32 _)
    exact ⟨rfl, (show DPost M w _ _ from ⟨M', t1, t2, t3, t4, t5⟩).quiet (by repeat (first | exact Only.refl _ _ | refine Only.drewN ?_ _ | refine Only.drew ?_ | refine Only.alloc ?_ _))⟩
theorem recv_post {w : World} {M : TMem} (h : TAt w M) {i : Nat} {y : BR × Thr} (hy : M.ts[i]? = some y) {g n cap : Nat} (hv : M.vt = .slice (some ⟨g, 0, none⟩) n cap) {j : Nat} {z : BR × Pipe} (hz : M.ps[j]? = some z) {gp np capp : Nat} (hvp : M.vp = .slice (some ⟨gp, 0, none⟩) np capp)
    {v : Int} {l : List Int} (hl : z.2.l = v :: l) {x : Int} (hx : In32 x) {A' : Option Addr} {c' m : Nat} (hm : m = l.length) (hA : A' = if z.1.c = 1 then z.1.A else z.1.A.map (·.add 1)) (hc : c' = z.1.c - 1) :
    DPost M w (setP (setT M.wd i { y.2 with has := x }) j { z.2 with l := l }) ((w.setCell ⟨g, i * 2 + 1, none⟩ (.int .i32 x)).setCell ⟨gp, j * 2, none⟩ (.slice A' m c')) := by
  subst hm hA hc
  obtain ⟨M', t1, t2, t3, t4, t5, t6, t7⟩ := turn_has h hy hv x hx
  rw [← t5] at hz
  rw [← t6] at hvp
  have hzm := List.mem_of_getElem? hz
  have hjl := (List.getElem?_eq_some_iff.1 hz).1
  have hzl := t1.pl z hzm
  have hlen : z.2.l.length = l.length + 1 := by rw [hl]; rfl
  have hcut := hzl.cut (m := 1) (by omega)
  have e1 : (i32s z.2.l).drop 1 = i32s l := by rw [hl]; rfl
  have e3 : z.2.l.length - 1 = l.length := by omega
  rw [e1, e3] at hcut
  obtain ⟨⟨cur, hg⟩, _⟩ := t1.pipes.kind (k := gp) (by rw [hvp]; rfl)
  have own := t1.pipes
  rw [hvp] at own
  have e := fl_set0 (f := pc) hz (⟨if z.1.c = 1 then z.1.A else z.1.A.map (·.add 1), z.1.c - 1⟩, { z.2 with l := l }) rfl
  have own2 := own.set (j := j * 2) (c := .slice (if z.1.c = 1 then z.1.A else z.1.A.map (·.add 1)) l.length (z.1.c - 1)) (l' := M'.ps.set j (⟨if z.1.c = 1 then z.1.A else z.1.A.map (·.add 1), z.1.c - 1⟩, { z.2 with l := l })) (by omega) e (by simp)
  rw [← hvp] at own2
  have hset : Only (· = gp) (w.setCell ⟨g, i * 2 + 1, none⟩ (.int .i32 x)) ((w.setCell ⟨g, i * 2 + 1, none⟩ (.int .i32 x)).setCell ⟨gp, j * 2, none⟩ (.slice (if z.1.c = 1 then z.1.A else z.1.A.map (·.add 1)) l.length (z.1.c - 1))) := Only.setCell (S := (· = gp)) (p := ⟨gp, j * 2, none⟩) (Only.refl _ _) (fun _ => rfl) _
  obtain ⟨p1, p2, p3, p4⟩ := t1.fit.pz z.2 (by simp only [TMem.wd]; exact List.mem_map_of_mem hzm)
  obtain ⟨s1, s2, s3⟩ := t1.pipe (y' := (⟨if z.1.c = 1 then z.1.A else z.1.A.map (·.add 1), z.1.c - 1⟩, { z.2 with l := l })) hz hvp (hset.mono fun k _ q => .inl q) own2
    (hcut.only hset (fun k hk q => by
      obtain ⟨cu, hc⟩ := hcut.type hk
      subst q
      exact blk_ne hc hg (by decide) rfl)) (fun k hk => .inl (rowOf_cut hk))
    (t1.fit.setP j ⟨p1, p2, by show (l.length : Int) ≤ z.2.size; omega, fun u hu => p4 u (by rw [hl]; exact .tail _ hu)⟩)
  rw [t2] at s2
  refine DPost.trans t7 t3 t4 ⟨_, s1, s2, rfl, rfl, s3⟩
set_option maxRecDepth 8000 in
set_option maxHeartbeats 4000000 in
theorem do_recv1 {w : World} {M : TMem} (h : TAt w M) {i : Nat} {y : BR × Thr} (hy : M.ts[i]? = some y) (j : Nat) (b : Int) {z : BR × Pipe} (hz : M.ps[j]? = some z) {v : Int} {l : List Int} (hl : z.2.l = v :: l) (hcc : z.1.c = 1) :
    Calls Try.prog 27 #[.pointer (some ⟨M.p, 0, none⟩), .int .i64 (i : Int), .agg #[.int .i64 4, .int .i64 (j : Int), .int .i64 b]] w fun e w' => e = .returned (.int .i64 0) ∧ DPost M w (setP (setT M.wd i { y.2 with has := w32 (y.2.has + v) }) j { z.2 with l := l }) w' := by
  obtain ⟨⟨c0, c1, c2, c3, c4, c5⟩, ps, pf⟩ := h.cells
  have pf4 := pf 4
  obtain ⟨g, cap, hv, hcap, hcm, _, ⟨cur, hg⟩, r0, r1⟩ := h.tasks.row hy
  have gs := lt_of_heap hg
  have gf0 := blk_frozen hg (i * 2)
  have gf1 := blk_frozen hg (i * 2 + 1)
  simp only [tc] at r0 r1
  have hi : i < M.ts.length := (List.getElem?_eq_some_iff.1 hy).1
  have hsm := h.fit.tasks
  rw [h.tlen] at hsm
  rw [hv] at c5
  unfold maxLen at hcm
  obtain ⟨n, hn⟩ : ∃ n, n = M.ts.length := ⟨_, rfl⟩
  rw [← hn] at c5 hcap hi hsm
  have i0 : (0 : Int) ≤ (i : Int) := by omega
  have i1 : (i : Int) < (n : Int) := by omega
  have ps1 : M.p < w.heap.size + 1 := by omega
  have gs1 : g < w.heap.size + 1 := by omega
  obtain ⟨gp, capp, hvp, hcapp, hcmp, _, ⟨curp, hgp⟩, rp0, rp1⟩ := h.pipes.row hz
  have gps := lt_of_heap hgp
  have gpf0 := blk_frozen hgp (j * 2)
  simp only [pc] at rp0 rp1
  have hj : j < M.ps.length := (List.getElem?_eq_some_iff.1 hz).1
  have hsmp := h.fit.pipes
  rw [h.plen] at hsmp
  rw [hvp] at c4
  unfold maxLen at hcmp
  obtain ⟨np, hnp⟩ : ∃ np, np = M.ps.length := ⟨_, rfl⟩
  rw [← hnp] at c4 hcapp hj hsmp
  have j0 : (0 : Int) ≤ (j : Int) := by omega
  have j1 : (j : Int) < (np : Int) := by omega
  have gps1 : gp < w.heap.size + 1 := by omega
  have hzl := h.pl z (List.mem_of_getElem? hz)
  have hzle := hzl.le
  have hzcm := hzl.capLe
  unfold maxLen at hzcm
  have hfz := h.fit.tz y.2 (by simp only [TMem.wd]; exact List.mem_map_of_mem (List.mem_of_getElem? hy))
  obtain ⟨hz1, hz2⟩ := hfz.2.1
  clear hfz
  have hvz := (h.fit.pz z.2 (by simp only [TMem.wd]; exact List.mem_map_of_mem (List.mem_of_getElem? hz))).2.2.2 v (by rw [hl]; exact .head _)
  obtain ⟨hv1, hv2⟩ := hvz
  obtain ⟨gr, off, hA, grs, rr0⟩ := hzl.cell (i := 0) (x := i32 v) (by rw [hl]; rfl)
  unfold i32 at rr0
  rw [Nat.add_zero] at rr0
  have hgne : gp ≠ g := blk_ne hgp hg (by decide)
  have hgne2 : g ≠ gp := fun e => hgne e.symm
  have hrne : gr ≠ g := by
    obtain ⟨cu, hc⟩ := hzl.type (k := gr) ⟨_, hA, rfl⟩
    exact blk_ne hc hg (by decide)
  have hpne : M.p ≠ g := blk_ne h.blk hg (by decide)
  have hmn : z.2.l.length = l.length + 1 := by rw [hl]; rfl
  rw [hmn, hA] at rp0
  rw [hmn] at hzle
  obtain ⟨m, hm⟩ : ∃ m, m = l.length := ⟨_, rfl⟩
  rw [← hm] at rp0 hzle
  have m0 : (0 : Int) < (m : Int) + 1 := by omega
  have grs1 : gr < w.heap.size + 1 := by omega
  have HL := Lib.hid hl; clear hl
  have HM := Lib.hid hm; clear hm
  have HMN := Lib.hid hmn; clear hmn
  have HA := Lib.hid hA; clear hA
  have HZ := Lib.hid hz; clear hz
  have HVP := Lib.hid hvp; clear hvp
  have HNP := Lib.hid hnp; clear hnp
  have HZL := Lib.hid hzl; clear hzl
  have H := Lib.hid h; clear h
  have HY := Lib.hid hy; clear hy
  have HV := Lib.hid hv; clear hv
  have HN := Lib.hid hn; clear hn
  clear pf hg
  have www := w32_wrap (y.2.has + v)
  clear c0 c1 c2 c3 r0 rp1 hgp
  go_enter Try.func27, Try.ntmps27
  go_wp2
  go_region
  all_goals
    go_wp2
    go_region
    all_goals
      go_wp2
      go_ret
      exact ⟨rfl, (recv_post H.out HY.out HV.out HZ.out HVP.out HL.out (in32_w32 _) HM.out (by rw [if_pos hcc, HA.out]) (by rw [hcc])).quiet (by repeat (first | exact Only.refl _ _ | refine Only.drewN ?_ _ | refine Only.drew ?_ | refine Only.alloc ?_ _))⟩
set_option maxRecDepth 8000 in
set_option maxHeartbeats 4000000 in
theorem do_recv2 {w : World} {M : TMem} (h : TAt w M) {i : Nat} {y : BR × Thr} (hy : M.ts[i]? = some y) (j : Nat) (b : Int) {z : BR × Pipe} (hz : M.ps[j]? = some z) {v : Int} {l : List Int} (hl : z.2.l = v :: l) (hcc : (z.1.c == 1) = false) :
    Calls Try.prog 27 #[.pointer (some ⟨M.p, 0, none⟩), .int .i64 (i : Int), .agg #[.int .i64 4, .int .i64 (j : Int), .int .i64 b]] w fun e w' => e = .returned (.int .i64 0) ∧ DPost M w (setP (setT M.wd i { y.2 with has := w32 (y.2.has + v) }) j { z.2 with l := l }) w' := by
  obtain ⟨⟨c0, c1, c2, c3, c4, c5⟩, ps, pf⟩ := h.cells
  have pf4 := pf 4
  obtain ⟨g, cap, hv, hcap, hcm, _, ⟨cur, hg⟩, r0, r1⟩ := h.tasks.row hy
  have gs := lt_of_heap hg
  have gf0 := blk_frozen hg (i * 2)
  have gf1 := blk_frozen hg (i * 2 + 1)
  simp only [tc] at r0 r1
  have hi : i < M.ts.length := (List.getElem?_eq_some_iff.1 hy).1
  have hsm := h.fit.tasks
  rw [h.tlen] at hsm
  rw [hv] at c5
  unfold maxLen at hcm
  obtain ⟨n, hn⟩ : ∃ n, n = M.ts.length := ⟨_, rfl⟩
  rw [← hn] at c5 hcap hi hsm
  have i0 : (0 : Int) ≤ (i : Int) := by omega
  have i1 : (i : Int) < (n : Int) := by omega
  have ps1 : M.p < w.heap.size + 1 := by omega
  have gs1 : g < w.heap.size + 1 := by omega
  obtain ⟨gp, capp, hvp, hcapp, hcmp, _, ⟨curp, hgp⟩, rp0, rp1⟩ := h.pipes.row hz
  have gps := lt_of_heap hgp
  have gpf0 := blk_frozen hgp (j * 2)
  simp only [pc] at rp0 rp1
  have hj : j < M.ps.length := (List.getElem?_eq_some_iff.1 hz).1
  have hsmp := h.fit.pipes
  rw [h.plen] at hsmp
  rw [hvp] at c4
  unfold maxLen at hcmp
  obtain ⟨np, hnp⟩ : ∃ np, np = M.ps.length := ⟨_, rfl⟩
  rw [← hnp] at c4 hcapp hj hsmp
  have j0 : (0 : Int) ≤ (j : Int) := by omega
  have j1 : (j : Int) < (np : Int) := by omega
  have gps1 : gp < w.heap.size + 1 := by omega
  have hzl := h.pl z (List.mem_of_getElem? hz)
  have hzle := hzl.le
  have hzcm := hzl.capLe
  unfold maxLen at hzcm
  have hfz := h.fit.tz y.2 (by simp only [TMem.wd]; exact List.mem_map_of_mem (List.mem_of_getElem? hy))
  obtain ⟨hz1, hz2⟩ := hfz.2.1
  clear hfz
  have hvz := (h.fit.pz z.2 (by simp only [TMem.wd]; exact List.mem_map_of_mem (List.mem_of_getElem? hz))).2.2.2 v (by rw [hl]; exact .head _)
  obtain ⟨hv1, hv2⟩ := hvz
  obtain ⟨gr, off, hA, grs, rr0⟩ := hzl.cell (i := 0) (x := i32 v) (by rw [hl]; rfl)
  unfold i32 at rr0
  rw [Nat.add_zero] at rr0
  have hgne : gp ≠ g := blk_ne hgp hg (by decide)
  have hgne2 : g ≠ gp := fun e => hgne e.symm
  have hrne : gr ≠ g := by
    obtain ⟨cu, hc⟩ := hzl.type (k := gr) ⟨_, hA, rfl⟩
    exact blk_ne hc hg (by decide)
  have hpne : M.p ≠ g := blk_ne h.blk hg (by decide)
  have hmn : z.2.l.length = l.length + 1 := by rw [hl]; rfl
  rw [hmn, hA] at rp0
  rw [hmn] at hzle
  obtain ⟨m, hm⟩ : ∃ m, m = l.length := ⟨_, rfl⟩
  rw [← hm] at rp0 hzle
  have hcc2 : z.1.c ≠ 1 := by simpa using hcc
  have m0 : (0 : Int) < (m : Int) + 1 := by omega
  have grs1 : gr < w.heap.size + 1 := by omega
  have HL := Lib.hid hl; clear hl
  have HM := Lib.hid hm; clear hm
  have HMN := Lib.hid hmn; clear hmn
  have HA := Lib.hid hA; clear hA
  have HZ := Lib.hid hz; clear hz
  have HVP := Lib.hid hvp; clear hvp
  have HNP := Lib.hid hnp; clear hnp
  have HZL := Lib.hid hzl; clear hzl
  have H := Lib.hid h; clear h
  have HY := Lib.hid hy; clear hy
  have HV := Lib.hid hv; clear hv
  have HN := Lib.hid hn; clear hn
  clear pf hg
  have www := w32_wrap (y.2.has + v)
  clear c0 c1 c2 c3 r0 rp1 hgp
  go_enter Try.func27, Try.ntmps27
  go_wp2
  go_region
  all_goals
    go_wp2
    go_region
    all_goals
      go_wp2
      go_ret
      exact ⟨rfl, (recv_post H.out HY.out HV.out HZ.out HVP.out HL.out (in32_w32 _) HM.out (by rw [if_neg (by simpa using hcc), HA.out, Option.map_some, Addr.add_lit]) (by rfl)).quiet (by repeat (first | exact Only.refl _ _ | refine Only.drewN ?_ _ | refine Only.drew ?_ | refine Only.alloc ?_ _))⟩
end Go.Proofs.Ytgdjbmfpbihopaa
