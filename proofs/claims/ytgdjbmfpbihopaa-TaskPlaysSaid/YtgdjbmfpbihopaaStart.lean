/-
  What the program's Start does. No conditions.
-/
import Derived.Test.YtgdjbmfpbihopaaOps
namespace Go.Proofs.Ytgdjbmfpbihopaa
open Go.RowKit Go.MapKept
set_option linter.unusedVariables false
set_option linter.unusedSimpArgs false

set_option maxRecDepth 8000 in
set_option maxHeartbeats 4000000 in
theorem start_no {w : World} {M : TMem} (h : TAt w M) {A : Option Addr} {n c : Nat} {l : List Op3} (hr : OpRd w A n c l) (r : Int) (hb : (M.ts.length = 64 ∧ r = 14) ∨ (M.ts.length ≠ 64 ∧ l.all (mayB M.wd) = false ∧ r = 2) ∨ (M.ts.length ≠ 64 ∧ l.all (mayB M.wd) = true ∧ 1000 < n ∧ r = 3)) :
    Calls Try.prog 9 #[.pointer (some ⟨M.p, 0, none⟩), .slice A n c] w fun e w' => e = .returned (.tuple #[.int .i64 0, .int .i64 r]) ∧ Quiet w w' := by
  obtain ⟨⟨c0, c1, c2, c3, c4, c5⟩, ps, pf⟩ := h.cells
  have f5 := pf 5
  obtain ⟨A', cap, hv, hcm⟩ := h.tasks.shape
  have hsm := h.fit.tasks
  rw [h.tlen] at hsm
  have hsmi : (M.ts.length : Int) ≤ 64 := by omega
  unfold maxLen at hcm
  have k0 : (w.alloc (.cells #[.slice A n c] 22)).cell? ⟨M.p, 0, none⟩ = some (.bool true) := (((Only.refl (fun _ => False) w).alloc (.cells #[.slice A n c] 22)).cell (p := ⟨M.p, 0, none⟩) ps (fun x => x)).trans c0
  have k5 : (w.alloc (.cells #[.slice A n c] 22)).cell? ⟨M.p, 5, none⟩ = some M.vt := (((Only.refl (fun _ => False) w).alloc (.cells #[.slice A n c] 22)).cell (p := ⟨M.p, 5, none⟩) ps (fun x => x)).trans c5
  have kb : (w.alloc (.cells #[.slice A n c] 22)).heap[w.heap.size]? = some (.cells #[.slice A n c] 22 (0, 0)) := blk_new _ _
  have QW := Lib.hid (show Quiet w (w.alloc (.cells #[.slice A n c] 22)) from (Only.refl _ _).alloc _)
  have k1 : M.p < (w.alloc (.cells #[.slice A n c] 22)).heap.size := by simp; omega
  have g1 : M.p < w.heap.size + 1 := by omega
  have HALL := Lib.hid (all_at (h.quiet QW.out) kb (hr.quiet QW.out))
  rw [hv] at c5 k5
  have hnc := hr.le
  have hccm := hr.cap
  unfold maxLen at hccm
  obtain ⟨t, ht⟩ : ∃ t, t = M.ts.length := ⟨_, rfl⟩
  rw [← ht] at c5 k5 hb hsm hsmi
  clear h hr hv kb c1 c2 c3 c4 pf ht
  rcases hb with ⟨h1, rfl⟩ | ⟨h1, h2, rfl⟩ | ⟨h1, h2, h3, rfl⟩
  · have d1 : ((t : Int) == 64) = true := by simp; omega
    clear h1
    go_enter Try.func9, Try.ntmps9
    go_wp2_with (first
      | (go_at_call 24; refine (none_of _ _ k0 k1).mono ?_; rintro e w2 ⟨rfl, rfl⟩))
    go_ret2
    exact ⟨rfl, QW.out⟩
  · have d1 : ((t : Int) == 64) = false := by simp; omega
    rw [h2] at HALL
    clear h1 h2
    go_enter Try.func9, Try.ntmps9
    go_wp2_with (first
      | (go_at_call 24; refine (none_of _ _ k0 k1).mono ?_; rintro e w2 ⟨rfl, rfl⟩)
      | (go_at_call 25; refine HALL.out.mono ?_; rintro e w2 ⟨rfl, hq⟩; have Q2 := Lib.hid hq; clear hq))
    go_ret2
    exact ⟨rfl, QW.out.trans Q2.out⟩
  · have d1 : ((t : Int) == 64) = false := by simp; omega
    have d2 : decide ((1000 : Int) < (n : Int)) = true := by simp; omega
    rw [h2] at HALL
    have KB := Lib.hid (show (w.alloc (.cells #[.slice A n c] 22)).cell? ⟨w.heap.size, 0, none⟩ = some (.slice A n c) from blk_cell (blk_new _ _) 0)
    have HS := Lib.hid (show w.heap.size < (w.alloc (.cells #[.slice A n c] 22)).heap.size by simp)
    clear h1 h2 h3
    go_enter Try.func9, Try.ntmps9
    go_wp2_with (first
      | (go_at_call 24; refine (none_of _ _ k0 k1).mono ?_; rintro e w2 ⟨rfl, rfl⟩)
      | (go_at_call 25; refine HALL.out.mono ?_; rintro e w2 ⟨rfl, hq⟩; have Q2 := Lib.hid hq; have kb2 := (hq.cell (p := ⟨w.heap.size, 0, none⟩) HS.out (fun x => x)).trans KB.out; clear hq))
    go_ret2
    exact ⟨rfl, QW.out.trans Q2.out⟩
theorem box_not {w : World} {g : Nat} {v : Value} (h : w.heap[g]? = some (.cells #[v] 22 (0, 0))) : w.cell? ⟨g, 0, none⟩ = some v := blk_cell h 0
theorem box_keep {W w4 : World} {M : TMem} (h : TAt W M) {s : Nat} {v : Value} (hb : W.heap[s]? = some (.cells #[v] 22 (0, 0))) (hg : W.grownBy w4 M.vt.ownBlock) : w4.cell? ⟨s, 0, none⟩ = some v := by
  have hO : Only (fun k => M.vt.ownBlock = some k) W w4 := (Only.refl _ W).of_grown hg (fun k hk _ => hk)
  exact box_not (hO.keep hb (fun q => by
    obtain ⟨⟨cu, hc⟩, _⟩ := h.tasks.kind q
    exact blk_ne hc hb (by decide) rfl))
theorem row_quiet {w w3 W w4 : World} {r : Option Nat} (h : Quiet w w3) (_ : W.grownBy w4 r) (k : Quiet w3 W) : Quiet w W := h.trans k
theorem ret_pred {t n : Nat} (h : t = n) : Ending.returned (.tuple #[.int .i64 (t : Int), .int .i64 0]) = .returned (.tuple #[.int .i64 (n : Int), .int .i64 0]) := by rw [h]
/-- The end of a Start that is let in. -/
theorem start_end {w W w4 : World} {M : TMem} (h : TAt w M) (hq : Quiet w W) {v' : Value} {n c1 : Nat} {A1 : Option Addr} {l : List Op3} (hl : M.ts.length < 64) (hln : l.length = n)
    (hown : w4.ownsRow M.base 74 2 v' (M.ts.length + 1) (fl tc M.ts ++ [.slice A1 n c1, .int .i32 0])) (hg : W.grownBy w4 M.vt.ownBlock) (hs : OpSl W A1 n c1 l) (hn : n ≤ 1000) (hm : l.all (mayB M.wd) = true) :
    DPost M w { M.wd with tasks := M.wd.tasks ++ [⟨l, 0⟩] } (w4.setCell ⟨M.p, 5, none⟩ v') := by
  subst hln
  have hown2 : OwnF w4 M.base 74 tc v' (M.ts ++ [(⟨A1, c1⟩, ⟨l, 0⟩)]) := by
    unfold OwnF
    rw [fl_app, List.length_append]
    exact hown
  obtain ⟨s1, s2, s3⟩ := h.addTask hq hl hown2 hg hs ⟨hn, show In32 0 from ⟨by decide, by decide⟩, fun o ho => List.all_eq_true.1 hm o ho⟩
  exact ⟨_, s1, s2, rfl, rfl, s3⟩
set_option maxRecDepth 8000 in
set_option maxHeartbeats 8000000 in
theorem start_some {w : World} {M : TMem} (h : TAt w M) {ad : Addr} {n c : Nat} {l : List Op3} (hr : OpRd w (some ad) n c l)
    (hne : M.ts.length ≠ 64) (hm : l.all (mayB M.wd) = true) (hn : n ≤ 1000) :
    Calls Try.prog 9 #[.pointer (some ⟨M.p, 0, none⟩), .slice (some ad) n c] w fun e w' => e = .returned (.tuple #[.int .i64 (M.ts.length : Int), .int .i64 0]) ∧ DPost M w { M.wd with tasks := M.wd.tasks ++ [⟨l, 0⟩] } w' := by
  obtain ⟨⟨c0, c1, c2, c3, c4, c5⟩, ps, pf⟩ := h.cells
  have f5 := pf 5
  obtain ⟨A', cap, hv, hcm⟩ := h.tasks.shape
  have hsm := h.fit.tasks
  rw [h.tlen] at hsm
  have hsmi : (M.ts.length : Int) ≤ 64 := by omega
  unfold maxLen at hcm
  have k0 : (w.alloc (.cells #[.slice (some ad) n c] 22)).cell? ⟨M.p, 0, none⟩ = some (.bool true) := (((Only.refl (fun _ => False) w).alloc (.cells #[.slice (some ad) n c] 22)).cell (p := ⟨M.p, 0, none⟩) ps (fun x => x)).trans c0
  have k5 : (w.alloc (.cells #[.slice (some ad) n c] 22)).cell? ⟨M.p, 5, none⟩ = some M.vt := (((Only.refl (fun _ => False) w).alloc (.cells #[.slice (some ad) n c] 22)).cell (p := ⟨M.p, 5, none⟩) ps (fun x => x)).trans c5
  have kb : (w.alloc (.cells #[.slice (some ad) n c] 22)).heap[w.heap.size]? = some (.cells #[.slice (some ad) n c] 22 (0, 0)) := blk_new _ _
  have QW := Lib.hid (show Quiet w (w.alloc (.cells #[.slice (some ad) n c] 22)) from (Only.refl _ _).alloc _)
  have k1 : M.p < (w.alloc (.cells #[.slice (some ad) n c] 22)).heap.size := by simp; omega
  have g1 : M.p < w.heap.size + 1 := by omega
  obtain ⟨io, ho0, ho1, ho2, ho3⟩ := info_parts Try.info41
  obtain ⟨it, ht0, ht1, ht2, ht3⟩ := info_parts Try.info74
  have HALL := Lib.hid (all_at (h.quiet QW.out) kb (hr.quiet QW.out))
  rw [hm] at HALL
  rw [hv] at c5 k5
  have hnc := hr.le
  have hccm := hr.cap
  unfold maxLen at hccm
  have HKB := Lib.hid kb
  have hlo := h.lo
  have HT := Lib.hid (fun (W : World) (hW : Quiet w W) => (h.quiet hW).tasks)
  unfold OwnF at HT
  rw [hv] at HT
  have HV := Lib.hid hv
  have HR := Lib.hid hr
  have H := Lib.hid h
  have HMM := Lib.hid hm
  have hnei : ((M.ts.length : Int) == 64) = false := by simp; omega
  have hlt : M.ts.length < 64 := by omega
  have HLT := Lib.hid hlt
  have d2 : decide ((1000 : Int) < (n : Int)) = false := by simp; omega
  obtain ⟨t, ht⟩ : ∃ t, t = M.ts.length := ⟨_, rfl⟩
  rw [← ht] at c5 k5 hsm hsmi HT hnei hlt HV
  have HTT := Lib.hid ht
  clear h hr hv kb c1 c2 c3 c4 pf ht hm hne
  have HS := Lib.hid (show w.heap.size < (w.alloc (.cells #[.slice (some ad) n c] 22)).heap.size by simp)
  obtain ⟨s, hs⟩ : ∃ s, s = w.heap.size := ⟨_, rfl⟩
  go_enter Try.func9, Try.ntmps9
  go_wp2_with (first
    | (go_at_call 24; refine (none_of _ _ k0 k1).mono ?_; rintro e w2 ⟨rfl, rfl⟩)
    | (go_at_call 25; refine HALL.out.mono ?_; rintro e w2 ⟨rfl, hq⟩; have Q2 := Lib.hid (QW.out.trans hq); have kb2 := box_not (hq.keep HKB.out (fun x => x)); have HBB := Lib.hid (hq.keep HKB.out (fun x => x)); have p5 := (hq.cell (p := ⟨M.p, 5, none⟩) k1 (fun x => x)).trans k5; have l2 : M.p < w2.heap.size := Nat.lt_of_lt_of_le k1 hq.size; have l3 : w.heap.size < w2.heap.size := Nat.lt_of_lt_of_le HS.out hq.size; have pf2 : w2.frozen? ⟨M.p, 5, none⟩ = false := blk_frozen ((H.out.quiet Q2.out).blk) 5; clear hq))
  rw [← hs] at kb2 l3 HBB ⊢
  have sne : s ≠ M.p := blk_ne HBB.out (H.out.quiet Q2.out).blk (by decide)
  clear c0 c5 k0 k5 k1 g1 f5 ps
  have HSS := Lib.hid hs; clear hs
  refine wp_region_noPanic ?_
  refine wp_region_held_drew (S := (fun w' => w'.cell? ⟨s, 0, none⟩ = some (.slice (some ad) n c))) (by kernel_rfl) ?_ (fun hHeld => ?_)
  · try dsimp only
    (first | exact kb2 | exact kb3 | exact kb4 | exact (cell_far sne _ trivial).trans kb4 | go_keep)
  refine wpAnyH_take (i := 0) (v := ?_) (at_list rfl) (by kernel_rfl) (by kernel_rfl) (by kernel_rfl) (fun _ _ _ h => h) (Or.inl ⟨by rfl, ?_⟩) (by assumption) ?_
  rotate_left
  · intro w hSw
    try dsimp only at hSw
    go_simp
    try with_reducible rfl
  simp only [Act.put, List.setIfInBounds_toArray, List.set_cons_zero, List.set_cons_succ]
  refine wpAnyH_take (i := 1) (v := ?_) (at_list rfl) (by kernel_rfl) (by kernel_rfl) (by kernel_rfl) (fun _ _ _ h => h) (Or.inl ⟨by rfl, ?_⟩) (by assumption) ?_
  rotate_left
  · intro w hSw
    try dsimp only at hSw
    go_simp
    try with_reducible rfl
  simp only [Act.put, List.setIfInBounds_toArray, List.set_cons_zero, List.set_cons_succ]
  refine wpAnyH_take (i := 2) (v := ?_) (at_list rfl) (by kernel_rfl) (by kernel_rfl) (by kernel_rfl) (fun _ _ _ h => h) (Or.inl ⟨by rfl, ?_⟩) (by assumption) ?_
  rotate_left
  · intro w hSw
    try dsimp only at hSw
    go_simp
    try with_reducible rfl
  simp only [Act.put, List.setIfInBounds_toArray, List.set_cons_zero, List.set_cons_succ]
  refine wpAnyH_take (i := 3) (v := ?_) (at_list rfl) (by kernel_rfl) (by kernel_rfl) (by kernel_rfl) (fun _ _ _ h => h) (Or.inl ⟨by rfl, ?_⟩) (by assumption) ?_
  rotate_left
  · intro w hSw
    try dsimp only at hSw
    go_simp
    try with_reducible rfl
  simp only [Act.put, List.setIfInBounds_toArray, List.set_cons_zero, List.set_cons_succ]
  refine wpAnyH_take (i := 6) (v := ?_) (at_list rfl) (by kernel_rfl) (by kernel_rfl) (by kernel_rfl) (fun _ _ _ h => h) (Or.inl ⟨by rfl, ?_⟩) (by assumption) ?_
  rotate_left
  · intro w hSw
    try dsimp only at hSw
    go_simp
    try with_reducible rfl
  simp only [Act.put, List.setIfInBounds_toArray, List.set_cons_zero, List.set_cons_succ]
  refine wpAnyH_ready (rs := [4, 5]) (by kernel_rfl) (by simp) ?_
  refine AllReadyH.cons (at_list rfl) (fun KK hKK => ?_) (AllReadyH.cons (at_list rfl) (fun KK hKK => ?_) AllReadyH.nil)
  · skip
    go_simp
    refine hKK.out _ _ ?_ (fun hHeld2 => ?_)
    · try dsimp only
      (first | exact kb2 | exact kb3 | exact kb4 | exact (cell_far sne _ trivial).trans kb4 | go_keep)
    clear hKK KK hHeld
    rename _ => hHeld
    try simp only [Act.put, List.setIfInBounds_toArray, List.set_cons_zero, List.set_cons_succ]
    refine wpAnyH_ready (rs := [5]) (by kernel_rfl) (by simp) ?_
    refine AllReadyH.cons (at_list rfl) (fun KK hKK => ?_) AllReadyH.nil
    go_simp
    refine hKK.out _ _ ?_ (fun hHeld2 => ?_)
    · try dsimp only
      (first | exact kb2 | exact kb3 | exact kb4 | exact (cell_far sne _ trivial).trans kb4 | go_keep)
    clear hKK KK hHeld
    rename _ => hHeld
    try simp only [Act.put, List.setIfInBounds_toArray, List.set_cons_zero, List.set_cons_succ]
    refine wpAnyH_ready (rs := [7]) (by kernel_rfl) (by simp) ?_
    refine AllReadyH.cons (at_list rfl) (fun KK hKK => ?_) AllReadyH.nil
    refine step_append_own _ rfl (.tmp 31) (.tmp 32) 22 rfl 0 41 io (.agg #[.int .i64 0, .int .i64 0, .int .i64 0]) 3 24 Try.underlying22 ho0 ho1 ho2 ho3 rfl (by decide) (.slice (some ⟨w2.heap.size, 0, none⟩) 0 0) 0 [] (by rfl) (own_empty (by repeat (first | exact blk_new' _ _ (by first | rfl | simp) | refine blk_drewN ?_ | refine blk_drew ?_ | refine blk_alloc ?_ _)) (Nat.zero_le _)) ad n c (opsF l) (by rfl) (by rw [opsF_len, HR.out.len]) ((HR.out.quiet (Only.trans Q2.out (by repeat (first | exact Only.refl _ _ | refine Only.drewN ?_ _ | refine Only.drew ?_ | refine Only.alloc ?_ _)))).news) (opsF_one l) (by unfold maxLen; omega) (by omega) (Nat.zero_le _) ?_
    intro v1 w3 hown1 hg1
    rw [Nat.zero_add, List.nil_append] at hown1
    obtain ⟨A1, c1, hv1, hos⟩ := own_opsl hown1 HR.out.len
    subst hv1
    have Q23 := Lib.hid (show Quiet w2 w3 from grown_fresh (by repeat (first | exact Only.refl _ _ | refine Only.drewN ?_ _ | refine Only.drew ?_ | refine Only.alloc ?_ _)) hg1 (Nat.le_refl _))
    have QW3 := Lib.hid (Q2.out.trans Q23.out)
    have HOS := Lib.hid hos
    have p5 := (H.out.quiet QW3.out).cells.1.2.2.2.2.2
    rw [HV.out] at p5
    have l2 := (H.out.quiet QW3.out).cells.2.1
    have kb3 := (Q23.out.cell (p := ⟨s, 0, none⟩) l3 (fun x => x)).trans kb2
    clear hown1 hg1 hos
    refine hKK.out _ _ ?_ (fun hHeld2 => ?_)
    · try dsimp only
      (first | exact kb2 | exact kb3 | exact kb4 | exact (cell_far sne _ trivial).trans kb4 | go_keep)
    clear hKK KK hHeld
    rename _ => hHeld
    try simp only [Act.put, List.setIfInBounds_toArray, List.set_cons_zero, List.set_cons_succ]
    refine wpAnyH_take (i := 8) (v := ?_) (at_list rfl) (by kernel_rfl) (by kernel_rfl) (by kernel_rfl) (fun _ _ _ h => h) (Or.inl ⟨by rfl, ?_⟩) (by assumption) ?_
    rotate_left
    · intro w hSw
      try dsimp only at hSw
      go_simp
      try with_reducible rfl
    simp only [Act.put, List.setIfInBounds_toArray, List.set_cons_zero, List.set_cons_succ]
    refine wpAnyH_ready (rs := [9]) (by kernel_rfl) (by simp) ?_
    refine AllReadyH.cons (at_list rfl) (fun KK hKK => ?_) AllReadyH.nil
    go_simp
    refine hKK.out _ _ ?_ (fun hHeld2 => ?_)
    · try dsimp only
      (first | exact kb2 | exact kb3 | exact kb4 | exact (cell_far sne _ trivial).trans kb4 | go_keep)
    clear hKK KK hHeld
    rename _ => hHeld
    try simp only [Act.put, List.setIfInBounds_toArray, List.set_cons_zero, List.set_cons_succ]
    refine wpAnyH_ready (rs := [10]) (by kernel_rfl) (by simp) ?_
    refine AllReadyH.cons (at_list rfl) (fun KK hKK => ?_) AllReadyH.nil
    refine step_append_own _ rfl (.tmp 30) (.tmp 35) 27 rfl M.base 74 it (.agg #[.slice none 0 0, .int .i32 0]) 2 32 Try.underlying27 ht0 ht1 ht2 ht3 rfl (by decide) _ t (fl tc M.ts) (by rfl) (HT.out _ (Only.trans QW3.out (by repeat (first | exact Only.refl _ _ | refine Only.drewN ?_ _ | refine Only.drew ?_ | refine Only.alloc ?_ _)))) ⟨w3.heap.size, 0, none⟩ 1 1 [.slice A1 n c1, .int .i32 0] (by rfl) rfl (news_blk (by repeat (first | exact blk_new' _ _ (by first | rfl | simp) | refine blk_drewN ?_ | refine blk_drew ?_ | refine blk_alloc ?_ _))) (two_one rfl rfl) (by unfold maxLen; omega) (by omega) (by first | (have := QW3.out.size; simp; omega) | omega) ?_
    intro v' w4 hown hg
    have Q3X := row_quiet QW3.out hg (by repeat (first | exact Only.refl _ _ | refine Only.drewN ?_ _ | refine Only.drew ?_ | refine Only.alloc ?_ _))
    obtain ⟨p3, p4, p5', A2, c2, hv'⟩ := row_mid H.out (j := 5) (H.out.quiet Q3X).blk (fun q => task_ne H.out (HV.out ▸ q)) hown hg
    subst hv'
    rw [show (worldCells M)[5]? = some M.vt from rfl, HV.out] at p3
    have kb4 := box_keep (H.out.quiet Q3X) (Only.keep (S := fun _ => False) (row_quiet Q23.out hg (by repeat (first | exact Only.refl _ _ | refine Only.drewN ?_ _ | refine Only.drew ?_ | refine Only.alloc ?_ _))) HBB.out (fun x => x)) (HV.out ▸ hg)
    have Q3Y := Lib.hid Q3X
    have HOW := Lib.hid hown
    have HG := Lib.hid hg
    clear hown hg Q3X
    refine hKK.out _ _ ?_ (fun hHeld2 => ?_)
    · try dsimp only
      (first | exact kb2 | exact kb3 | exact kb4 | exact (cell_far sne _ trivial).trans kb4 | go_keep)
    clear hKK KK hHeld
    rename _ => hHeld
    try simp only [Act.put, List.setIfInBounds_toArray, List.set_cons_zero, List.set_cons_succ]
    refine wpAnyH_take (i := 11) (v := ?_) (at_list rfl) (by kernel_rfl) (by kernel_rfl) (by kernel_rfl) (fun _ _ _ h => h) (Or.inl ⟨by rfl, ?_⟩) (by assumption) ?_
    rotate_left
    · intro w hSw
      try dsimp only at hSw
      go_simp
      try with_reducible rfl
    simp only [Act.put, List.setIfInBounds_toArray, List.set_cons_zero, List.set_cons_succ]
    refine wpAnyH_take (i := 12) (v := ?_) (at_list rfl) (by kernel_rfl) (by kernel_rfl) (by kernel_rfl) (fun _ _ _ h => h) (Or.inl ⟨by rfl, ?_⟩) (by assumption) ?_
    rotate_left
    · intro w hSw
      try dsimp only at hSw
      go_simp
      try with_reducible rfl
    simp only [Act.put, List.setIfInBounds_toArray, List.set_cons_zero, List.set_cons_succ]
    refine wpAnyH_ready (rs := [13]) (by kernel_rfl) (by simp) ?_
    refine AllReadyH.cons (at_list rfl) (fun KK hKK => ?_) AllReadyH.nil
    go_simp
    refine hKK.out _ _ ?_ (fun hHeld2 => ?_)
    · try dsimp only
      (first | exact kb2 | exact kb3 | exact kb4 | exact (cell_far sne _ trivial).trans kb4 | go_keep)
    clear hKK KK hHeld
    rename _ => hHeld
    try simp only [Act.put, List.setIfInBounds_toArray, List.set_cons_zero, List.set_cons_succ]
    refine wpAnyH_done (by kernel_rfl) ?_ _
    refine NoPanic.normal ?_
    go_wp2_with fail
    go_ret2
    exact ⟨ret_pred HTT.out, start_end H.out Q3Y.out HLT.out HR.out.len (HTT.out ▸ HOW.out) (HV.out ▸ HG.out) (OpSl.only HOS.out (F := fun _ => False) (by repeat (first | exact Only.refl _ _ | refine Only.drewN ?_ _ | refine Only.drew ?_ | refine Only.alloc ?_ _)) (fun _ _ _ x => x)) hn HMM.out⟩
  · skip
    go_simp
    refine hKK.out _ _ ?_ (fun hHeld2 => ?_)
    · try dsimp only
      (first | exact kb2 | exact kb3 | exact kb4 | exact (cell_far sne _ trivial).trans kb4 | go_keep)
    clear hKK KK hHeld
    rename _ => hHeld
    try simp only [Act.put, List.setIfInBounds_toArray, List.set_cons_zero, List.set_cons_succ]
    refine wpAnyH_ready (rs := [4, 7]) (by kernel_rfl) (by simp) ?_
    refine AllReadyH.cons (at_list rfl) (fun KK hKK => ?_) (AllReadyH.cons (at_list rfl) (fun KK hKK => ?_) AllReadyH.nil)
    · skip
      go_simp
      refine hKK.out _ _ ?_ (fun hHeld2 => ?_)
      · try dsimp only
        (first | exact kb2 | exact kb3 | exact kb4 | exact (cell_far sne _ trivial).trans kb4 | go_keep)
      clear hKK KK hHeld
      rename _ => hHeld
      try simp only [Act.put, List.setIfInBounds_toArray, List.set_cons_zero, List.set_cons_succ]
      refine wpAnyH_ready (rs := [7]) (by kernel_rfl) (by simp) ?_
      refine AllReadyH.cons (at_list rfl) (fun KK hKK => ?_) AllReadyH.nil
      refine step_append_own _ rfl (.tmp 31) (.tmp 32) 22 rfl 0 41 io (.agg #[.int .i64 0, .int .i64 0, .int .i64 0]) 3 24 Try.underlying22 ho0 ho1 ho2 ho3 rfl (by decide) (.slice (some ⟨w2.heap.size, 0, none⟩) 0 0) 0 [] (by rfl) (own_empty (by repeat (first | exact blk_new' _ _ (by first | rfl | simp) | refine blk_drewN ?_ | refine blk_drew ?_ | refine blk_alloc ?_ _)) (Nat.zero_le _)) ad n c (opsF l) (by rfl) (by rw [opsF_len, HR.out.len]) ((HR.out.quiet (Only.trans Q2.out (by repeat (first | exact Only.refl _ _ | refine Only.drewN ?_ _ | refine Only.drew ?_ | refine Only.alloc ?_ _)))).news) (opsF_one l) (by unfold maxLen; omega) (by omega) (Nat.zero_le _) ?_
      intro v1 w3 hown1 hg1
      rw [Nat.zero_add, List.nil_append] at hown1
      obtain ⟨A1, c1, hv1, hos⟩ := own_opsl hown1 HR.out.len
      subst hv1
      have Q23 := Lib.hid (show Quiet w2 w3 from grown_fresh (by repeat (first | exact Only.refl _ _ | refine Only.drewN ?_ _ | refine Only.drew ?_ | refine Only.alloc ?_ _)) hg1 (Nat.le_refl _))
      have QW3 := Lib.hid (Q2.out.trans Q23.out)
      have HOS := Lib.hid hos
      have p5 := (H.out.quiet QW3.out).cells.1.2.2.2.2.2
      rw [HV.out] at p5
      have l2 := (H.out.quiet QW3.out).cells.2.1
      have kb3 := (Q23.out.cell (p := ⟨s, 0, none⟩) l3 (fun x => x)).trans kb2
      clear hown1 hg1 hos
      refine hKK.out _ _ ?_ (fun hHeld2 => ?_)
      · try dsimp only
        (first | exact kb2 | exact kb3 | exact kb4 | exact (cell_far sne _ trivial).trans kb4 | go_keep)
      clear hKK KK hHeld
      rename _ => hHeld
      try simp only [Act.put, List.setIfInBounds_toArray, List.set_cons_zero, List.set_cons_succ]
      refine wpAnyH_take (i := 8) (v := ?_) (at_list rfl) (by kernel_rfl) (by kernel_rfl) (by kernel_rfl) (fun _ _ _ h => h) (Or.inl ⟨by rfl, ?_⟩) (by assumption) ?_
      rotate_left
      · intro w hSw
        try dsimp only at hSw
        go_simp
        try with_reducible rfl
      simp only [Act.put, List.setIfInBounds_toArray, List.set_cons_zero, List.set_cons_succ]
      refine wpAnyH_ready (rs := [9]) (by kernel_rfl) (by simp) ?_
      refine AllReadyH.cons (at_list rfl) (fun KK hKK => ?_) AllReadyH.nil
      go_simp
      refine hKK.out _ _ ?_ (fun hHeld2 => ?_)
      · try dsimp only
        (first | exact kb2 | exact kb3 | exact kb4 | exact (cell_far sne _ trivial).trans kb4 | go_keep)
      clear hKK KK hHeld
      rename _ => hHeld
      try simp only [Act.put, List.setIfInBounds_toArray, List.set_cons_zero, List.set_cons_succ]
      refine wpAnyH_ready (rs := [10]) (by kernel_rfl) (by simp) ?_
      refine AllReadyH.cons (at_list rfl) (fun KK hKK => ?_) AllReadyH.nil
      refine step_append_own _ rfl (.tmp 30) (.tmp 35) 27 rfl M.base 74 it (.agg #[.slice none 0 0, .int .i32 0]) 2 32 Try.underlying27 ht0 ht1 ht2 ht3 rfl (by decide) _ t (fl tc M.ts) (by rfl) (HT.out _ (Only.trans QW3.out (by repeat (first | exact Only.refl _ _ | refine Only.drewN ?_ _ | refine Only.drew ?_ | refine Only.alloc ?_ _)))) ⟨w3.heap.size, 0, none⟩ 1 1 [.slice A1 n c1, .int .i32 0] (by rfl) rfl (news_blk (by repeat (first | exact blk_new' _ _ (by first | rfl | simp) | refine blk_drewN ?_ | refine blk_drew ?_ | refine blk_alloc ?_ _))) (two_one rfl rfl) (by unfold maxLen; omega) (by omega) (by first | (have := QW3.out.size; simp; omega) | omega) ?_
      intro v' w4 hown hg
      have Q3X := row_quiet QW3.out hg (by repeat (first | exact Only.refl _ _ | refine Only.drewN ?_ _ | refine Only.drew ?_ | refine Only.alloc ?_ _))
      obtain ⟨p3, p4, p5', A2, c2, hv'⟩ := row_mid H.out (j := 5) (H.out.quiet Q3X).blk (fun q => task_ne H.out (HV.out ▸ q)) hown hg
      subst hv'
      rw [show (worldCells M)[5]? = some M.vt from rfl, HV.out] at p3
      have kb4 := box_keep (H.out.quiet Q3X) (Only.keep (S := fun _ => False) (row_quiet Q23.out hg (by repeat (first | exact Only.refl _ _ | refine Only.drewN ?_ _ | refine Only.drew ?_ | refine Only.alloc ?_ _))) HBB.out (fun x => x)) (HV.out ▸ hg)
      have Q3Y := Lib.hid Q3X
      have HOW := Lib.hid hown
      have HG := Lib.hid hg
      clear hown hg Q3X
      refine hKK.out _ _ ?_ (fun hHeld2 => ?_)
      · try dsimp only
        (first | exact kb2 | exact kb3 | exact kb4 | exact (cell_far sne _ trivial).trans kb4 | go_keep)
      clear hKK KK hHeld
      rename _ => hHeld
      try simp only [Act.put, List.setIfInBounds_toArray, List.set_cons_zero, List.set_cons_succ]
      refine wpAnyH_take (i := 11) (v := ?_) (at_list rfl) (by kernel_rfl) (by kernel_rfl) (by kernel_rfl) (fun _ _ _ h => h) (Or.inl ⟨by rfl, ?_⟩) (by assumption) ?_
      rotate_left
      · intro w hSw
        try dsimp only at hSw
        go_simp
        try with_reducible rfl
      simp only [Act.put, List.setIfInBounds_toArray, List.set_cons_zero, List.set_cons_succ]
      refine wpAnyH_take (i := 12) (v := ?_) (at_list rfl) (by kernel_rfl) (by kernel_rfl) (by kernel_rfl) (fun _ _ _ h => h) (Or.inl ⟨by rfl, ?_⟩) (by assumption) ?_
      rotate_left
      · intro w hSw
        try dsimp only at hSw
        go_simp
        try with_reducible rfl
      simp only [Act.put, List.setIfInBounds_toArray, List.set_cons_zero, List.set_cons_succ]
      refine wpAnyH_ready (rs := [13]) (by kernel_rfl) (by simp) ?_
      refine AllReadyH.cons (at_list rfl) (fun KK hKK => ?_) AllReadyH.nil
      go_simp
      refine hKK.out _ _ ?_ (fun hHeld2 => ?_)
      · try dsimp only
        (first | exact kb2 | exact kb3 | exact kb4 | exact (cell_far sne _ trivial).trans kb4 | go_keep)
      clear hKK KK hHeld
      rename _ => hHeld
      try simp only [Act.put, List.setIfInBounds_toArray, List.set_cons_zero, List.set_cons_succ]
      refine wpAnyH_done (by kernel_rfl) ?_ _
      refine NoPanic.normal ?_
      go_wp2_with fail
      go_ret2
      exact ⟨ret_pred HTT.out, start_end H.out Q3Y.out HLT.out HR.out.len (HTT.out ▸ HOW.out) (HV.out ▸ HG.out) (OpSl.only HOS.out (F := fun _ => False) (by repeat (first | exact Only.refl _ _ | refine Only.drewN ?_ _ | refine Only.drew ?_ | refine Only.alloc ?_ _)) (fun _ _ _ x => x)) hn HMM.out⟩
    · skip
      refine step_append_own _ rfl (.tmp 31) (.tmp 32) 22 rfl 0 41 io (.agg #[.int .i64 0, .int .i64 0, .int .i64 0]) 3 24 Try.underlying22 ho0 ho1 ho2 ho3 rfl (by decide) (.slice (some ⟨w2.heap.size, 0, none⟩) 0 0) 0 [] (by rfl) (own_empty (by repeat (first | exact blk_new' _ _ (by first | rfl | simp) | refine blk_drewN ?_ | refine blk_drew ?_ | refine blk_alloc ?_ _)) (Nat.zero_le _)) ad n c (opsF l) (by rfl) (by rw [opsF_len, HR.out.len]) ((HR.out.quiet (Only.trans Q2.out (by repeat (first | exact Only.refl _ _ | refine Only.drewN ?_ _ | refine Only.drew ?_ | refine Only.alloc ?_ _)))).news) (opsF_one l) (by unfold maxLen; omega) (by omega) (Nat.zero_le _) ?_
      intro v1 w3 hown1 hg1
      rw [Nat.zero_add, List.nil_append] at hown1
      obtain ⟨A1, c1, hv1, hos⟩ := own_opsl hown1 HR.out.len
      subst hv1
      have Q23 := Lib.hid (show Quiet w2 w3 from grown_fresh (by repeat (first | exact Only.refl _ _ | refine Only.drewN ?_ _ | refine Only.drew ?_ | refine Only.alloc ?_ _)) hg1 (Nat.le_refl _))
      have QW3 := Lib.hid (Q2.out.trans Q23.out)
      have HOS := Lib.hid hos
      have p5 := (H.out.quiet QW3.out).cells.1.2.2.2.2.2
      rw [HV.out] at p5
      have l2 := (H.out.quiet QW3.out).cells.2.1
      have kb3 := (Q23.out.cell (p := ⟨s, 0, none⟩) l3 (fun x => x)).trans kb2
      clear hown1 hg1 hos
      refine hKK.out _ _ ?_ (fun hHeld2 => ?_)
      · try dsimp only
        (first | exact kb2 | exact kb3 | exact kb4 | exact (cell_far sne _ trivial).trans kb4 | go_keep)
      clear hKK KK hHeld
      rename _ => hHeld
      try simp only [Act.put, List.setIfInBounds_toArray, List.set_cons_zero, List.set_cons_succ]
      refine wpAnyH_take (i := 8) (v := ?_) (at_list rfl) (by kernel_rfl) (by kernel_rfl) (by kernel_rfl) (fun _ _ _ h => h) (Or.inl ⟨by rfl, ?_⟩) (by assumption) ?_
      rotate_left
      · intro w hSw
        try dsimp only at hSw
        go_simp
        try with_reducible rfl
      simp only [Act.put, List.setIfInBounds_toArray, List.set_cons_zero, List.set_cons_succ]
      refine wpAnyH_ready (rs := [4, 9]) (by kernel_rfl) (by simp) ?_
      refine AllReadyH.cons (at_list rfl) (fun KK hKK => ?_) (AllReadyH.cons (at_list rfl) (fun KK hKK => ?_) AllReadyH.nil)
      · skip
        go_simp
        refine hKK.out _ _ ?_ (fun hHeld2 => ?_)
        · try dsimp only
          (first | exact kb2 | exact kb3 | exact kb4 | exact (cell_far sne _ trivial).trans kb4 | go_keep)
        clear hKK KK hHeld
        rename _ => hHeld
        try simp only [Act.put, List.setIfInBounds_toArray, List.set_cons_zero, List.set_cons_succ]
        refine wpAnyH_ready (rs := [9]) (by kernel_rfl) (by simp) ?_
        refine AllReadyH.cons (at_list rfl) (fun KK hKK => ?_) AllReadyH.nil
        go_simp
        refine hKK.out _ _ ?_ (fun hHeld2 => ?_)
        · try dsimp only
          (first | exact kb2 | exact kb3 | exact kb4 | exact (cell_far sne _ trivial).trans kb4 | go_keep)
        clear hKK KK hHeld
        rename _ => hHeld
        try simp only [Act.put, List.setIfInBounds_toArray, List.set_cons_zero, List.set_cons_succ]
        refine wpAnyH_ready (rs := [10]) (by kernel_rfl) (by simp) ?_
        refine AllReadyH.cons (at_list rfl) (fun KK hKK => ?_) AllReadyH.nil
        refine step_append_own _ rfl (.tmp 30) (.tmp 35) 27 rfl M.base 74 it (.agg #[.slice none 0 0, .int .i32 0]) 2 32 Try.underlying27 ht0 ht1 ht2 ht3 rfl (by decide) _ t (fl tc M.ts) (by rfl) (HT.out _ (Only.trans QW3.out (by repeat (first | exact Only.refl _ _ | refine Only.drewN ?_ _ | refine Only.drew ?_ | refine Only.alloc ?_ _)))) ⟨w3.heap.size, 0, none⟩ 1 1 [.slice A1 n c1, .int .i32 0] (by rfl) rfl (news_blk (by repeat (first | exact blk_new' _ _ (by first | rfl | simp) | refine blk_drewN ?_ | refine blk_drew ?_ | refine blk_alloc ?_ _))) (two_one rfl rfl) (by unfold maxLen; omega) (by omega) (by first | (have := QW3.out.size; simp; omega) | omega) ?_
        intro v' w4 hown hg
        have Q3X := row_quiet QW3.out hg (by repeat (first | exact Only.refl _ _ | refine Only.drewN ?_ _ | refine Only.drew ?_ | refine Only.alloc ?_ _))
        obtain ⟨p3, p4, p5', A2, c2, hv'⟩ := row_mid H.out (j := 5) (H.out.quiet Q3X).blk (fun q => task_ne H.out (HV.out ▸ q)) hown hg
        subst hv'
        rw [show (worldCells M)[5]? = some M.vt from rfl, HV.out] at p3
        have kb4 := box_keep (H.out.quiet Q3X) (Only.keep (S := fun _ => False) (row_quiet Q23.out hg (by repeat (first | exact Only.refl _ _ | refine Only.drewN ?_ _ | refine Only.drew ?_ | refine Only.alloc ?_ _))) HBB.out (fun x => x)) (HV.out ▸ hg)
        have Q3Y := Lib.hid Q3X
        have HOW := Lib.hid hown
        have HG := Lib.hid hg
        clear hown hg Q3X
        refine hKK.out _ _ ?_ (fun hHeld2 => ?_)
        · try dsimp only
          (first | exact kb2 | exact kb3 | exact kb4 | exact (cell_far sne _ trivial).trans kb4 | go_keep)
        clear hKK KK hHeld
        rename _ => hHeld
        try simp only [Act.put, List.setIfInBounds_toArray, List.set_cons_zero, List.set_cons_succ]
        refine wpAnyH_take (i := 11) (v := ?_) (at_list rfl) (by kernel_rfl) (by kernel_rfl) (by kernel_rfl) (fun _ _ _ h => h) (Or.inl ⟨by rfl, ?_⟩) (by assumption) ?_
        rotate_left
        · intro w hSw
          try dsimp only at hSw
          go_simp
          try with_reducible rfl
        simp only [Act.put, List.setIfInBounds_toArray, List.set_cons_zero, List.set_cons_succ]
        refine wpAnyH_take (i := 12) (v := ?_) (at_list rfl) (by kernel_rfl) (by kernel_rfl) (by kernel_rfl) (fun _ _ _ h => h) (Or.inl ⟨by rfl, ?_⟩) (by assumption) ?_
        rotate_left
        · intro w hSw
          try dsimp only at hSw
          go_simp
          try with_reducible rfl
        simp only [Act.put, List.setIfInBounds_toArray, List.set_cons_zero, List.set_cons_succ]
        refine wpAnyH_ready (rs := [13]) (by kernel_rfl) (by simp) ?_
        refine AllReadyH.cons (at_list rfl) (fun KK hKK => ?_) AllReadyH.nil
        go_simp
        refine hKK.out _ _ ?_ (fun hHeld2 => ?_)
        · try dsimp only
          (first | exact kb2 | exact kb3 | exact kb4 | exact (cell_far sne _ trivial).trans kb4 | go_keep)
        clear hKK KK hHeld
        rename _ => hHeld
        try simp only [Act.put, List.setIfInBounds_toArray, List.set_cons_zero, List.set_cons_succ]
        refine wpAnyH_done (by kernel_rfl) ?_ _
        refine NoPanic.normal ?_
        go_wp2_with fail
        go_ret2
        exact ⟨ret_pred HTT.out, start_end H.out Q3Y.out HLT.out HR.out.len (HTT.out ▸ HOW.out) (HV.out ▸ HG.out) (OpSl.only HOS.out (F := fun _ => False) (by repeat (first | exact Only.refl _ _ | refine Only.drewN ?_ _ | refine Only.drew ?_ | refine Only.alloc ?_ _)) (fun _ _ _ x => x)) hn HMM.out⟩
      · skip
        go_simp
        refine hKK.out _ _ ?_ (fun hHeld2 => ?_)
        · try dsimp only
          (first | exact kb2 | exact kb3 | exact kb4 | exact (cell_far sne _ trivial).trans kb4 | go_keep)
        clear hKK KK hHeld
        rename _ => hHeld
        try simp only [Act.put, List.setIfInBounds_toArray, List.set_cons_zero, List.set_cons_succ]
        refine wpAnyH_ready (rs := [4]) (by kernel_rfl) (by simp) ?_
        refine AllReadyH.cons (at_list rfl) (fun KK hKK => ?_) AllReadyH.nil
        go_simp
        refine hKK.out _ _ ?_ (fun hHeld2 => ?_)
        · try dsimp only
          (first | exact kb2 | exact kb3 | exact kb4 | exact (cell_far sne _ trivial).trans kb4 | go_keep)
        clear hKK KK hHeld
        rename _ => hHeld
        try simp only [Act.put, List.setIfInBounds_toArray, List.set_cons_zero, List.set_cons_succ]
        refine wpAnyH_ready (rs := [10]) (by kernel_rfl) (by simp) ?_
        refine AllReadyH.cons (at_list rfl) (fun KK hKK => ?_) AllReadyH.nil
        refine step_append_own _ rfl (.tmp 30) (.tmp 35) 27 rfl M.base 74 it (.agg #[.slice none 0 0, .int .i32 0]) 2 32 Try.underlying27 ht0 ht1 ht2 ht3 rfl (by decide) _ t (fl tc M.ts) (by rfl) (HT.out _ (Only.trans QW3.out (by repeat (first | exact Only.refl _ _ | refine Only.drewN ?_ _ | refine Only.drew ?_ | refine Only.alloc ?_ _)))) ⟨w3.heap.size, 0, none⟩ 1 1 [.slice A1 n c1, .int .i32 0] (by rfl) rfl (news_blk (by repeat (first | exact blk_new' _ _ (by first | rfl | simp) | refine blk_drewN ?_ | refine blk_drew ?_ | refine blk_alloc ?_ _))) (two_one rfl rfl) (by unfold maxLen; omega) (by omega) (by first | (have := QW3.out.size; simp; omega) | omega) ?_
        intro v' w4 hown hg
        have Q3X := row_quiet QW3.out hg (by repeat (first | exact Only.refl _ _ | refine Only.drewN ?_ _ | refine Only.drew ?_ | refine Only.alloc ?_ _))
        obtain ⟨p3, p4, p5', A2, c2, hv'⟩ := row_mid H.out (j := 5) (H.out.quiet Q3X).blk (fun q => task_ne H.out (HV.out ▸ q)) hown hg
        subst hv'
        rw [show (worldCells M)[5]? = some M.vt from rfl, HV.out] at p3
        have kb4 := box_keep (H.out.quiet Q3X) (Only.keep (S := fun _ => False) (row_quiet Q23.out hg (by repeat (first | exact Only.refl _ _ | refine Only.drewN ?_ _ | refine Only.drew ?_ | refine Only.alloc ?_ _))) HBB.out (fun x => x)) (HV.out ▸ hg)
        have Q3Y := Lib.hid Q3X
        have HOW := Lib.hid hown
        have HG := Lib.hid hg
        clear hown hg Q3X
        refine hKK.out _ _ ?_ (fun hHeld2 => ?_)
        · try dsimp only
          (first | exact kb2 | exact kb3 | exact kb4 | exact (cell_far sne _ trivial).trans kb4 | go_keep)
        clear hKK KK hHeld
        rename _ => hHeld
        try simp only [Act.put, List.setIfInBounds_toArray, List.set_cons_zero, List.set_cons_succ]
        refine wpAnyH_take (i := 11) (v := ?_) (at_list rfl) (by kernel_rfl) (by kernel_rfl) (by kernel_rfl) (fun _ _ _ h => h) (Or.inl ⟨by rfl, ?_⟩) (by assumption) ?_
        rotate_left
        · intro w hSw
          try dsimp only at hSw
          go_simp
          try with_reducible rfl
        simp only [Act.put, List.setIfInBounds_toArray, List.set_cons_zero, List.set_cons_succ]
        refine wpAnyH_take (i := 12) (v := ?_) (at_list rfl) (by kernel_rfl) (by kernel_rfl) (by kernel_rfl) (fun _ _ _ h => h) (Or.inl ⟨by rfl, ?_⟩) (by assumption) ?_
        rotate_left
        · intro w hSw
          try dsimp only at hSw
          go_simp
          try with_reducible rfl
        simp only [Act.put, List.setIfInBounds_toArray, List.set_cons_zero, List.set_cons_succ]
        refine wpAnyH_ready (rs := [13]) (by kernel_rfl) (by simp) ?_
        refine AllReadyH.cons (at_list rfl) (fun KK hKK => ?_) AllReadyH.nil
        go_simp
        refine hKK.out _ _ ?_ (fun hHeld2 => ?_)
        · try dsimp only
          (first | exact kb2 | exact kb3 | exact kb4 | exact (cell_far sne _ trivial).trans kb4 | go_keep)
        clear hKK KK hHeld
        rename _ => hHeld
        try simp only [Act.put, List.setIfInBounds_toArray, List.set_cons_zero, List.set_cons_succ]
        refine wpAnyH_done (by kernel_rfl) ?_ _
        refine NoPanic.normal ?_
        go_wp2_with fail
        go_ret2
        exact ⟨ret_pred HTT.out, start_end H.out Q3Y.out HLT.out HR.out.len (HTT.out ▸ HOW.out) (HV.out ▸ HG.out) (OpSl.only HOS.out (F := fun _ => False) (by repeat (first | exact Only.refl _ _ | refine Only.drewN ?_ _ | refine Only.drew ?_ | refine Only.alloc ?_ _)) (fun _ _ _ x => x)) hn HMM.out⟩
set_option maxRecDepth 8000 in
set_option maxHeartbeats 8000000 in
theorem start_none {w : World} {M : TMem} (h : TAt w M) {n c : Nat} {l : List Op3} (hr : OpRd w none n c l)
    (hne : M.ts.length ≠ 64) (hm : l.all (mayB M.wd) = true) (hn : n ≤ 1000) :
    Calls Try.prog 9 #[.pointer (some ⟨M.p, 0, none⟩), .slice none n c] w fun e w' => e = .returned (.tuple #[.int .i64 (M.ts.length : Int), .int .i64 0]) ∧ DPost M w { M.wd with tasks := M.wd.tasks ++ [⟨l, 0⟩] } w' := by
  obtain ⟨rfl, rfl⟩ := hr.nil rfl
  obtain rfl : l = [] := List.eq_nil_of_length_eq_zero hr.len
  obtain ⟨⟨c0, c1, c2, c3, c4, c5⟩, ps, pf⟩ := h.cells
  have f5 := pf 5
  obtain ⟨A', cap, hv, hcm⟩ := h.tasks.shape
  have hsm := h.fit.tasks
  rw [h.tlen] at hsm
  have hsmi : (M.ts.length : Int) ≤ 64 := by omega
  unfold maxLen at hcm
  have k0 : (w.alloc (.cells #[.slice none 0 0] 22)).cell? ⟨M.p, 0, none⟩ = some (.bool true) := (((Only.refl (fun _ => False) w).alloc (.cells #[.slice none 0 0] 22)).cell (p := ⟨M.p, 0, none⟩) ps (fun x => x)).trans c0
  have k5 : (w.alloc (.cells #[.slice none 0 0] 22)).cell? ⟨M.p, 5, none⟩ = some M.vt := (((Only.refl (fun _ => False) w).alloc (.cells #[.slice none 0 0] 22)).cell (p := ⟨M.p, 5, none⟩) ps (fun x => x)).trans c5
  have kb : (w.alloc (.cells #[.slice none 0 0] 22)).heap[w.heap.size]? = some (.cells #[.slice none 0 0] 22 (0, 0)) := blk_new _ _
  have QW := Lib.hid (show Quiet w (w.alloc (.cells #[.slice none 0 0] 22)) from (Only.refl _ _).alloc _)
  have k1 : M.p < (w.alloc (.cells #[.slice none 0 0] 22)).heap.size := by simp; omega
  have g1 : M.p < w.heap.size + 1 := by omega
  obtain ⟨io, ho0, ho1, ho2, ho3⟩ := info_parts Try.info41
  obtain ⟨it, ht0, ht1, ht2, ht3⟩ := info_parts Try.info74
  have HALL := Lib.hid (all_at (h.quiet QW.out) kb (hr.quiet QW.out))
  rw [hm] at HALL
  rw [hv] at c5 k5
  have hnc := hr.le
  have hccm := hr.cap
  unfold maxLen at hccm
  have HKB := Lib.hid kb
  have hlo := h.lo
  have HT := Lib.hid (fun (W : World) (hW : Quiet w W) => (h.quiet hW).tasks)
  unfold OwnF at HT
  rw [hv] at HT
  have HV := Lib.hid hv
  have HR := Lib.hid hr
  have H := Lib.hid h
  have HMM := Lib.hid hm
  have hnei : ((M.ts.length : Int) == 64) = false := by simp; omega
  have hlt : M.ts.length < 64 := by omega
  have HLT := Lib.hid hlt
  obtain ⟨t, ht⟩ : ∃ t, t = M.ts.length := ⟨_, rfl⟩
  rw [← ht] at c5 k5 hsm hsmi HT hnei hlt HV
  have HTT := Lib.hid ht
  clear h hr hv kb c1 c2 c3 c4 pf ht hm hne
  have HS := Lib.hid (show w.heap.size < (w.alloc (.cells #[.slice none 0 0] 22)).heap.size by simp)
  obtain ⟨s, hs⟩ : ∃ s, s = w.heap.size := ⟨_, rfl⟩
  go_enter Try.func9, Try.ntmps9
  go_wp2_with (first
    | (go_at_call 24; refine (none_of _ _ k0 k1).mono ?_; rintro e w2 ⟨rfl, rfl⟩)
    | (go_at_call 25; refine HALL.out.mono ?_; rintro e w2 ⟨rfl, hq⟩; have Q2 := Lib.hid (QW.out.trans hq); have kb2 := box_not (hq.keep HKB.out (fun x => x)); have HBB := Lib.hid (hq.keep HKB.out (fun x => x)); have p5 := (hq.cell (p := ⟨M.p, 5, none⟩) k1 (fun x => x)).trans k5; have l2 : M.p < w2.heap.size := Nat.lt_of_lt_of_le k1 hq.size; have l3 : w.heap.size < w2.heap.size := Nat.lt_of_lt_of_le HS.out hq.size; have pf2 : w2.frozen? ⟨M.p, 5, none⟩ = false := blk_frozen ((H.out.quiet Q2.out).blk) 5; clear hq))
  rw [← hs] at kb2 l3 HBB ⊢
  have sne : s ≠ M.p := blk_ne HBB.out (H.out.quiet Q2.out).blk (by decide)
  clear c0 c5 k0 k5 k1 g1 f5 ps
  have HSS := Lib.hid hs; clear hs
  refine wp_region_noPanic ?_
  refine wp_region_held_drew (S := (fun w' => w'.cell? ⟨s, 0, none⟩ = some (.slice none 0 0))) (by kernel_rfl) ?_ (fun hHeld => ?_)
  · try dsimp only
    (first | exact kb2 | exact kb3 | exact kb4 | exact (cell_far sne _ trivial).trans kb4 | go_keep)
  refine wpAnyH_take (i := 0) (v := ?_) (at_list rfl) (by kernel_rfl) (by kernel_rfl) (by kernel_rfl) (fun _ _ _ h => h) (Or.inl ⟨by rfl, ?_⟩) (by assumption) ?_
  rotate_left
  · intro w hSw
    try dsimp only at hSw
    go_simp
    try with_reducible rfl
  simp only [Act.put, List.setIfInBounds_toArray, List.set_cons_zero, List.set_cons_succ]
  refine wpAnyH_take (i := 1) (v := ?_) (at_list rfl) (by kernel_rfl) (by kernel_rfl) (by kernel_rfl) (fun _ _ _ h => h) (Or.inl ⟨by rfl, ?_⟩) (by assumption) ?_
  rotate_left
  · intro w hSw
    try dsimp only at hSw
    go_simp
    try with_reducible rfl
  simp only [Act.put, List.setIfInBounds_toArray, List.set_cons_zero, List.set_cons_succ]
  refine wpAnyH_take (i := 2) (v := ?_) (at_list rfl) (by kernel_rfl) (by kernel_rfl) (by kernel_rfl) (fun _ _ _ h => h) (Or.inl ⟨by rfl, ?_⟩) (by assumption) ?_
  rotate_left
  · intro w hSw
    try dsimp only at hSw
    go_simp
    try with_reducible rfl
  simp only [Act.put, List.setIfInBounds_toArray, List.set_cons_zero, List.set_cons_succ]
  refine wpAnyH_take (i := 3) (v := ?_) (at_list rfl) (by kernel_rfl) (by kernel_rfl) (by kernel_rfl) (fun _ _ _ h => h) (Or.inl ⟨by rfl, ?_⟩) (by assumption) ?_
  rotate_left
  · intro w hSw
    try dsimp only at hSw
    go_simp
    try with_reducible rfl
  simp only [Act.put, List.setIfInBounds_toArray, List.set_cons_zero, List.set_cons_succ]
  refine wpAnyH_take (i := 6) (v := ?_) (at_list rfl) (by kernel_rfl) (by kernel_rfl) (by kernel_rfl) (fun _ _ _ h => h) (Or.inl ⟨by rfl, ?_⟩) (by assumption) ?_
  rotate_left
  · intro w hSw
    try dsimp only at hSw
    go_simp
    try with_reducible rfl
  simp only [Act.put, List.setIfInBounds_toArray, List.set_cons_zero, List.set_cons_succ]
  refine wpAnyH_ready (rs := [4, 5]) (by kernel_rfl) (by simp) ?_
  refine AllReadyH.cons (at_list rfl) (fun KK hKK => ?_) (AllReadyH.cons (at_list rfl) (fun KK hKK => ?_) AllReadyH.nil)
  · skip
    go_simp
    refine hKK.out _ _ ?_ (fun hHeld2 => ?_)
    · try dsimp only
      (first | exact kb2 | exact kb3 | exact kb4 | exact (cell_far sne _ trivial).trans kb4 | go_keep)
    clear hKK KK hHeld
    rename _ => hHeld
    try simp only [Act.put, List.setIfInBounds_toArray, List.set_cons_zero, List.set_cons_succ]
    refine wpAnyH_ready (rs := [5]) (by kernel_rfl) (by simp) ?_
    refine AllReadyH.cons (at_list rfl) (fun KK hKK => ?_) AllReadyH.nil
    go_simp
    refine hKK.out _ _ ?_ (fun hHeld2 => ?_)
    · try dsimp only
      (first | exact kb2 | exact kb3 | exact kb4 | exact (cell_far sne _ trivial).trans kb4 | go_keep)
    clear hKK KK hHeld
    rename _ => hHeld
    try simp only [Act.put, List.setIfInBounds_toArray, List.set_cons_zero, List.set_cons_succ]
    refine wpAnyH_ready (rs := [7]) (by kernel_rfl) (by simp) ?_
    refine AllReadyH.cons (at_list rfl) (fun KK hKK => ?_) AllReadyH.nil
    refine step_append_none2 _ rfl (.tmp 31) (.tmp 32) 22 rfl 0 41 io 3 Try.underlying22 ho0 (.slice (some ⟨w2.heap.size, 0, none⟩) 0 0) 0 [] (by rfl) (own_empty (by repeat (first | exact blk_new' _ _ (by first | rfl | simp) | refine blk_drewN ?_ | refine blk_drew ?_ | refine blk_alloc ?_ _)) (Nat.zero_le _)) (by rfl) ?_
    intro w3 hw3
    have hos : OpSl w3 (some ⟨w2.heap.size, 0, none⟩) 0 0 [] := by
      rw [hw3]
      exact opsl_empty (by repeat (first | exact blk_new' _ _ (by first | rfl | simp) | refine blk_drewN ?_ | refine blk_drew ?_ | refine blk_alloc ?_ _))
    have Q23 := Lib.hid (show Quiet w2 w3 by rw [hw3]; exact (by repeat (first | exact Only.refl _ _ | refine Only.drewN ?_ _ | refine Only.drew ?_ | refine Only.alloc ?_ _)))
    have QW3 := Lib.hid (Q2.out.trans Q23.out)
    have HOS := Lib.hid hos
    have p5 := (H.out.quiet QW3.out).cells.1.2.2.2.2.2
    rw [HV.out] at p5
    have l2 := (H.out.quiet QW3.out).cells.2.1
    have kb3 := (Q23.out.cell (p := ⟨s, 0, none⟩) l3 (fun x => x)).trans kb2
    clear hos hw3
    refine hKK.out _ _ ?_ (fun hHeld2 => ?_)
    · try dsimp only
      (first | exact kb2 | exact kb3 | exact kb4 | exact (cell_far sne _ trivial).trans kb4 | go_keep)
    clear hKK KK hHeld
    rename _ => hHeld
    try simp only [Act.put, List.setIfInBounds_toArray, List.set_cons_zero, List.set_cons_succ]
    refine wpAnyH_take (i := 8) (v := ?_) (at_list rfl) (by kernel_rfl) (by kernel_rfl) (by kernel_rfl) (fun _ _ _ h => h) (Or.inl ⟨by rfl, ?_⟩) (by assumption) ?_
    rotate_left
    · intro w hSw
      try dsimp only at hSw
      go_simp
      try with_reducible rfl
    simp only [Act.put, List.setIfInBounds_toArray, List.set_cons_zero, List.set_cons_succ]
    refine wpAnyH_ready (rs := [9]) (by kernel_rfl) (by simp) ?_
    refine AllReadyH.cons (at_list rfl) (fun KK hKK => ?_) AllReadyH.nil
    go_simp
    refine hKK.out _ _ ?_ (fun hHeld2 => ?_)
    · try dsimp only
      (first | exact kb2 | exact kb3 | exact kb4 | exact (cell_far sne _ trivial).trans kb4 | go_keep)
    clear hKK KK hHeld
    rename _ => hHeld
    try simp only [Act.put, List.setIfInBounds_toArray, List.set_cons_zero, List.set_cons_succ]
    refine wpAnyH_ready (rs := [10]) (by kernel_rfl) (by simp) ?_
    refine AllReadyH.cons (at_list rfl) (fun KK hKK => ?_) AllReadyH.nil
    refine step_append_own _ rfl (.tmp 30) (.tmp 35) 27 rfl M.base 74 it (.agg #[.slice none 0 0, .int .i32 0]) 2 32 Try.underlying27 ht0 ht1 ht2 ht3 rfl (by decide) _ t (fl tc M.ts) (by rfl) (HT.out _ (Only.trans QW3.out (by repeat (first | exact Only.refl _ _ | refine Only.drewN ?_ _ | refine Only.drew ?_ | refine Only.alloc ?_ _)))) ⟨w3.heap.size, 0, none⟩ 1 1 [.slice (some ⟨w2.heap.size, 0, none⟩) 0 0, .int .i32 0] (by rfl) rfl (news_blk (by repeat (first | exact blk_new' _ _ (by first | rfl | simp) | refine blk_drewN ?_ | refine blk_drew ?_ | refine blk_alloc ?_ _))) (two_one rfl rfl) (by unfold maxLen; omega) (by omega) (by first | (have := QW3.out.size; simp; omega) | omega) ?_
    intro v' w4 hown hg
    have Q3X := row_quiet QW3.out hg (by repeat (first | exact Only.refl _ _ | refine Only.drewN ?_ _ | refine Only.drew ?_ | refine Only.alloc ?_ _))
    obtain ⟨p3, p4, p5', A2, c2, hv'⟩ := row_mid H.out (j := 5) (H.out.quiet Q3X).blk (fun q => task_ne H.out (HV.out ▸ q)) hown hg
    subst hv'
    rw [show (worldCells M)[5]? = some M.vt from rfl, HV.out] at p3
    have kb4 := box_keep (H.out.quiet Q3X) (Only.keep (S := fun _ => False) (row_quiet Q23.out hg (by repeat (first | exact Only.refl _ _ | refine Only.drewN ?_ _ | refine Only.drew ?_ | refine Only.alloc ?_ _))) HBB.out (fun x => x)) (HV.out ▸ hg)
    have Q3Y := Lib.hid Q3X
    have HOW := Lib.hid hown
    have HG := Lib.hid hg
    clear hown hg Q3X
    refine hKK.out _ _ ?_ (fun hHeld2 => ?_)
    · try dsimp only
      (first | exact kb2 | exact kb3 | exact kb4 | exact (cell_far sne _ trivial).trans kb4 | go_keep)
    clear hKK KK hHeld
    rename _ => hHeld
    try simp only [Act.put, List.setIfInBounds_toArray, List.set_cons_zero, List.set_cons_succ]
    refine wpAnyH_take (i := 11) (v := ?_) (at_list rfl) (by kernel_rfl) (by kernel_rfl) (by kernel_rfl) (fun _ _ _ h => h) (Or.inl ⟨by rfl, ?_⟩) (by assumption) ?_
    rotate_left
    · intro w hSw
      try dsimp only at hSw
      go_simp
      try with_reducible rfl
    simp only [Act.put, List.setIfInBounds_toArray, List.set_cons_zero, List.set_cons_succ]
    refine wpAnyH_take (i := 12) (v := ?_) (at_list rfl) (by kernel_rfl) (by kernel_rfl) (by kernel_rfl) (fun _ _ _ h => h) (Or.inl ⟨by rfl, ?_⟩) (by assumption) ?_
    rotate_left
    · intro w hSw
      try dsimp only at hSw
      go_simp
      try with_reducible rfl
    simp only [Act.put, List.setIfInBounds_toArray, List.set_cons_zero, List.set_cons_succ]
    refine wpAnyH_ready (rs := [13]) (by kernel_rfl) (by simp) ?_
    refine AllReadyH.cons (at_list rfl) (fun KK hKK => ?_) AllReadyH.nil
    go_simp
    refine hKK.out _ _ ?_ (fun hHeld2 => ?_)
    · try dsimp only
      (first | exact kb2 | exact kb3 | exact kb4 | exact (cell_far sne _ trivial).trans kb4 | go_keep)
    clear hKK KK hHeld
    rename _ => hHeld
    try simp only [Act.put, List.setIfInBounds_toArray, List.set_cons_zero, List.set_cons_succ]
    refine wpAnyH_done (by kernel_rfl) ?_ _
    refine NoPanic.normal ?_
    go_wp2_with fail
    go_ret2
    exact ⟨ret_pred HTT.out, start_end H.out Q3Y.out HLT.out HR.out.len (HTT.out ▸ HOW.out) (HV.out ▸ HG.out) (OpSl.only HOS.out (F := fun _ => False) (by repeat (first | exact Only.refl _ _ | refine Only.drewN ?_ _ | refine Only.drew ?_ | refine Only.alloc ?_ _)) (fun _ _ _ x => x)) hn HMM.out⟩
  · skip
    go_simp
    refine hKK.out _ _ ?_ (fun hHeld2 => ?_)
    · try dsimp only
      (first | exact kb2 | exact kb3 | exact kb4 | exact (cell_far sne _ trivial).trans kb4 | go_keep)
    clear hKK KK hHeld
    rename _ => hHeld
    try simp only [Act.put, List.setIfInBounds_toArray, List.set_cons_zero, List.set_cons_succ]
    refine wpAnyH_ready (rs := [4, 7]) (by kernel_rfl) (by simp) ?_
    refine AllReadyH.cons (at_list rfl) (fun KK hKK => ?_) (AllReadyH.cons (at_list rfl) (fun KK hKK => ?_) AllReadyH.nil)
    · skip
      go_simp
      refine hKK.out _ _ ?_ (fun hHeld2 => ?_)
      · try dsimp only
        (first | exact kb2 | exact kb3 | exact kb4 | exact (cell_far sne _ trivial).trans kb4 | go_keep)
      clear hKK KK hHeld
      rename _ => hHeld
      try simp only [Act.put, List.setIfInBounds_toArray, List.set_cons_zero, List.set_cons_succ]
      refine wpAnyH_ready (rs := [7]) (by kernel_rfl) (by simp) ?_
      refine AllReadyH.cons (at_list rfl) (fun KK hKK => ?_) AllReadyH.nil
      refine step_append_none2 _ rfl (.tmp 31) (.tmp 32) 22 rfl 0 41 io 3 Try.underlying22 ho0 (.slice (some ⟨w2.heap.size, 0, none⟩) 0 0) 0 [] (by rfl) (own_empty (by repeat (first | exact blk_new' _ _ (by first | rfl | simp) | refine blk_drewN ?_ | refine blk_drew ?_ | refine blk_alloc ?_ _)) (Nat.zero_le _)) (by rfl) ?_
      intro w3 hw3
      have hos : OpSl w3 (some ⟨w2.heap.size, 0, none⟩) 0 0 [] := by
        rw [hw3]
        exact opsl_empty (by repeat (first | exact blk_new' _ _ (by first | rfl | simp) | refine blk_drewN ?_ | refine blk_drew ?_ | refine blk_alloc ?_ _))
      have Q23 := Lib.hid (show Quiet w2 w3 by rw [hw3]; exact (by repeat (first | exact Only.refl _ _ | refine Only.drewN ?_ _ | refine Only.drew ?_ | refine Only.alloc ?_ _)))
      have QW3 := Lib.hid (Q2.out.trans Q23.out)
      have HOS := Lib.hid hos
      have p5 := (H.out.quiet QW3.out).cells.1.2.2.2.2.2
      rw [HV.out] at p5
      have l2 := (H.out.quiet QW3.out).cells.2.1
      have kb3 := (Q23.out.cell (p := ⟨s, 0, none⟩) l3 (fun x => x)).trans kb2
      clear hos hw3
      refine hKK.out _ _ ?_ (fun hHeld2 => ?_)
      · try dsimp only
        (first | exact kb2 | exact kb3 | exact kb4 | exact (cell_far sne _ trivial).trans kb4 | go_keep)
      clear hKK KK hHeld
      rename _ => hHeld
      try simp only [Act.put, List.setIfInBounds_toArray, List.set_cons_zero, List.set_cons_succ]
      refine wpAnyH_take (i := 8) (v := ?_) (at_list rfl) (by kernel_rfl) (by kernel_rfl) (by kernel_rfl) (fun _ _ _ h => h) (Or.inl ⟨by rfl, ?_⟩) (by assumption) ?_
      rotate_left
      · intro w hSw
        try dsimp only at hSw
        go_simp
        try with_reducible rfl
      simp only [Act.put, List.setIfInBounds_toArray, List.set_cons_zero, List.set_cons_succ]
      refine wpAnyH_ready (rs := [9]) (by kernel_rfl) (by simp) ?_
      refine AllReadyH.cons (at_list rfl) (fun KK hKK => ?_) AllReadyH.nil
      go_simp
      refine hKK.out _ _ ?_ (fun hHeld2 => ?_)
      · try dsimp only
        (first | exact kb2 | exact kb3 | exact kb4 | exact (cell_far sne _ trivial).trans kb4 | go_keep)
      clear hKK KK hHeld
      rename _ => hHeld
      try simp only [Act.put, List.setIfInBounds_toArray, List.set_cons_zero, List.set_cons_succ]
      refine wpAnyH_ready (rs := [10]) (by kernel_rfl) (by simp) ?_
      refine AllReadyH.cons (at_list rfl) (fun KK hKK => ?_) AllReadyH.nil
      refine step_append_own _ rfl (.tmp 30) (.tmp 35) 27 rfl M.base 74 it (.agg #[.slice none 0 0, .int .i32 0]) 2 32 Try.underlying27 ht0 ht1 ht2 ht3 rfl (by decide) _ t (fl tc M.ts) (by rfl) (HT.out _ (Only.trans QW3.out (by repeat (first | exact Only.refl _ _ | refine Only.drewN ?_ _ | refine Only.drew ?_ | refine Only.alloc ?_ _)))) ⟨w3.heap.size, 0, none⟩ 1 1 [.slice (some ⟨w2.heap.size, 0, none⟩) 0 0, .int .i32 0] (by rfl) rfl (news_blk (by repeat (first | exact blk_new' _ _ (by first | rfl | simp) | refine blk_drewN ?_ | refine blk_drew ?_ | refine blk_alloc ?_ _))) (two_one rfl rfl) (by unfold maxLen; omega) (by omega) (by first | (have := QW3.out.size; simp; omega) | omega) ?_
      intro v' w4 hown hg
      have Q3X := row_quiet QW3.out hg (by repeat (first | exact Only.refl _ _ | refine Only.drewN ?_ _ | refine Only.drew ?_ | refine Only.alloc ?_ _))
      obtain ⟨p3, p4, p5', A2, c2, hv'⟩ := row_mid H.out (j := 5) (H.out.quiet Q3X).blk (fun q => task_ne H.out (HV.out ▸ q)) hown hg
      subst hv'
      rw [show (worldCells M)[5]? = some M.vt from rfl, HV.out] at p3
      have kb4 := box_keep (H.out.quiet Q3X) (Only.keep (S := fun _ => False) (row_quiet Q23.out hg (by repeat (first | exact Only.refl _ _ | refine Only.drewN ?_ _ | refine Only.drew ?_ | refine Only.alloc ?_ _))) HBB.out (fun x => x)) (HV.out ▸ hg)
      have Q3Y := Lib.hid Q3X
      have HOW := Lib.hid hown
      have HG := Lib.hid hg
      clear hown hg Q3X
      refine hKK.out _ _ ?_ (fun hHeld2 => ?_)
      · try dsimp only
        (first | exact kb2 | exact kb3 | exact kb4 | exact (cell_far sne _ trivial).trans kb4 | go_keep)
      clear hKK KK hHeld
      rename _ => hHeld
      try simp only [Act.put, List.setIfInBounds_toArray, List.set_cons_zero, List.set_cons_succ]
      refine wpAnyH_take (i := 11) (v := ?_) (at_list rfl) (by kernel_rfl) (by kernel_rfl) (by kernel_rfl) (fun _ _ _ h => h) (Or.inl ⟨by rfl, ?_⟩) (by assumption) ?_
      rotate_left
      · intro w hSw
        try dsimp only at hSw
        go_simp
        try with_reducible rfl
      simp only [Act.put, List.setIfInBounds_toArray, List.set_cons_zero, List.set_cons_succ]
      refine wpAnyH_take (i := 12) (v := ?_) (at_list rfl) (by kernel_rfl) (by kernel_rfl) (by kernel_rfl) (fun _ _ _ h => h) (Or.inl ⟨by rfl, ?_⟩) (by assumption) ?_
      rotate_left
      · intro w hSw
        try dsimp only at hSw
        go_simp
        try with_reducible rfl
      simp only [Act.put, List.setIfInBounds_toArray, List.set_cons_zero, List.set_cons_succ]
      refine wpAnyH_ready (rs := [13]) (by kernel_rfl) (by simp) ?_
      refine AllReadyH.cons (at_list rfl) (fun KK hKK => ?_) AllReadyH.nil
      go_simp
      refine hKK.out _ _ ?_ (fun hHeld2 => ?_)
      · try dsimp only
        (first | exact kb2 | exact kb3 | exact kb4 | exact (cell_far sne _ trivial).trans kb4 | go_keep)
      clear hKK KK hHeld
      rename _ => hHeld
      try simp only [Act.put, List.setIfInBounds_toArray, List.set_cons_zero, List.set_cons_succ]
      refine wpAnyH_done (by kernel_rfl) ?_ _
      refine NoPanic.normal ?_
      go_wp2_with fail
      go_ret2
      exact ⟨ret_pred HTT.out, start_end H.out Q3Y.out HLT.out HR.out.len (HTT.out ▸ HOW.out) (HV.out ▸ HG.out) (OpSl.only HOS.out (F := fun _ => False) (by repeat (first | exact Only.refl _ _ | refine Only.drewN ?_ _ | refine Only.drew ?_ | refine Only.alloc ?_ _)) (fun _ _ _ x => x)) hn HMM.out⟩
    · skip
      refine step_append_none2 _ rfl (.tmp 31) (.tmp 32) 22 rfl 0 41 io 3 Try.underlying22 ho0 (.slice (some ⟨w2.heap.size, 0, none⟩) 0 0) 0 [] (by rfl) (own_empty (by repeat (first | exact blk_new' _ _ (by first | rfl | simp) | refine blk_drewN ?_ | refine blk_drew ?_ | refine blk_alloc ?_ _)) (Nat.zero_le _)) (by rfl) ?_
      intro w3 hw3
      have hos : OpSl w3 (some ⟨w2.heap.size, 0, none⟩) 0 0 [] := by
        rw [hw3]
        exact opsl_empty (by repeat (first | exact blk_new' _ _ (by first | rfl | simp) | refine blk_drewN ?_ | refine blk_drew ?_ | refine blk_alloc ?_ _))
      have Q23 := Lib.hid (show Quiet w2 w3 by rw [hw3]; exact (by repeat (first | exact Only.refl _ _ | refine Only.drewN ?_ _ | refine Only.drew ?_ | refine Only.alloc ?_ _)))
      have QW3 := Lib.hid (Q2.out.trans Q23.out)
      have HOS := Lib.hid hos
      have p5 := (H.out.quiet QW3.out).cells.1.2.2.2.2.2
      rw [HV.out] at p5
      have l2 := (H.out.quiet QW3.out).cells.2.1
      have kb3 := (Q23.out.cell (p := ⟨s, 0, none⟩) l3 (fun x => x)).trans kb2
      clear hos hw3
      refine hKK.out _ _ ?_ (fun hHeld2 => ?_)
      · try dsimp only
        (first | exact kb2 | exact kb3 | exact kb4 | exact (cell_far sne _ trivial).trans kb4 | go_keep)
      clear hKK KK hHeld
      rename _ => hHeld
      try simp only [Act.put, List.setIfInBounds_toArray, List.set_cons_zero, List.set_cons_succ]
      refine wpAnyH_take (i := 8) (v := ?_) (at_list rfl) (by kernel_rfl) (by kernel_rfl) (by kernel_rfl) (fun _ _ _ h => h) (Or.inl ⟨by rfl, ?_⟩) (by assumption) ?_
      rotate_left
      · intro w hSw
        try dsimp only at hSw
        go_simp
        try with_reducible rfl
      simp only [Act.put, List.setIfInBounds_toArray, List.set_cons_zero, List.set_cons_succ]
      refine wpAnyH_ready (rs := [4, 9]) (by kernel_rfl) (by simp) ?_
      refine AllReadyH.cons (at_list rfl) (fun KK hKK => ?_) (AllReadyH.cons (at_list rfl) (fun KK hKK => ?_) AllReadyH.nil)
      · skip
        go_simp
        refine hKK.out _ _ ?_ (fun hHeld2 => ?_)
        · try dsimp only
          (first | exact kb2 | exact kb3 | exact kb4 | exact (cell_far sne _ trivial).trans kb4 | go_keep)
        clear hKK KK hHeld
        rename _ => hHeld
        try simp only [Act.put, List.setIfInBounds_toArray, List.set_cons_zero, List.set_cons_succ]
        refine wpAnyH_ready (rs := [9]) (by kernel_rfl) (by simp) ?_
        refine AllReadyH.cons (at_list rfl) (fun KK hKK => ?_) AllReadyH.nil
        go_simp
        refine hKK.out _ _ ?_ (fun hHeld2 => ?_)
        · try dsimp only
          (first | exact kb2 | exact kb3 | exact kb4 | exact (cell_far sne _ trivial).trans kb4 | go_keep)
        clear hKK KK hHeld
        rename _ => hHeld
        try simp only [Act.put, List.setIfInBounds_toArray, List.set_cons_zero, List.set_cons_succ]
        refine wpAnyH_ready (rs := [10]) (by kernel_rfl) (by simp) ?_
        refine AllReadyH.cons (at_list rfl) (fun KK hKK => ?_) AllReadyH.nil
        refine step_append_own _ rfl (.tmp 30) (.tmp 35) 27 rfl M.base 74 it (.agg #[.slice none 0 0, .int .i32 0]) 2 32 Try.underlying27 ht0 ht1 ht2 ht3 rfl (by decide) _ t (fl tc M.ts) (by rfl) (HT.out _ (Only.trans QW3.out (by repeat (first | exact Only.refl _ _ | refine Only.drewN ?_ _ | refine Only.drew ?_ | refine Only.alloc ?_ _)))) ⟨w3.heap.size, 0, none⟩ 1 1 [.slice (some ⟨w2.heap.size, 0, none⟩) 0 0, .int .i32 0] (by rfl) rfl (news_blk (by repeat (first | exact blk_new' _ _ (by first | rfl | simp) | refine blk_drewN ?_ | refine blk_drew ?_ | refine blk_alloc ?_ _))) (two_one rfl rfl) (by unfold maxLen; omega) (by omega) (by first | (have := QW3.out.size; simp; omega) | omega) ?_
        intro v' w4 hown hg
        have Q3X := row_quiet QW3.out hg (by repeat (first | exact Only.refl _ _ | refine Only.drewN ?_ _ | refine Only.drew ?_ | refine Only.alloc ?_ _))
        obtain ⟨p3, p4, p5', A2, c2, hv'⟩ := row_mid H.out (j := 5) (H.out.quiet Q3X).blk (fun q => task_ne H.out (HV.out ▸ q)) hown hg
        subst hv'
        rw [show (worldCells M)[5]? = some M.vt from rfl, HV.out] at p3
        have kb4 := box_keep (H.out.quiet Q3X) (Only.keep (S := fun _ => False) (row_quiet Q23.out hg (by repeat (first | exact Only.refl _ _ | refine Only.drewN ?_ _ | refine Only.drew ?_ | refine Only.alloc ?_ _))) HBB.out (fun x => x)) (HV.out ▸ hg)
        have Q3Y := Lib.hid Q3X
        have HOW := Lib.hid hown
        have HG := Lib.hid hg
        clear hown hg Q3X
        refine hKK.out _ _ ?_ (fun hHeld2 => ?_)
        · try dsimp only
          (first | exact kb2 | exact kb3 | exact kb4 | exact (cell_far sne _ trivial).trans kb4 | go_keep)
        clear hKK KK hHeld
        rename _ => hHeld
        try simp only [Act.put, List.setIfInBounds_toArray, List.set_cons_zero, List.set_cons_succ]
        refine wpAnyH_take (i := 11) (v := ?_) (at_list rfl) (by kernel_rfl) (by kernel_rfl) (by kernel_rfl) (fun _ _ _ h => h) (Or.inl ⟨by rfl, ?_⟩) (by assumption) ?_
        rotate_left
        · intro w hSw
          try dsimp only at hSw
          go_simp
          try with_reducible rfl
        simp only [Act.put, List.setIfInBounds_toArray, List.set_cons_zero, List.set_cons_succ]
        refine wpAnyH_take (i := 12) (v := ?_) (at_list rfl) (by kernel_rfl) (by kernel_rfl) (by kernel_rfl) (fun _ _ _ h => h) (Or.inl ⟨by rfl, ?_⟩) (by assumption) ?_
        rotate_left
        · intro w hSw
          try dsimp only at hSw
          go_simp
          try with_reducible rfl
        simp only [Act.put, List.setIfInBounds_toArray, List.set_cons_zero, List.set_cons_succ]
        refine wpAnyH_ready (rs := [13]) (by kernel_rfl) (by simp) ?_
        refine AllReadyH.cons (at_list rfl) (fun KK hKK => ?_) AllReadyH.nil
        go_simp
        refine hKK.out _ _ ?_ (fun hHeld2 => ?_)
        · try dsimp only
          (first | exact kb2 | exact kb3 | exact kb4 | exact (cell_far sne _ trivial).trans kb4 | go_keep)
        clear hKK KK hHeld
        rename _ => hHeld
        try simp only [Act.put, List.setIfInBounds_toArray, List.set_cons_zero, List.set_cons_succ]
        refine wpAnyH_done (by kernel_rfl) ?_ _
        refine NoPanic.normal ?_
        go_wp2_with fail
        go_ret2
        exact ⟨ret_pred HTT.out, start_end H.out Q3Y.out HLT.out HR.out.len (HTT.out ▸ HOW.out) (HV.out ▸ HG.out) (OpSl.only HOS.out (F := fun _ => False) (by repeat (first | exact Only.refl _ _ | refine Only.drewN ?_ _ | refine Only.drew ?_ | refine Only.alloc ?_ _)) (fun _ _ _ x => x)) hn HMM.out⟩
      · skip
        go_simp
        refine hKK.out _ _ ?_ (fun hHeld2 => ?_)
        · try dsimp only
          (first | exact kb2 | exact kb3 | exact kb4 | exact (cell_far sne _ trivial).trans kb4 | go_keep)
        clear hKK KK hHeld
        rename _ => hHeld
        try simp only [Act.put, List.setIfInBounds_toArray, List.set_cons_zero, List.set_cons_succ]
        refine wpAnyH_ready (rs := [4]) (by kernel_rfl) (by simp) ?_
        refine AllReadyH.cons (at_list rfl) (fun KK hKK => ?_) AllReadyH.nil
        go_simp
        refine hKK.out _ _ ?_ (fun hHeld2 => ?_)
        · try dsimp only
          (first | exact kb2 | exact kb3 | exact kb4 | exact (cell_far sne _ trivial).trans kb4 | go_keep)
        clear hKK KK hHeld
        rename _ => hHeld
        try simp only [Act.put, List.setIfInBounds_toArray, List.set_cons_zero, List.set_cons_succ]
        refine wpAnyH_ready (rs := [10]) (by kernel_rfl) (by simp) ?_
        refine AllReadyH.cons (at_list rfl) (fun KK hKK => ?_) AllReadyH.nil
        refine step_append_own _ rfl (.tmp 30) (.tmp 35) 27 rfl M.base 74 it (.agg #[.slice none 0 0, .int .i32 0]) 2 32 Try.underlying27 ht0 ht1 ht2 ht3 rfl (by decide) _ t (fl tc M.ts) (by rfl) (HT.out _ (Only.trans QW3.out (by repeat (first | exact Only.refl _ _ | refine Only.drewN ?_ _ | refine Only.drew ?_ | refine Only.alloc ?_ _)))) ⟨w3.heap.size, 0, none⟩ 1 1 [.slice (some ⟨w2.heap.size, 0, none⟩) 0 0, .int .i32 0] (by rfl) rfl (news_blk (by repeat (first | exact blk_new' _ _ (by first | rfl | simp) | refine blk_drewN ?_ | refine blk_drew ?_ | refine blk_alloc ?_ _))) (two_one rfl rfl) (by unfold maxLen; omega) (by omega) (by first | (have := QW3.out.size; simp; omega) | omega) ?_
        intro v' w4 hown hg
        have Q3X := row_quiet QW3.out hg (by repeat (first | exact Only.refl _ _ | refine Only.drewN ?_ _ | refine Only.drew ?_ | refine Only.alloc ?_ _))
        obtain ⟨p3, p4, p5', A2, c2, hv'⟩ := row_mid H.out (j := 5) (H.out.quiet Q3X).blk (fun q => task_ne H.out (HV.out ▸ q)) hown hg
        subst hv'
        rw [show (worldCells M)[5]? = some M.vt from rfl, HV.out] at p3
        have kb4 := box_keep (H.out.quiet Q3X) (Only.keep (S := fun _ => False) (row_quiet Q23.out hg (by repeat (first | exact Only.refl _ _ | refine Only.drewN ?_ _ | refine Only.drew ?_ | refine Only.alloc ?_ _))) HBB.out (fun x => x)) (HV.out ▸ hg)
        have Q3Y := Lib.hid Q3X
        have HOW := Lib.hid hown
        have HG := Lib.hid hg
        clear hown hg Q3X
        refine hKK.out _ _ ?_ (fun hHeld2 => ?_)
        · try dsimp only
          (first | exact kb2 | exact kb3 | exact kb4 | exact (cell_far sne _ trivial).trans kb4 | go_keep)
        clear hKK KK hHeld
        rename _ => hHeld
        try simp only [Act.put, List.setIfInBounds_toArray, List.set_cons_zero, List.set_cons_succ]
        refine wpAnyH_take (i := 11) (v := ?_) (at_list rfl) (by kernel_rfl) (by kernel_rfl) (by kernel_rfl) (fun _ _ _ h => h) (Or.inl ⟨by rfl, ?_⟩) (by assumption) ?_
        rotate_left
        · intro w hSw
          try dsimp only at hSw
          go_simp
          try with_reducible rfl
        simp only [Act.put, List.setIfInBounds_toArray, List.set_cons_zero, List.set_cons_succ]
        refine wpAnyH_take (i := 12) (v := ?_) (at_list rfl) (by kernel_rfl) (by kernel_rfl) (by kernel_rfl) (fun _ _ _ h => h) (Or.inl ⟨by rfl, ?_⟩) (by assumption) ?_
        rotate_left
        · intro w hSw
          try dsimp only at hSw
          go_simp
          try with_reducible rfl
        simp only [Act.put, List.setIfInBounds_toArray, List.set_cons_zero, List.set_cons_succ]
        refine wpAnyH_ready (rs := [13]) (by kernel_rfl) (by simp) ?_
        refine AllReadyH.cons (at_list rfl) (fun KK hKK => ?_) AllReadyH.nil
        go_simp
        refine hKK.out _ _ ?_ (fun hHeld2 => ?_)
        · try dsimp only
          (first | exact kb2 | exact kb3 | exact kb4 | exact (cell_far sne _ trivial).trans kb4 | go_keep)
        clear hKK KK hHeld
        rename _ => hHeld
        try simp only [Act.put, List.setIfInBounds_toArray, List.set_cons_zero, List.set_cons_succ]
        refine wpAnyH_done (by kernel_rfl) ?_ _
        refine NoPanic.normal ?_
        go_wp2_with fail
        go_ret2
        exact ⟨ret_pred HTT.out, start_end H.out Q3Y.out HLT.out HR.out.len (HTT.out ▸ HOW.out) (HV.out ▸ HG.out) (OpSl.only HOS.out (F := fun _ => False) (by repeat (first | exact Only.refl _ _ | refine Only.drewN ?_ _ | refine Only.drew ?_ | refine Only.alloc ?_ _)) (fun _ _ _ x => x)) hn HMM.out⟩
theorem startF_cases (W : Wd) (l : List Op3) : (W.tasks.length = 64 ∧ startF W l = (0, 14, W)) ∨ (W.tasks.length ≠ 64 ∧ l.all (mayB W) = false ∧ startF W l = (0, 2, W)) ∨
    (W.tasks.length ≠ 64 ∧ l.all (mayB W) = true ∧ 1000 < l.length ∧ startF W l = (0, 3, W)) ∨ (W.tasks.length ≠ 64 ∧ l.all (mayB W) = true ∧ l.length ≤ 1000 ∧ startF W l = ((W.tasks.length : Int), 0, { W with tasks := W.tasks ++ [⟨l, 0⟩] })) := by
  unfold startF
  by_cases h1 : W.tasks.length = 64
  · exact .inl ⟨h1, by rw [if_pos h1]⟩
  · cases h2 : l.all (mayB W) with
    | false => exact .inr (.inl ⟨h1, rfl, by rw [if_neg h1, if_pos rfl]⟩)
    | true =>
      by_cases h3 : 1000 < l.length
      · exact .inr (.inr (.inl ⟨h1, rfl, h3, by rw [if_neg h1, if_neg (by decide), if_pos h3]⟩))
      · exact .inr (.inr (.inr ⟨h1, rfl, by omega, by rw [if_neg h1, if_neg (by decide), if_neg h3]⟩))
theorem start_at {w : World} {M : TMem} (h : TAt w M) {A : Option Addr} {n c : Nat} {l : List Op3} (hr : OpRd w A n c l) :
    Calls Try.prog 9 #[.pointer (some ⟨M.p, 0, none⟩), .slice A n c] w fun e w' => e = .returned (.tuple #[.int .i64 (startF M.wd l).1, .int .i64 (startF M.wd l).2.1]) ∧ DPost M w (startF M.wd l).2.2 w' := by
  have hl := h.tlen
  have hn := hr.len
  rcases startF_cases M.wd l with ⟨h1, e⟩ | ⟨h1, h2, e⟩ | ⟨h1, h2, h3, e⟩ | ⟨h1, h2, h3, e⟩
  · rw [e]
    refine (start_no h hr 14 (.inl ⟨by omega, rfl⟩)).mono ?_
    rintro e w' ⟨rfl, hq⟩
    exact ⟨rfl, DPost.same h hq⟩
  · rw [e]
    refine (start_no h hr 2 (.inr (.inl ⟨by omega, h2, rfl⟩))).mono ?_
    rintro e w' ⟨rfl, hq⟩
    exact ⟨rfl, DPost.same h hq⟩
  · rw [e]
    refine (start_no h hr 3 (.inr (.inr ⟨by omega, h2, by omega, rfl⟩))).mono ?_
    rintro e w' ⟨rfl, hq⟩
    exact ⟨rfl, DPost.same h hq⟩
  · rw [e, hl]
    cases A with
    | none => exact start_none h hr (by omega) h2 (by omega)
    | some a => exact start_some h hr (by omega) h2 (by omega)
end Go.Proofs.Ytgdjbmfpbihopaa
