/-
  What the program's New does. No conditions.
-/
import Derived.Test.YtgdjbmfpbihopaaGrow
namespace Go.Proofs.Ytgdjbmfpbihopaa
open Go.RowKit Go.MapKept
set_option linter.unusedVariables false
set_option linter.unusedSimpArgs false

def zeros32 (n : Nat) : Array Value := madeCells #[.int .i32 0] n
theorem zeros32_list (n : Nat) : (zeros32 n).toList = List.replicate n (.int .i32 0) := by
  unfold zeros32
  rw [toList_madeCells_one]
theorem zeros32_size (n : Nat) : (zeros32 n).size = n := by rw [← Array.length_toList, zeros32_list]; simp
theorem make25 (n : Nat) (h : n ≤ 64) (w : World) : (Instr.makeSlice 25 (.int .i64 (n : Int)) (.int .i64 (n : Int))).run Try.prog w = .ok (.slice (some ⟨w.heap.size, 0, none⟩) n n) (w.alloc (.cells (zeros32 n) 21)) := by
  obtain ⟨i0, hi0, hz0, hz1, hz2⟩ := info_parts Try.info21
  have := run_make (P := Try.prog) w 25 21 i0 (.int .i32 0) Try.underlying25 hi0 hz0 .i64 .i64 n n (by omega) (by omega) (by rw [hz2]; omega) (by omega)
  rw [hz1] at this
  simpa [zeros32, Value.cells] using this
/-- What New leaves. -/
def NewPost (locks words : Int) (l : List Int) (w : World) (e : Ending) (w' : World) : Prop :=
  (newCode locks words l = 0 ∧ ∃ M, e = .returned (.tuple #[.pointer (some ⟨M.p, 0, none⟩), .int .i64 0]) ∧ TAt w' M ∧ M.wd = newW locks words l ∧ M.base = w.heap.size ∧ Quiet w w') ∨
  (newCode locks words l = 2 ∧ e = .returned (.tuple #[.pointer none, .int .i64 2]) ∧ Quiet w w')
/-- Behind k of the sizes. -/
def NRel (locks words : Int) (l : List Int) (w : World) (p n : Nat) (vi : Value) (wr : World) : Prop :=
  ∃ k, k ≤ n ∧ vi = .int .i64 (k : Nat) ∧ ∃ M, TAt wr M ∧ M.wd = newW locks words (l.take k) ∧ M.p = p ∧ M.base = w.heap.size ∧ Quiet w wr
theorem new_start {w : World} {L : Int} {n : Nat} (hL : 0 ≤ L ∧ L ≤ 64) (hn : n ≤ 64) {W : World}
    (hW : W = ((w.alloc (.map #[] 0)).alloc (.cells (zeros32 n) 21)).alloc (.cells #[.bool true, .int .i64 L, .map (some w.heap.size), .slice (some ⟨w.heap.size + 1, 0, none⟩) n n, .slice none 0 0, .slice none 0 0] 29)) :
    ∃ M, TAt W M ∧ M.wd = newW L (n : Int) [] ∧ M.p = w.heap.size + 2 ∧ M.base = w.heap.size ∧ Quiet w W := by
  subst hW
  have hm := (MapIs.new w).only (F := fun _ => False) (((Only.refl (fun _ => False) (w.alloc (.map #[] 0))).alloc (.cells (zeros32 n) 21)).alloc (.cells #[.bool true, .int .i64 L, .map (some w.heap.size), .slice (some ⟨w.heap.size + 1, 0, none⟩) n n, .slice none 0 0, .slice none 0 0] 29)) (fun x => x)
  have hw1 : ((w.alloc (.map #[] 0)).alloc (.cells (zeros32 n) 21)).heap[w.heap.size + 1]? = some (.cells (zeros32 n) 21 (0, 0)) := by
    have := blk_new (w.alloc (.map #[] 0)) (.cells (zeros32 n) 21)
    simpa using this
  refine ⟨⟨w.heap.size + 2, w.heap.size, w.heap.size, ⟨some ⟨w.heap.size + 1, 0, none⟩, n⟩, .slice none 0 0, .slice none 0 0, [], [], L, fun _ => none, List.replicate n 0⟩, ⟨?_, hm, ⟨by simp [i32s], .inr ⟨w.heap.size + 1, 0, zeros32 n, rfl, blk_alloc hw1 _, by simp, ?_, by simp; unfold maxLen; omega, fun i x hx => ?_⟩⟩, OwnF.new _ _ _ _, OwnF.new _ _ _ _, by simp, by simp, by simp, by simp, by simp; omega, fun k hk => ?_, ?_⟩, by simp [TMem.wd, newW], rfl, rfl, ((Only.refl _ _).alloc _).alloc _ |>.alloc _⟩
  · have := blk_new ((w.alloc (.map #[] 0)).alloc (.cells (zeros32 n) 21)) (.cells #[.bool true, .int .i64 L, .map (some w.heap.size), .slice (some ⟨w.heap.size + 1, 0, none⟩) n n, .slice none 0 0, .slice none 0 0] 29)
    simpa [worldCells] using this
  · show 0 + n ≤ (zeros32 n).size
    rw [zeros32_size]; omega
  · rw [Nat.zero_add, ← Array.getElem?_toList, zeros32_list]
    simpa [i32s, i32] using hx
  · rcases hk with hk | hk | ⟨a, e, hk⟩ | hk | hk | ⟨z, hz, _⟩
    · rw [hk]; show w.heap.size ≤ w.heap.size + 2; omega
    · rw [hk]; exact Nat.le_refl _
    · obtain rfl := Option.some.inj e; rw [← hk]; show w.heap.size ≤ w.heap.size + 1; omega
    · cases hk
    · cases hk
    · cases hz
  · have := fit_new (locks := L) (words := (n : Int)) (sizes := []) (by unfold newCode; rw [if_neg (by simp; omega)]; rfl)
    simpa [TMem.wd, newW] using this
theorem newW_snoc (L W : Int) (l : List Int) (x : Int) : newW L W (l ++ [x]) = { newW L W l with pipes := (newW L W l).pipes ++ [⟨[], x⟩] } := by simp [newW]
theorem newCode_bad {L W : Int} {l : List Int} (h : L < 0 ∨ 64 < L ∨ W < 0 ∨ 64 < W ∨ 16 < l.length) : newCode L W l = 2 := by unfold newCode; rw [if_pos h]
theorem newCode_size {L W : Int} {l : List Int} {k : Nat} {x : Int} (hx : l[k]? = some x) (h : x < 1 ∨ 64 < x) : newCode L W l = 2 := by
  unfold newCode
  split
  · rfl
  · have : l.all (fun n => decide (1 ≤ n ∧ n ≤ 64)) = false := by
      rw [List.all_eq_false]
      exact ⟨x, List.mem_of_getElem? hx, by simp; omega⟩
    rw [this]; rfl
theorem newCode_ok {L W : Int} {l : List Int} (h : ¬ (L < 0 ∨ 64 < L ∨ W < 0 ∨ 64 < W ∨ 16 < l.length)) (ha : ∀ x ∈ l, 1 ≤ x ∧ x ≤ 64) : newCode L W l = 0 := by
  unfold newCode
  rw [if_neg h]
  have : l.all (fun n => decide (1 ≤ n ∧ n ≤ 64)) = true := by
    rw [List.all_eq_true]
    exact fun x hx => by simpa using ha x hx
  rw [this]; rfl
theorem take_more {α : Type} {l : List α} {k : Nat} {x : α} (h : l[k]? = some x) : l.take (k + 1) = l.take k ++ [x] := by
  rw [List.take_add_one, h]; rfl
/-- What stays where a row of the world's grows. -/
theorem row_mid {w W w3 : World} {M : TMem} (h : TAt w M) {j : Nat} (hb : W.heap[M.p]? = some (.cells (worldCells M) 29 (0, 0))) {v v' : Value} (hne : ¬ v.ownBlock = some M.p) {e : TypeId} {n base : Nat} {xs : List Value}
    (hown : w3.ownsRow base e 2 v' (n + 1) xs) (hg : W.grownBy w3 v.ownBlock) :
    w3.cell? ⟨M.p, j, none⟩ = (worldCells M)[j]? ∧ w3.frozen? ⟨M.p, j, none⟩ = false ∧ M.p < w3.heap.size ∧ ∃ A'' c'', v' = .slice A'' (n + 1) c'' := by
  have hO : Only (fun k => v.ownBlock = some k) W w3 := (Only.refl _ W).of_grown hg (fun k hk _ => hk)
  have hp3 := hO.keep hb hne
  refine ⟨blk_cell hp3 j, blk_frozen hp3 j, lt_of_heap hp3, ?_⟩
  obtain ⟨_, ⟨_, e⟩ | ⟨g', cap', cur, h3, _⟩⟩ := hown
  · omega
  · exact ⟨_, _, h3⟩
theorem pipe_ne {w : World} {M : TMem} (h : TAt w M) (q : M.vp.ownBlock = some M.p) : False := by
  obtain ⟨⟨cu, hc⟩, _⟩ := h.pipes.kind q
  exact blk_ne hc h.blk (by decide) rfl
theorem task_ne {w : World} {M : TMem} (h : TAt w M) (q : M.vt.ownBlock = some M.p) : False := by
  obtain ⟨⟨cu, hc⟩, _⟩ := h.tasks.kind q
  exact blk_ne hc h.blk (by decide) rfl
set_option maxRecDepth 8000 in
set_option maxHeartbeats 4000000 in
theorem new_any (L W : Int) (A : Option Addr) (n c : Nat) (l : List Int) (w : World) (hc : n ≤ c) (hcm : c ≤ maxLen) (harg : IntsArg .i64 w A n l) :
    Calls Try.prog 15 #[.int .i64 L, .int .i64 W, .slice A n c] w (NewPost L W l w) := by
  obtain ⟨hln, hwf, hcell⟩ := harg
  unfold maxLen at hcm
  by_cases h1 : L < 0 ∨ 64 < L
  · have HC := Lib.hid (newCode_bad (W := W) (l := l) (show L < 0 ∨ 64 < L ∨ W < 0 ∨ 64 < W ∨ 16 < l.length by omega))
    clear hwf hcell hln
    go_enter Try.func15, Try.ntmps15
    go_wp2_with (go_at_call 28; refine (within_no _ _ _ h1).mono ?_; rintro e w2 ⟨rfl, rfl⟩)
    go_ret2
    exact .inr ⟨HC.out, rfl, Only.refl _ _⟩
  by_cases h2 : W < 0 ∨ 64 < W
  · have HC := Lib.hid (newCode_bad (L := L) (l := l) (show L < 0 ∨ 64 < L ∨ W < 0 ∨ 64 < W ∨ 16 < l.length by omega))
    clear hwf hcell hln
    go_enter Try.func15, Try.ntmps15
    have CY := Lib.hid (fun w => within_yes w L 64 (by omega) (by omega))
    have CN := Lib.hid (fun w => within_no w W 64 h2)
    clear h1 h2
    go_wp2_with (first
      | (go_at_call 28; (with_reducible refine (CY.out _).mono ?_); rintro e w2 ⟨rfl, rfl⟩)
      | (go_at_call 28; (with_reducible refine (CN.out _).mono ?_); rintro e w2 ⟨rfl, rfl⟩))
    go_ret2
    exact .inr ⟨HC.out, rfl, Only.refl _ _⟩
  have CY := Lib.hid (fun w => within_yes w L 64 (by omega) (by omega))
  have CZ := Lib.hid (fun w => within_yes w W 64 (by omega) (by omega))
  by_cases h3 : 16 < n
  · have HC := Lib.hid (newCode_bad (L := L) (W := W) (l := l) (show L < 0 ∨ 64 < L ∨ W < 0 ∨ 64 < W ∨ 16 < l.length by omega))
    have hd : decide ((16 : Int) < (n : Int)) = true := by simp; omega
    clear hwf hcell hln h1 h2 h3
    go_enter Try.func15, Try.ntmps15
    go_wp2_with (first
      | (go_at_call 28; (with_reducible refine (CY.out _).mono ?_); rintro e w2 ⟨rfl, rfl⟩)
      | (go_at_call 28; (with_reducible refine (CZ.out _).mono ?_); rintro e w2 ⟨rfl, rfl⟩))
    go_ret2
    exact .inr ⟨HC.out, rfl, Only.refl _ _⟩
  obtain ⟨i0, hi0, hz0, hz1, hz2⟩ := info_parts Try.info77
  obtain ⟨m, rfl⟩ : ∃ m : Nat, W = (m : Int) := ⟨W.toNat, by omega⟩
  have hmm := @run_makeMap Try.prog
  have hmk := make25 m (by omega)
  have hd : decide ((16 : Int) < (n : Int)) = false := by simp; omega
  have HST := Lib.hid (new_start (w := w) (L := L) (n := m) (by omega) (by omega) rfl)
  have HC0 := Lib.hid (show ¬ (L < 0 ∨ 64 < L ∨ (m : Int) < 0 ∨ 64 < (m : Int) ∨ 16 < l.length) by omega)
  have HLN := Lib.hid hln
  have HWF := Lib.hid hwf
  have HCL := Lib.hid hcell
  have hn16 : n ≤ 16 := by omega
  clear hln hwf hcell h1 h2 h3
  go_enter Try.func15, Try.ntmps15
  go_wp2_with (first
      | (go_at_call 28; (with_reducible refine (CY.out _).mono ?_); rintro e w2 ⟨rfl, rfl⟩)
      | (go_at_call 28; (with_reducible refine (CZ.out _).mono ?_); rintro e w2 ⟨rfl, rfl⟩))
  obtain ⟨p, hp⟩ : ∃ p, p = w.heap.size + 1 + 1 := ⟨_, rfl⟩
  rw [← hp]
  have HP := Lib.hid (show p = w.heap.size + 2 from hp); clear hp
  go_loopw [32] (fun vi wr => NRel L (m : Int) l w p n vi wr) (fun i _ => n - (intOf i).toNat)
  case atStart =>
    obtain ⟨M, t1, t2, t3, t4, t5⟩ := HST.out
    exact ⟨0, by omega, rfl, M, t1, t2, t3.trans HP.out.symm, t4, t5⟩
  case round =>
    obtain ⟨k, hk, rfl, M, t1, t2, t3, t4, t5⟩ := hrel
    subst t3
    have HM := Lib.hid t1; clear t1
    have HW := Lib.hid t2; clear t2
    have HB := Lib.hid t4; clear t4
    have HQ := Lib.hid t5; clear t5
    clear HST hmm hmk
    by_cases hlt : k < n
    · have hd1 : decide ((k : Int) < (n : Int)) = true := by simpa using hlt
      obtain ⟨b, off, rfl, hb, hcl⟩ := HCL.out (by omega)
      obtain ⟨x, hx⟩ : ∃ x, l[k]? = some x := ⟨_, List.getElem?_eq_getElem (by have := HLN.out; omega)⟩
      have q0 : wr.cell? ⟨b, off + k, none⟩ = some (.int .i64 x) := (HQ.out.cell (p := ⟨b, off + k, none⟩) hb (fun x => x)).trans (hcl k x hx)
      have bl : b < wr.heap.size := Nat.lt_of_lt_of_le hb HQ.out.size
      have HX := Lib.hid hx; clear hx hcl
      have k0 : (0 : Int) ≤ (k : Int) := by omega
      have k1 : (k : Int) < (n : Int) := by omega
      by_cases hbad : x < 1 ∨ 64 < x
      · have HBAD := Lib.hid (newCode_size (L := L) (W := (m : Int)) HX.out hbad)
        rcases (show x < 1 ∨ (1 ≤ x ∧ 64 < x) by omega) with h | ⟨h, h'⟩
        all_goals
          go_wp2_with fail
          go_ret2
          exact .inr ⟨HBAD.out, rfl, HQ.out⟩
      · have h1 : 1 ≤ x := by omega
        have h2 : x ≤ 64 := by omega
        clear hbad
        obtain ⟨⟨_, _, _, _, c4, _⟩, ps, pf⟩ := HM.out.cells
        have f4 := pf 4
        obtain ⟨A', cap, hv, hcm'⟩ := HM.out.pipes.shape
        have hpl : M.ps.length = k := by
          have e : M.wd.pipes.length = k := by
            rw [HW.out]
            simp only [newW, List.length_map, List.length_take]
            have := HLN.out
            omega
          rw [← HM.out.plen]; exact e
        have HPL := Lib.hid hpl
        have hts : M.ts = [] := by
          have e : M.wd.tasks = [] := by rw [HW.out]; rfl
          simpa [TMem.wd] using e
        have HTS := Lib.hid hts; clear hts
        have ho := HM.out.pipes
        unfold OwnF at ho
        rw [hpl] at hv ho
        rw [hv] at c4
        have HO := Lib.hid ho; clear ho
        have HV := Lib.hid hv; clear hv
        have hlo := HM.out.lo
        have hbs := HB.out
        have HLO := Lib.hid (show M.base ≤ (wr.alloc (.cells #[.slice none 0 0, .int .i64 x] 77)).heap.size by simp; omega)
        unfold maxLen at hcm'
        have NW := Lib.hid (news_two wr (.slice none 0 0) (.int .i64 x) 77)
        clear pf hpl hlo hbs hd1
        have hd1 : decide ((k : Int) < (n : Int)) = true := by simpa using hlt
        go_wp2_with (at_builtin; refine wpList_append_own _ rfl (.tmp 46) (.tmp 49) 26 rfl M.base 77 i0 (.agg #[.slice none 0 0, .int .i64 0]) 2 32 Try.underlying26 hi0 hz0 hz1 hz2 rfl (by decide) _ _ _ rfl ((HV.out ▸ HO.out).alloc _) ⟨wr.heap.size, 0, none⟩ 1 1 [.slice none 0 0, .int .i64 x] rfl rfl NW.out (two_one rfl rfl) (by unfold maxLen; omega) (by omega) HLO.out ?_; intro v' w3 hown hg _; obtain ⟨p3, p4, p5, A'', c'', hv'⟩ := row_mid HM.out (j := 4) (HM.out.quiet ((Only.refl _ _).alloc _)).blk (fun q => pipe_ne HM.out (HV.out ▸ q)) hown hg; subst hv'; rw [show (worldCells M)[4]? = some M.vp from rfl, HV.out] at p3; have HOW := Lib.hid hown; have HG := Lib.hid hg; clear hown hg)
        go_roundw
        case rel =>
          have hown2 : OwnF w3 M.base 77 pc (.slice A'' (k + 1) c'') (M.ps ++ [(⟨none, 0⟩, ⟨[], x⟩)]) := by
            unfold OwnF
            rw [fl_app, List.length_append, HPL.out]
            exact HOW.out
          obtain ⟨s1, s2, s3⟩ := HM.out.addPipe ((Only.refl _ _).alloc _) (by have := HPL.out; omega) ⟨h1, h2⟩ hown2 (HV.out ▸ HG.out) HTS.out
          refine ⟨k + 1, by omega, by go_num, _, s1, ?_, rfl, HB.out, HQ.out.over s3 (fun i hi q => by have := q.1; have := HB.out; omega)⟩
          rw [s2, HW.out, take_more HX.out, newW_snoc]
        case measure => simp [intOf]; omega
    · have hkn : k = n := by omega
      subst hkn
      have hd1 : decide ((k : Int) < (k : Int)) = false := by simp
      clear hlt
      go_wp2_with fail
      go_ret2
      have ht : l.take k = l := List.take_of_length_le (by have := HLN.out; omega)
      have hw := HW.out
      rw [ht] at hw
      refine .inl ⟨newCode_ok HC0.out (fun x hx => ?_), M, rfl, HM.out, hw, HB.out, HQ.out⟩
      have := HM.out.fit.pz ⟨[], x⟩ (by rw [hw]; exact List.mem_map.2 ⟨x, hx, rfl⟩)
      exact ⟨this.1, this.2.1⟩
end Go.Proofs.Ytgdjbmfpbihopaa
