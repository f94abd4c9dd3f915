/-
  THE STATEMENT TaskCross, its walk: two tasks that take two locks crosswise get stuck just if each holds one. No conditions.
-/
import Derived.Test.YtgdjbmfpbihopaaRel2
import Derived.Test.YtgdjbmfpbihopaaCrossModel
namespace Go.Proofs.Ytgdjbmfpbihopaa
open Go.RowKit Go.MapKept
set_option linter.unusedVariables false
set_option linter.unusedSimpArgs false

/-- A slice of operations written out. -/
theorem opRd_lit {w : World} {g n : Nat} {cs : Array Value} {l : List Op3} (h : w.heap[g]? = some (.cells cs 41 (0, 0))) (hl : l.length = n) (hn : n ≤ maxLen) (hc : cs.toList = opsF l) : OpRd w (some ⟨g, 0, none⟩) n n l :=
  ⟨hl, Nat.le_refl _, hn, (fun e => nomatch e), fun _ => ⟨g, 0, rfl, lt_of_heap h, fun i o ho j hj => by rw [blk_cell h, Nat.zero_add, ← opsF_at ho j hj, ← hc, Array.getElem?_toList]⟩⟩
theorem two_small : 2 ≤ maxLen := by unfold maxLen; omega
set_option maxHeartbeats 4000000 in
theorem both_at (w : World) (a b : Int) : Calls Try.prog 16 #[.int .i64 a, .int .i64 b] w fun e w' => ∃ g, e = .returned (.slice (some ⟨g, 0, none⟩) 4 4) ∧ OpRd w' (some ⟨g, 0, none⟩) 4 4 (bothL a b) ∧ Quiet w w' := by
  go_enter Try.func16, Try.ntmps16
  go_wp2
  go_ret
  exact ⟨_, rfl, opRd_lit (blk_new _ _) rfl (by unfold maxLen; omega) rfl, (Only.refl _ _).alloc _⟩
def CrRel (w0 : World) (base p : Nat) (k : Int) (W0 : Wd) (n : Nat) (vi : Value) (wr : World) : Prop := ∃ j, j ≤ n ∧ vi = .int .i64 (j : Nat) ∧ TRel base p (steps k j W0) wr ∧ Quiet w0 wr
set_option maxRecDepth 8000 in
set_option maxHeartbeats 8000000 in
theorem cross_walk (first second : Int) (w : World) : Calls Try.prog 4 #[.int .i64 first, .int .i64 second] w fun e w' => e = .returned (.bool true) ∧ Quiet w w' := by
  obtain ⟨a, ha, ha3⟩ := and_mask first 3 (by decide)
  obtain ⟨b, hb, hb3⟩ := and_mask second 3 (by decide)
  have ha' : bits .and .i64 first 3 = (a : Int) := ha
  have hb' : bits .and .i64 second 3 = (b : Int) := hb
  clear ha hb
  have N1 := Lib.hid (fun (w : World) => tnew (L := 2) (W := 0) (w := w) cross_code.1 (Nat.le_refl _) (Nat.zero_le _) (intsArg_nil .i64 w))
  have N2 := Lib.hid (fun (w : World) => tnew (L := 1) (W := 0) (w := w) cross_code.2 (Nat.le_refl _) (Nat.zero_le _) (intsArg_nil .i64 w))
  go_enter Try.func4, Try.ntmps4
  go_wp2_with (first
    | (go_at_call 15; (with_reducible refine (N1.out _).mono ?_); rintro e w1 ⟨p, rfl, ht1, hq1⟩; have HT1 := Lib.hid ht1; have Q1 := Lib.hid hq1; clear ht1 hq1)
    | (go_at_call 16; (with_reducible refine (both_at _ 0 1).mono ?_); rintro e w2 ⟨g2, rfl, hr2, hq2⟩; have HR2 := Lib.hid hr2; have HT2 := Lib.hid (HT1.out.quiet hq2); have Q2 := Lib.hid (Q1.out.trans hq2); clear hr2 hq2)
    | (go_at_call 9; (with_reducible refine (tstart HT2.out HR2.out).mono ?_); rintro e w3 ⟨rfl, ht3, ho3⟩; have HT3 := Lib.hid ht3; have Q3 := Lib.hid (side_quiet Q2.out (Nat.le_refl _) ho3); clear ht3 ho3)
    | (go_at_call 16; (with_reducible refine (both_at _ 1 0).mono ?_); rintro e w4 ⟨g4, rfl, hr4, hq4⟩; have HR4 := Lib.hid hr4; have HT4 := Lib.hid (HT3.out.quiet hq4); have Q4 := Lib.hid (Q3.out.trans hq4); clear hr4 hq4)
    | (go_at_call 9; (with_reducible refine (tstart HT4.out HR4.out).mono ?_); rintro e w5 ⟨rfl, ht5, ho5⟩; have HT5 := Lib.hid ht5; have Q5 := Lib.hid (side_quiet Q4.out (Nat.le_refl _) ho5); clear ht5 ho5))
  have HT6 : TRel w.heap.size p cross2 w5 := HT5.out
  have HTX := Lib.hid HT6
  clear HT6 HT5 HT4 HT3 HT2 HT1 HR2 HR4 Q1 Q2 Q3 Q4
  have HB := Lib.hid (Nat.le_refl w.heap.size)
  obtain ⟨base, hbase⟩ : ∃ base, base = w.heap.size := ⟨_, rfl⟩
  have HB := Lib.hid (show w.heap.size ≤ base by omega)
  rw [← hbase] at HTX
  clear hbase
  go_loopw [10] (fun vi wr => CrRel w base p 0 cross2 a vi wr) (fun i _ => a - (intOf i).toNat)
  case atStart => exact ⟨0, by omega, rfl, HTX.out, Q5.out⟩
  case round =>
    obtain ⟨j, hj, rfl, ht, hq⟩ := hrel
    clear HTX
    have HT := Lib.hid ht; clear ht
    have HQ := Lib.hid hq; clear hq
    by_cases hlt : j < a
    · have hd : decide ((j : Int) < (a : Int)) = true := by simpa using hlt
      go_wp2_with (go_at_call 10; (with_reducible refine (tstep HT.out 0).mono ?_); rintro e w6 ⟨rfl, ht6, ho6⟩; have HT6 := Lib.hid ht6; have Q6 := Lib.hid (side_quiet HQ.out HB.out ho6); clear ht6 ho6)
      go_roundw
      case rel => exact ⟨j + 1, by omega, by go_num, HT6.out, Q6.out⟩
      case measure => simp [intOf]; omega
    · have hja : j = a := by omega
      subst hja
      have hd : decide ((j : Int) < (j : Int)) = false := by simp
      clear hlt hj
      go_wp2_with fail
      obtain ⟨wo, rfl⟩ : ∃ wo : World, wo = wr := ⟨_, rfl⟩
      go_loopw [11] (fun vi wx => CrRel w base p 1 (steps 0 j cross2) b vi wx) (fun i _ => b - (intOf i).toNat)
      case atStart => exact ⟨0, by omega, rfl, HT.out, HQ.out⟩
      case round =>
        obtain ⟨i, hi, rfl, ht, hq⟩ := hrel
        clear HT HQ
        have HT := Lib.hid ht; clear ht
        have HQ := Lib.hid hq; clear hq
        by_cases hlt : i < b
        · have hd2 : decide ((i : Int) < (b : Int)) = true := by simpa using hlt
          go_wp2_with (go_at_call 10; (with_reducible refine (tstep HT.out 1).mono ?_); rintro e w6 ⟨rfl, ht6, ho6⟩; have HT6 := Lib.hid ht6; have Q6 := Lib.hid (side_quiet HQ.out HB.out ho6); clear ht6 ho6)
          go_roundw
          case rel => exact ⟨i + 1, by omega, by go_num, HT6.out, Q6.out⟩
          case measure => simp [intOf]; omega
        · have hib : i = b := by omega
          subst hib
          have hd2 : decide ((i : Int) < (i : Int)) = false := by simp
          have hstk := cross_stuck ⟨j, by omega⟩ ⟨i, by omega⟩
          simp only at hstk
          have HTT := Lib.hid HT.out
          have HQQ := Lib.hid HQ.out
          clear hlt hi
          rcases (show (j = 1 ∧ 1 ≤ i) ∨ (j = 1 ∧ i < 1) ∨ j ≠ 1 by omega) with ⟨h1, h2⟩ | ⟨h1, h2⟩ | h1
          · have HSTK := Lib.hid (show stuckF (steps 1 i (steps 0 j cross2)) = true by rw [hstk]; simp [h1, h2])
            have d1 : ((j : Int) == 1) = true := by simp; omega
            have d2 : decide ((1 : Int) ≤ (i : Int)) = true := by simp; omega
            clear hstk h1 h2
            go_wp2_with (first
              | (go_at_call 14; (with_reducible refine (tstuck HTT.out).mono ?_); rw [HSTK.out]; rintro e w6 ⟨rfl, hq6⟩; have Q6 := Lib.hid (HQQ.out.trans hq6); clear hq6)
              | (go_at_call 15; (with_reducible refine (N2.out _).mono ?_); rintro e w7 ⟨p7, rfl, ht7, hq7⟩; have HT7 := Lib.hid ht7; have Q7 := Lib.hid (Q6.out.trans hq7); have HB7 := Lib.hid Q6.out.size; clear ht7 hq7)
              | (go_at_call 9; refine (tstart (HT7.out.quiet ((Only.refl _ _).alloc _)) (opRd_lit (l := [⟨1, 0, 0⟩, ⟨1, 0, 0⟩]) (n := 2) (blk_new _ _) rfl two_small rfl)).mono ?_; rintro e w8 ⟨rfl, ht8, ho8⟩; have HT8 := Lib.hid (show TRel w6.heap.size p7 lone1 w8 from ht8); have Q8 := Lib.hid (side_quiet (Only.trans Q7.out ((Only.refl _ _).alloc _)) HB7.out ho8); clear ht8 ho8)
              | (go_at_call 10; (with_reducible refine (tstep HT8.out 0).mono ?_); rw [lone_step.1, lone_step.2.1]; rintro e w9 ⟨rfl, ht9, ho9⟩; have HT9 := Lib.hid ht9; have Q9 := Lib.hid (side_quiet Q8.out HB7.out ho9); clear ht9 ho9)
              | (go_at_call 14; (with_reducible refine (tstuck HT9.out).mono ?_); rw [lone_step.2.2]; rintro e w10 ⟨rfl, hq10⟩; have Q10 := Lib.hid (Q9.out.trans hq10); clear hq10))
            go_ret
            exact ⟨rfl, Q10.out⟩
          · have HSTK := Lib.hid (show stuckF (steps 1 i (steps 0 j cross2)) = false by rw [hstk]; simp; omega)
            have d1 : ((j : Int) == 1) = true := by simp; omega
            have d2 : decide ((1 : Int) ≤ (i : Int)) = false := by simp; omega
            clear hstk h1 h2
            go_wp2_with (first
              | (go_at_call 14; (with_reducible refine (tstuck HTT.out).mono ?_); rw [HSTK.out]; rintro e w6 ⟨rfl, hq6⟩; have Q6 := Lib.hid (HQQ.out.trans hq6); clear hq6)
              | (go_at_call 15; (with_reducible refine (N2.out _).mono ?_); rintro e w7 ⟨p7, rfl, ht7, hq7⟩; have HT7 := Lib.hid ht7; have Q7 := Lib.hid (Q6.out.trans hq7); have HB7 := Lib.hid Q6.out.size; clear ht7 hq7)
              | (go_at_call 9; refine (tstart (HT7.out.quiet ((Only.refl _ _).alloc _)) (opRd_lit (l := [⟨1, 0, 0⟩, ⟨1, 0, 0⟩]) (n := 2) (blk_new _ _) rfl two_small rfl)).mono ?_; rintro e w8 ⟨rfl, ht8, ho8⟩; have HT8 := Lib.hid (show TRel w6.heap.size p7 lone1 w8 from ht8); have Q8 := Lib.hid (side_quiet (Only.trans Q7.out ((Only.refl _ _).alloc _)) HB7.out ho8); clear ht8 ho8)
              | (go_at_call 10; (with_reducible refine (tstep HT8.out 0).mono ?_); rw [lone_step.1, lone_step.2.1]; rintro e w9 ⟨rfl, ht9, ho9⟩; have HT9 := Lib.hid ht9; have Q9 := Lib.hid (side_quiet Q8.out HB7.out ho9); clear ht9 ho9)
              | (go_at_call 14; (with_reducible refine (tstuck HT9.out).mono ?_); rw [lone_step.2.2]; rintro e w10 ⟨rfl, hq10⟩; have Q10 := Lib.hid (Q9.out.trans hq10); clear hq10))
            go_ret
            exact ⟨rfl, Q10.out⟩
          · have HSTK := Lib.hid (show stuckF (steps 1 i (steps 0 j cross2)) = false by rw [hstk]; simp [h1])
            have d1 : ((j : Int) == 1) = false := by simp; omega
            clear hstk h1
            go_wp2_with (first
              | (go_at_call 14; (with_reducible refine (tstuck HTT.out).mono ?_); rw [HSTK.out]; rintro e w6 ⟨rfl, hq6⟩; have Q6 := Lib.hid (HQQ.out.trans hq6); clear hq6)
              | (go_at_call 15; (with_reducible refine (N2.out _).mono ?_); rintro e w7 ⟨p7, rfl, ht7, hq7⟩; have HT7 := Lib.hid ht7; have Q7 := Lib.hid (Q6.out.trans hq7); have HB7 := Lib.hid Q6.out.size; clear ht7 hq7)
              | (go_at_call 9; refine (tstart (HT7.out.quiet ((Only.refl _ _).alloc _)) (opRd_lit (l := [⟨1, 0, 0⟩, ⟨1, 0, 0⟩]) (n := 2) (blk_new _ _) rfl two_small rfl)).mono ?_; rintro e w8 ⟨rfl, ht8, ho8⟩; have HT8 := Lib.hid (show TRel w6.heap.size p7 lone1 w8 from ht8); have Q8 := Lib.hid (side_quiet (Only.trans Q7.out ((Only.refl _ _).alloc _)) HB7.out ho8); clear ht8 ho8)
              | (go_at_call 10; (with_reducible refine (tstep HT8.out 0).mono ?_); rw [lone_step.1, lone_step.2.1]; rintro e w9 ⟨rfl, ht9, ho9⟩; have HT9 := Lib.hid ht9; have Q9 := Lib.hid (side_quiet Q8.out HB7.out ho9); clear ht9 ho9)
              | (go_at_call 14; (with_reducible refine (tstuck HT9.out).mono ?_); rw [lone_step.2.2]; rintro e w10 ⟨rfl, hq10⟩; have Q10 := Lib.hid (Q9.out.trans hq10); clear hq10))
            go_ret
            exact ⟨rfl, Q10.out⟩
theorem cross_law (w : World) (first : Int) (_ : (Lit.int .i64 first).wf = true) (second : Int) (_ : (Lit.int .i64 second).wf = true) :
    Calls Try.prog 4 #[.int .i64 first, .int .i64 second] w fun e w' => e = .returned (.bool true) ∧ Below w.heap.size w w' :=
  (cross_walk first second w).mono fun _ _ ⟨he, ho⟩ => ⟨he, ho.below (Nat.le_refl _) (fun _ x => x.elim)⟩
end Go.Proofs.Ytgdjbmfpbihopaa
