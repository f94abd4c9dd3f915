/-
  THE STATEMENT FillPlays, its walk: a desk under any calls has the document's fills. No conditions.
-/
import Derived.Test.YtffockkdiimneaaFBoth
import Derived.Deep.DeepCutAuto
import Derived.Deep.CutBlock
import Derived.Deep.RegionHeld3
namespace Go.Proofs.Ytffockkdiimneaa
open Go.RowKit
set_option linter.unusedVariables false
set_option linter.unusedSimpArgs false

theorem fconv {w : World} {A : Option Addr} {n c : Nat} {l : List UInt8} (h : Bts w A n c l) : (convert 22 9 (.slice A n c)).run Try.prog w = .ok (.string ⟨l.toArray⟩) w :=
  h.conv Try.underlying22 Try.underlying5 Try.underlying9
theorem Bts.quiet {w w' : World} {A : Option Addr} {n c : Nat} {l : List UInt8} (h : Bts w A n c l) (hq : Quiet w w') : Bts w' A n c l := h.only hq (fun _ _ x => x)
set_option maxRecDepth 8000 in
set_option maxHeartbeats 32000000 in
theorem fplays_walk (w : World) (A0 : Option Addr) (n0 c0 : Nat) (l0 : List ActV) (hnc0 : n0 ≤ c0) (hcm0 : c0 ≤ maxLen) (arg0 : StructsArg actCells 7 w A0 n0 l0) (hok : ∀ x ∈ l0, ActOk w x) :
    Calls Try.prog 7 #[.slice A0 n0 c0] w fun e w' => e = .returned (.bool true) ∧ Below w.heap.size w w' := by
  unfold maxLen at hcm0
  have AR := Lib.hid arg0; clear arg0
  have OK := Lib.hid hok; clear hok
  have NW := Lib.hid (new_at w)
  go_enter Try.func7, Try.ntmps7
  go_wp2_with (go_at_call 8; refine NW.out.mono ?_; rintro e w1 ⟨D, rfl, hn, hq, ho⟩; unfold ptr; have HN := Lib.hid (fnew hn hq ho); clear hn ho hq)
  obtain ⟨px, hpx⟩ : ∃ p, p = D.p := ⟨_, rfl⟩
  rw [← hpx] at HN ⊢
  obtain ⟨py, hpy⟩ : ∃ q, q = w1.heap.size := ⟨_, rfl⟩
  rw [← hpy] at HN ⊢
  clear hpx hpy NW
  go_loopw [5] (fun vi wr => ∃ i d, vi = .int .i64 (i : Nat) ∧ i ≤ 200 ∧ FAt w px py d d wr ∧ Small d i) (fun v _ => 200 - (intOf v).toNat)
  case atStart => exact ⟨0, _, rfl, by omega, HN.out, Small.new⟩
  case round =>
    obtain ⟨i, d, rfl, hi, hb, hs⟩ := hrel
    clear HN
    have HB := Lib.hid hb; clear hb
    have HS := Lib.hid hs; clear hs
    by_cases hc : i < n0 ∧ i < 200
    · obtain ⟨hc1, hc2⟩ := hc
      have hd1 : decide ((i : Int) < (n0 : Int)) = true := by simpa using hc1
      have hd2 : decide ((i : Int) < 200) = true := by simp; omega
      obtain ⟨ha1, hcell0⟩ := AR.out
      obtain ⟨b0, o0, rfl, hb0, hcell1⟩ := hcell0 (by omega)
      obtain ⟨⟨K, id, at_, nn, name, A, m, c, l, yes⟩, ha⟩ : ∃ a, l0[i]? = some a := ⟨_, List.getElem?_eq_getElem (by omega)⟩
      have hca := hcell1 i _ ha
      obtain ⟨hbt, hnm⟩ := OK.out _ (List.mem_of_getElem? ha)
      simp only at hbt hnm
      have qc : ∀ j v, j < 7 → (actCells ⟨K, id, at_, nn, name, A, m, c, l, yes⟩)[j]? = some v → wr.cell? ⟨b0, o0 + (i * 7 + j), none⟩ = some v := fun j v hj hv => (HB.out.below.cell (p := ⟨b0, o0 + (i * 7 + j), none⟩) hb0).trans ((hca j hj).trans hv)
      have q0 : wr.cell? ⟨b0, o0 + i * 7, none⟩ = some (.int .i64 K) := qc 0 _ (by omega) rfl
      have q1 : wr.cell? ⟨b0, o0 + i * 7 + 1, none⟩ = some (.int .i64 id) := qc 1 _ (by omega) rfl
      have q2 : wr.cell? ⟨b0, o0 + i * 7 + 2, none⟩ = some (.int .i64 at_) := qc 2 _ (by omega) rfl
      have q3 : wr.cell? ⟨b0, o0 + i * 7 + 3, none⟩ = some (.int .i64 nn) := qc 3 _ (by omega) rfl
      have q4 : wr.cell? ⟨b0, o0 + i * 7 + 4, none⟩ = some (.string name) := qc 4 _ (by omega) rfl
      have q5 : wr.cell? ⟨b0, o0 + i * 7 + 5, none⟩ = some (.slice A m c) := qc 5 _ (by omega) rfl
      have q6 : wr.cell? ⟨b0, o0 + i * 7 + 6, none⟩ = some (.bool yes) := qc 6 _ (by omega) rfl
      have q7 : b0 < wr.heap.size := Nat.lt_of_lt_of_le hb0 HB.out.below.size
      have HBT := Lib.hid hbt
      have hnl := hbt.le
      have hcl := hbt.cap
      unfold maxLen at hcl hnm
      clear hca hcell0 hcell1 ha ha1 qc hbt hb0
      have i0 : (0 : Int) ≤ (i : Int) := by omega
      have i1 : (i : Int) < (n0 : Int) := by omega
      by_cases hlong : 1100 < name.size
      · have d1 : decide ((1100 : Int) < (name.size : Int)) = true := by simp; omega
        clear hlong
        go_wp2
        go_roundw
        case rel => exact ⟨i + 1, d, by go_num, by omega, HB.out.quiet ((Only.refl _ _).alloc _), HS.out.mono (Nat.le_succ _)⟩
        case measure => simp [intOf]; omega
      have d1 : decide ((1100 : Int) < (name.size : Int)) = false := by simp; omega
      by_cases hlong2 : 3000 < m
      · have d2 : decide ((3000 : Int) < (m : Int)) = true := by simp; omega
        clear hlong hlong2
        go_wp2
        go_roundw
        case rel => exact ⟨i + 1, d, by go_num, by omega, HB.out.quiet ((Only.refl _ _).alloc _), HS.out.mono (Nat.le_succ _)⟩
        case measure => simp [intOf]; omega
      have d2 : decide ((3000 : Int) < (m : Int)) = false := by simp; omega
      clear hlong hlong2
      go_upto_block 2 with (fail)
      obtain ⟨g, hg⟩ : ∃ g, g = wr.heap.size := ⟨_, rfl⟩
      rw [← hg]
      have HX1 := Lib.hid (show ABox (wr.alloc (.cells #[.int .i64 K, .int .i64 id, .int .i64 at_, .int .i64 nn, .string name, .slice A m c, .bool yes] 57)) g ⟨K, id, at_, nn, name, A, m, c, l, yes⟩ by rw [hg]; exact blk_new _ _)
      have HB1 := Lib.hid (HB.out.quiet ((Only.refl _ wr).alloc (.cells #[.int .i64 K, .int .i64 id, .int .i64 at_, .int .i64 nn, .string name, .slice A m c, .bool yes] 57)))
      clear hg q0 q1 q2 q3 q4 q5 q6 q7 d1 d2
      generalize wr.alloc (.cells #[.int .i64 K, .int .i64 id, .int .i64 at_, .int .i64 nn, .string name, .slice A m c, .bool yes] 57) = W at HX1 HB1 ⊢
      go_cut [] (fun wx => ∃ d2, FAt w px py d2 d2 wx ∧ ABox wx g ⟨K, id, at_, nn, name, A, m, c, l, yes⟩ ∧ Small d2 (i + 1))
      case first =>
        obtain ⟨x0, x1, x2, x3, x4, x5, x6, x7⟩ := HX1.out.cells
        simp only at x0 x1 x2 x3 x4 x5 x6
        rcases (show K = 0 ∨ K = 1 ∨ K = 2 ∨ K = 3 ∨ (K < 0 ∨ 3 < K) by omega) with rfl | rfl | rfl | rfl | hK
        · have C9 := Lib.hid (fbegin HB1.out HX1.out name HS.out (by omega))
          have C17 := Lib.hid (fun (V : World) (hV : FAt w px py (beginF d name).2.2.2 d V) (hX : ABox V g ⟨0, id, at_, nn, name, A, m, c, l, yes⟩) => fbeginq hV hX name HS.out (by omega))
          have HSB := Lib.hid (HS.out.begin name)
          generalize beginF d name = f at C9 C17 HSB
          obtain ⟨f1, f2, f3, f4⟩ := f
          simp only at C9 C17 HSB
          go_wp2_with (first
            | (go_at_call 9; refine C9.out.mono ?_; rintro e w2 ⟨rfl, hm2, hx2⟩; have HB2 := Lib.hid hm2; have HX2 := Lib.hid hx2; obtain ⟨y0, y1, y2, y3, y4, y5, y6, y7⟩ := hx2.cells; simp only at y0 y1 y2 y3 y4 y5 y6; clear hm2 hx2)
            | (go_at_call 17; refine (C17.out _ HB2.out HX2.out).mono ?_; rintro e w3 ⟨rfl, hm3, hx3⟩; have HB3 := Lib.hid hm3; have HX3 := Lib.hid hx3; clear hm3 hx3))
          go_meet
          exact ⟨_, HB3.out, HX3.out, HSB.out⟩
        · skip
          have C12 := Lib.hid (fun (V : World) (hV : Quiet W V) => fappend (HB1.out.quiet hV) (HX1.out.quiet hV) id HBT.out)
          have C18 := Lib.hid (fun (V : World) (hV : FAt w px py (appendF d id l).2 d V) (hX : ABox V g ⟨1, id, at_, nn, name, A, m, c, l, yes⟩) => fappendq hV hX id HBT.out)
          have HSB := Lib.hid ((HS.out.append id l).mono (Nat.le_succ i))
          generalize appendF d id l = f at C12 C18 HSB
          obtain ⟨f1, f2⟩ := f
          simp only at C12 C18 HSB
          go_wp2_with fail
          go_region_held3 (fun w' => w'.cell? ⟨g, 1, none⟩ = some (.int .i64 id) ∧ w'.cell? ⟨g, 5, none⟩ = some (.slice A m c)) (first | exact ⟨x1, x5⟩ | exact ⟨y1, y5⟩ | exact ⟨z1, z5⟩)
            (first
            | (go_at_call 12; refine (C12.out _ (by repeat (first | exact Only.refl _ _ | refine Only.drewN ?_ _ | refine Only.drew ?_))).mono ?_; rintro e w2 ⟨rfl, hm2, hx2⟩; have HB2 := Lib.hid hm2; have HX2 := Lib.hid hx2; obtain ⟨y0, y1, y2, y3, y4, y5, y6, y7⟩ := hx2.cells; simp only at y0 y1 y2 y3 y4 y5 y6; clear hm2 hx2)
            | (go_at_call 18; refine (C18.out _ HB2.out HX2.out).mono ?_; rintro e w3 ⟨rfl, hm3, hx3⟩; have HB3 := Lib.hid hm3; have HX3 := Lib.hid hx3; obtain ⟨z0, z1, z2, z3, z4, z5, z6, z7⟩ := hx3.cells; simp only at z0 z1 z2 z3 z4 z5 z6; clear hm3 hx3))
          all_goals
            go_wp2_with fail
            go_meet
            exact ⟨_, HB3.out, HX3.out, HSB.out⟩
        · skip
          have C10 := Lib.hid (fun (V : World) (hV : Quiet W V) => fend (HB1.out.quiet hV) (HX1.out.quiet hV) id yes)
          have C19 := Lib.hid (fun (V : World) (hV : FAt w px py (endF d id yes).2 d V) (hX : ABox V g ⟨2, id, at_, nn, name, A, m, c, l, yes⟩) => fendq hV hX id yes)
          have HSB := Lib.hid ((HS.out.end_ id yes).mono (Nat.le_succ i))
          generalize endF d id yes = f at C10 C19 HSB
          obtain ⟨f1, f2⟩ := f
          simp only at C10 C19 HSB
          go_wp2_with fail
          go_region_held3 (fun w' => w'.cell? ⟨g, 1, none⟩ = some (.int .i64 id) ∧ w'.cell? ⟨g, 6, none⟩ = some (.bool yes)) (first | exact ⟨x1, x6⟩ | exact ⟨y1, y6⟩ | exact ⟨z1, z6⟩)
            (first
            | (go_at_call 10; refine (C10.out _ (by repeat (first | exact Only.refl _ _ | refine Only.drewN ?_ _ | refine Only.drew ?_))).mono ?_; rintro e w2 ⟨rfl, hm2, hx2⟩; have HB2 := Lib.hid hm2; have HX2 := Lib.hid hx2; obtain ⟨y0, y1, y2, y3, y4, y5, y6, y7⟩ := hx2.cells; simp only at y0 y1 y2 y3 y4 y5 y6; clear hm2 hx2)
            | (go_at_call 19; refine (C19.out _ HB2.out HX2.out).mono ?_; rintro e w3 ⟨rfl, hm3, hx3⟩; have HB3 := Lib.hid hm3; have HX3 := Lib.hid hx3; obtain ⟨z0, z1, z2, z3, z4, z5, z6, z7⟩ := hx3.cells; simp only at z0 z1 z2 z3 z4 z5 z6; clear hm3 hx3))
          all_goals
            go_wp2_with fail
            go_meet
            exact ⟨_, HB3.out, HX3.out, HSB.out⟩
        · skip
          have C16 := Lib.hid (fun (V : World) (hV : Quiet W V) => fleave (HB1.out.quiet hV) (HX1.out.quiet hV) id HS.out (by omega))
          have C20 := Lib.hid (fun (V : World) (hV : FAt w px py (leaveF d id).2 d V) (hX : ABox V g ⟨3, id, at_, nn, name, A, m, c, l, yes⟩) => fleaveq hV hX id HS.out (by omega))
          have HSB := Lib.hid ((HS.out.leave id).mono (Nat.le_succ i))
          generalize leaveF d id = f at C16 C20 HSB
          obtain ⟨f1, f2⟩ := f
          simp only at C16 C20 HSB
          go_wp2_with fail
          go_region_held3 (fun w' => w'.cell? ⟨g, 1, none⟩ = some (.int .i64 id)) (first | exact x1 | exact y1 | exact z1)
            (first
            | (go_at_call 16; refine (C16.out _ (by repeat (first | exact Only.refl _ _ | refine Only.drewN ?_ _ | refine Only.drew ?_))).mono ?_; rintro e w2 ⟨rfl, hm2, hx2⟩; have HB2 := Lib.hid hm2; have HX2 := Lib.hid hx2; obtain ⟨y0, y1, y2, y3, y4, y5, y6, y7⟩ := hx2.cells; simp only at y0 y1 y2 y3 y4 y5 y6; clear hm2 hx2)
            | (go_at_call 20; refine (C20.out _ HB2.out HX2.out).mono ?_; rintro e w3 ⟨rfl, hm3, hx3⟩; have HB3 := Lib.hid hm3; have HX3 := Lib.hid hx3; obtain ⟨z0, z1, z2, z3, z4, z5, z6, z7⟩ := hx3.cells; simp only at z0 z1 z2 z3 z4 z5 z6; clear hm3 hx3))
          all_goals
            go_wp2_with fail
            go_meet
            exact ⟨_, HB3.out, HX3.out, HSB.out⟩
        · have e0 : (K == 0) = false := by simp; omega
          have e1 : (K == 1) = false := by simp; omega
          have e2 : (K == 2) = false := by simp; omega
          have e3 : (K == 3) = false := by simp; omega
          clear hK
          go_wp2_with fail
          go_meet
          exact ⟨_, HB1.out, HX1.out, HS.out.mono (Nat.le_succ _)⟩
      case rest =>
        obtain ⟨d2, hm2, hx2, hs2⟩ := hcut
        have HB2 := Lib.hid hm2
        have HX2 := Lib.hid hx2
        have HS2 := Lib.hid hs2
        obtain ⟨x0, x1, x2, x3, x4, x5, x6, x7⟩ := hx2.cells
        simp only at x0 x1 x2 x3 x4 x5 x6
        clear hm2 hx2 hs2 HB HS HB1 HX1
        have C14 := Lib.hid (fread HB2.out id at_ nn)
        have C21 := Lib.hid (fun (V : World) (hV : FAt w px py d2 d2 V) => freadq hV id at_ nn)
        generalize readF d2 id at_ nn = R at C14 C21
        obtain ⟨R1, R2, R3⟩ := R
        simp only at C14 C21
        obtain ⟨RL, hRL⟩ : ∃ n, n = R1.length := ⟨_, rfl⟩
        rw [← hRL] at C14 C21
        clear hRL
        have C13 := Lib.hid (fun (V : World) (hV : FAt w px py d2 d2 V) => fpart hV id)
        have C22 := Lib.hid (fun (V : World) (hV : FAt w px py d2 d2 V) => fpartq hV id)
        have C11 := Lib.hid (fun (V : World) (hV : FAt w px py d2 d2 V) => frunning hV)
        have C23 := Lib.hid (fun (V : World) (hV : FAt w px py d2 d2 V) => frunningq hV)
        generalize partF d2 id = pv at C13 C22
        generalize runningF d2 = rv at C11 C23
        go_wp2_with (first
          | (go_at_call 14; refine C14.out.mono ?_; rintro e w3 ⟨A1, k1, rfl, hb3, hq3⟩; have HB3 := Lib.hid (HB2.out.quiet hq3); have HX3 := Lib.hid (HX2.out.quiet hq3); have T3 := Lib.hid hb3; obtain ⟨y0, y1, y2, y3, y4, y5, y6, y7⟩ := HX3.out.cells; simp only at y0 y1 y2 y3 y4 y5 y6; clear hb3 hq3)
          | (go_at_call 21; refine (C21.out _ HB3.out).mono ?_; rintro e w4 ⟨A2, k2, rfl, hb4, hq4⟩; have HB4 := Lib.hid (HB3.out.quiet hq4); have HX4 := Lib.hid (HX3.out.quiet hq4); have T4 := Lib.hid hb4; have S4 := Lib.hid (T3.out.quiet hq4); clear hb4 hq4))
        have FP := Lib.hid (fun (V : World) (hV : Quiet w4 V) => show V.cell? ⟨g, 1, none⟩ = some (.int .i64 id) ∧ (convert 22 9 (.slice A1 RL k1)).run Try.prog V = .ok (.string ⟨R1.toArray⟩) V ∧ (convert 22 9 (.slice A2 RL k2)).run Try.prog V = .ok (.string ⟨R1.toArray⟩) V from
          ⟨(HX4.out.quiet hV).cells.2.1, fconv (S4.out.quiet hV), fconv (T4.out.quiet hV)⟩)
        obtain ⟨v1, v2, v3⟩ := FP.out _ ((Only.refl _ w4).drew)
        go_region_held3 (fun w' => w'.cell? ⟨g, 1, none⟩ = some (.int .i64 id) ∧ (convert 22 9 (.slice A1 RL k1)).run Try.prog w' = .ok (.string ⟨R1.toArray⟩) w' ∧ (convert 22 9 (.slice A2 RL k2)).run Try.prog w' = .ok (.string ⟨R1.toArray⟩) w')
          (exact FP.out _ (by repeat (first | exact Only.refl _ _ | exact Q8.out | exact Q7.out | exact Q6.out | exact Q5.out | refine Only.drewN ?_ _ | refine Only.drew ?_)))
          (first
            | (go_at_call 13; refine (C13.out _ (HB4.out.quiet (by repeat (first | exact Only.refl _ _ | exact Q8.out | exact Q7.out | exact Q6.out | exact Q5.out | refine Only.drewN ?_ _ | refine Only.drew ?_)))).mono ?_; rintro e w5 ⟨rfl, hq5⟩; have Q5 := Lib.hid (show Quiet w4 w5 from Only.trans (by repeat (first | exact Only.refl _ _ | exact Q8.out | exact Q7.out | exact Q6.out | exact Q5.out | refine Only.drewN ?_ _ | refine Only.drew ?_)) hq5); clear hq5)
            | (go_at_call 22; refine (C22.out _ (HB4.out.quiet (by repeat (first | exact Only.refl _ _ | exact Q8.out | exact Q7.out | exact Q6.out | exact Q5.out | refine Only.drewN ?_ _ | refine Only.drew ?_)))).mono ?_; rintro e w6 ⟨rfl, hq6⟩; have Q6 := Lib.hid (show Quiet w4 w6 from Only.trans (by repeat (first | exact Only.refl _ _ | exact Q8.out | exact Q7.out | exact Q6.out | exact Q5.out | refine Only.drewN ?_ _ | refine Only.drew ?_)) hq6); clear hq6)
            | (go_at_call 11; refine (C11.out _ (HB4.out.quiet (by repeat (first | exact Only.refl _ _ | exact Q8.out | exact Q7.out | exact Q6.out | exact Q5.out | refine Only.drewN ?_ _ | refine Only.drew ?_)))).mono ?_; rintro e w7 ⟨rfl, hq7⟩; have Q7 := Lib.hid (show Quiet w4 w7 from Only.trans (by repeat (first | exact Only.refl _ _ | exact Q8.out | exact Q7.out | exact Q6.out | exact Q5.out | refine Only.drewN ?_ _ | refine Only.drew ?_)) hq7); clear hq7)
            | (go_at_call 23; refine (C23.out _ (HB4.out.quiet (by repeat (first | exact Only.refl _ _ | exact Q8.out | exact Q7.out | exact Q6.out | exact Q5.out | refine Only.drewN ?_ _ | refine Only.drew ?_)))).mono ?_; rintro e w8 ⟨rfl, hq8⟩; have Q8 := Lib.hid (show Quiet w4 w8 from Only.trans (by repeat (first | exact Only.refl _ _ | exact Q8.out | exact Q7.out | exact Q6.out | exact Q5.out | refine Only.drewN ?_ _ | refine Only.drew ?_)) hq8); clear hq8))
        all_goals
          go_wp2_with fail
          go_roundw
          case rel => exact ⟨i + 1, d2, by go_num, by omega, HB4.out.quiet Q8.out, HS2.out⟩
          case measure => simp [intOf]; omega
    · have hstop : n0 ≤ i ∨ (i < n0 ∧ 200 ≤ i) := by omega
      clear hc
      rcases hstop with h1' | ⟨h1', h2'⟩
      all_goals
        go_wp2_with fail
        go_ret
        exact ⟨rfl, HB.out.below⟩
theorem fplays_law (w : World) (A0 : Option Addr) (n0 c0 : Nat) (l0 : List ActV) (hnc0 : n0 ≤ c0) (hcm0 : c0 ≤ maxLen) (_ : A0 = none → n0 = 0 ∧ c0 = 0) (arg0 : StructsArg actCells 7 w A0 n0 l0) (hok : ∀ x ∈ l0, ActOk w x) :
    Calls Try.prog 7 #[.slice A0 n0 c0] w fun e w' => e = .returned (.bool true) ∧ Below w.heap.size w w' := fplays_walk w A0 n0 c0 l0 hnc0 hcm0 arg0 hok
end Go.Proofs.Ytffockkdiimneaa
