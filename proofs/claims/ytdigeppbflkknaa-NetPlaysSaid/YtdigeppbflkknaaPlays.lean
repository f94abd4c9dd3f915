/-
  THE STATEMENT NetPlays, its walk: a net under any calls has the document's wires. No conditions.
-/
import Derived.Test.YtdigeppbflkknaaActs
import Derived.Deep.DeepCutAuto
import Derived.Deep.RegionHeld3
import Derived.Deep.QuietTactic
import Derived.BigQuiet
import Derived.Deep.CutBlock
namespace Go.Proofs.Ytdigeppbflkknaa
open Go.RowKit
set_option linter.unusedVariables false
set_option linter.unusedSimpArgs false

def PRel (w : World) (p q : Nat) (vi : Value) (wr : World) : Prop := ∃ (k : Nat) (xs : List Wire), vi = .int .i64 k ∧ k ≤ 200 ∧ MRel w p q xs xs wr
set_option maxRecDepth 100000 in
set_option maxHeartbeats 8000000 in
theorem plays_walk (w : World) (A0 : Option Addr) (n0 c0 : Nat) (l0 : List ActV) (hnc0 : n0 ≤ c0) (hcm0 : c0 ≤ maxLen) (arg0 : StructsArg actCells 5 w A0 n0 l0) (hok : ∀ x ∈ l0, ActOk w x) :
    Calls Try.prog 4 #[.slice A0 n0 c0] w fun e w' => e = .returned (.bool true) ∧ Below w.heap.size w w' := by
  unfold maxLen at hcm0
  have AR := Lib.hid arg0; clear arg0
  have OK := Lib.hid hok; clear hok
  have NW := Lib.hid (new_at w)
  go_enter Try.func4, Try.ntmps4
  go_wp2_with (go_at_call 14; refine NW.out.mono ?_; rintro e w1 ⟨N, rfl, hn, hq, ho⟩; have HN := Lib.hid (mrel_new hn hq ho); clear hn ho hq)
  obtain ⟨p, hp⟩ : ∃ p, p = N.p := ⟨_, rfl⟩
  rw [← hp] at HN ⊢
  obtain ⟨q, hq⟩ : ∃ q, q = w1.heap.size := ⟨_, rfl⟩
  rw [← hq] at HN ⊢
  clear hp hq
  go_loopw [5] (fun vi wr => PRel w p q vi wr) (fun i _ => 200 - (intOf i).toNat)
  case atStart => exact ⟨0, _, rfl, by omega, HN.out⟩
  case round =>
    obtain ⟨k, xs, rfl, hk, hR⟩ := hrel
    have HB := Lib.hid hR; clear hR HN
    by_cases hc : k < n0 ∧ k < 200
    · obtain ⟨h1', h2'⟩ := hc
      have hd1 : decide ((k : Int) < (n0 : Int)) = true := by simpa using h1'
      have hd2 : decide ((k : Int) < 200) = true := by simp; omega
      obtain ⟨ha1, hcell0⟩ := AR.out
      obtain ⟨b1, o1, rfl, hb1, hcell1⟩ := hcell0 (by omega)
      obtain ⟨⟨K, wi, si, mo, A, n, c, l⟩, ha⟩ : ∃ a, l0[k]? = some a := ⟨_, List.getElem?_eq_getElem (by omega)⟩
      have hca := hcell1 k _ ha
      have hbt : Bts w A n c l := OK.out _ (List.mem_of_getElem? ha)
      have qc : ∀ j v, j < 5 → (actCells ⟨K, wi, si, mo, A, n, c, l⟩)[j]? = some v → wr.cell? ⟨b1, o1 + (k * 5 + j), none⟩ = some v := fun j v hj hv => (HB.out.below.cell (p := ⟨b1, o1 + (k * 5 + j), none⟩) hb1).trans ((hca j hj).trans hv)
      have q0 : wr.cell? ⟨b1, o1 + k * 5, none⟩ = some (.int .i64 K) := qc 0 _ (by omega) rfl
      have q1 : wr.cell? ⟨b1, o1 + k * 5 + 1, none⟩ = some (.int .i64 wi) := qc 1 _ (by omega) rfl
      have q2 : wr.cell? ⟨b1, o1 + k * 5 + 2, none⟩ = some (.int .i64 si) := qc 2 _ (by omega) rfl
      have q3 : wr.cell? ⟨b1, o1 + k * 5 + 3, none⟩ = some (.int .i64 mo) := qc 3 _ (by omega) rfl
      have q4 : wr.cell? ⟨b1, o1 + k * 5 + 4, none⟩ = some (.slice A n c) := qc 4 _ (by omega) rfl
      have HBT := Lib.hid hbt
      have hnl := hbt.le
      have hcl := hbt.cap
      unfold maxLen at hcl
      clear hca hcell0 hcell1 ha ha1 qc hbt
      by_cases hlong : 3000 < n
      · go_wp2
        go_roundw
        case rel => exact ⟨k + 1, xs, by go_num, by omega, HB.out.quiet ((Only.refl _ _).alloc _)⟩
        case measure => simp [intOf]; omega
      · go_upto_block 2 with (fail)
        go_cut [] (fun wx => ∃ xs2, MRel w p q xs2 xs2 wx ∧ AtBox wx wr.heap.size K wi si mo A n c)
        case first =>
          have HX := Lib.hid (show AtBox (wr.alloc (.cells #[.int .i64 K, .int .i64 wi, .int .i64 si, .int .i64 mo, .slice A n c] 46)) wr.heap.size K wi si mo A n c from blk_new _ _)
          have HB1 := Lib.hid (HB.out.quiet ((Only.refl _ wr).alloc (.cells #[.int .i64 K, .int .i64 wi, .int .i64 si, .int .i64 mo, .slice A n c] 46)))
          generalize wr.alloc _ = W at HX HB1 ⊢
          have x0 := HX.out.c0
          have x1 := HX.out.c1
          have x2 := HX.out.c2
          have x3 := HX.out.c3
          have x4 := HX.out.c4
          have xs0 := lt_of_heap HX.out
          clear q0 q1 q2 q3 q4
          rcases (show K = 0 ∨ K = 1 ∨ K = 2 ∨ K = 3 ∨ K = 4 ∨ (K < 0 ∨ 4 < K) by omega) with rfl | rfl | rfl | rfl | rfl | hK
          · go_wp2_with (first
              | (go_at_call 7; refine (bopen HB1.out HX.out).mono ?_; rintro e w2 ⟨rfl, hm2, hx2⟩; have HB2 := Lib.hid hm2; have HX2 := Lib.hid hx2; clear hm2 hx2)
              | (go_at_call 15; refine (bropen HB2.out HX2.out).mono ?_; rintro e w3 ⟨rfl, hm3, hx3⟩; have HB3 := Lib.hid hm3; have HX3 := Lib.hid hx3; clear hm3 hx3))
            go_meet
            exact ⟨_, HB3.out, HX3.out⟩
          · skip
            go_wp2_with fail
            go_region_held3 (fun w' => w'.cell? ⟨wr.heap.size, 1, none⟩ = some (.int .i64 wi) ∧ w'.cell? ⟨wr.heap.size, 2, none⟩ = some (.int .i64 si) ∧ w'.cell? ⟨wr.heap.size, 4, none⟩ = some (.slice A n c)) (first | exact ⟨x1, x2, x4⟩ | exact ⟨y1, y2, y4⟩ | exact ⟨z1, z2, z4⟩)
            (first
            | (go_at_call 9; refine (bsend (HB1.out.quiet (by repeat (first | exact Only.refl _ _ | refine Only.drewN ?_ _ | refine Only.drew ?_))) (HX.out.quiet (by repeat (first | exact Only.refl _ _ | refine Only.drewN ?_ _ | refine Only.drew ?_))) wi si HBT.out).mono ?_; rintro e w8 ⟨rfl, hm8, hx8⟩; have HB8 := Lib.hid hm8; have HX8 := Lib.hid hx8; have y1 := hx8.c1; have y2 := hx8.c2; have y4 := hx8.c4; clear hm8 hx8)
            | (go_at_call 16; refine (brsend wi si HB8.out HX8.out HBT.out).mono ?_; rintro e w9 ⟨rfl, hm9, hx9⟩; have HB9 := Lib.hid hm9; have HX9 := Lib.hid hx9; have z1 := hx9.c1; have z2 := hx9.c2; have z4 := hx9.c4; clear hm9 hx9))
            all_goals
              go_wp2
              go_meet
              exact ⟨_, HB9.out, HX9.out⟩
          · go_wp2_with (first
              | (go_at_call 8; refine (btake HB1.out HX.out wi si mo).mono ?_; rintro e w2 ⟨A1, c1, rfl, hs2, hm2, hx2⟩; have HB2 := Lib.hid hm2; have HX2 := Lib.hid hx2; have HS2 := Lib.hid hs2; have y1 := hx2.c1; have y2 := hx2.c2; have y3 := hx2.c3; have ys := lt_of_heap hx2; clear hm2 hx2 hs2)
              | (go_at_call 17; refine (brtake wi si mo HB2.out HX2.out HS2.out).mono ?_; rintro e w3 ⟨A2, c2, rfl, hb3, hm3, hx3, hs3⟩; have HB3 := Lib.hid hm3; have HX3 := Lib.hid hx3; have k1 := hs3.bts.conv Try.underlying22 Try.underlying5 Try.underlying9; have k2 := hb3.conv Try.underlying22 Try.underlying5 Try.underlying9; clear hm3 hx3 hs3 hb3))
            go_meet
            exact ⟨_, HB3.out, HX3.out⟩
          · skip
            go_wp2_with fail
            go_region_held3 (fun w' => w'.cell? ⟨wr.heap.size, 1, none⟩ = some (.int .i64 wi) ∧ w'.cell? ⟨wr.heap.size, 2, none⟩ = some (.int .i64 si)) (first | exact ⟨x1, x2⟩ | exact ⟨y1, y2⟩ | exact ⟨z1, z2⟩)
            (first
            | (go_at_call 10; refine (bshut (HB1.out.quiet (by repeat (first | exact Only.refl _ _ | refine Only.drewN ?_ _ | refine Only.drew ?_))) (HX.out.quiet (by repeat (first | exact Only.refl _ _ | refine Only.drewN ?_ _ | refine Only.drew ?_))) wi si).mono ?_; rintro e w8 ⟨rfl, hm8, hx8⟩; have HB8 := Lib.hid hm8; have HX8 := Lib.hid hx8; have y1 := hx8.c1; have y2 := hx8.c2; clear hm8 hx8)
            | (go_at_call 18; refine (brshut wi si HB8.out HX8.out).mono ?_; rintro e w9 ⟨rfl, hm9, hx9⟩; have HB9 := Lib.hid hm9; have HX9 := Lib.hid hx9; have z1 := hx9.c1; have z2 := hx9.c2; clear hm9 hx9))
            all_goals
              go_wp2
              go_meet
              exact ⟨_, HB9.out, HX9.out⟩
          · skip
            go_wp2_with fail
            go_region_held3 (fun w' => w'.cell? ⟨wr.heap.size, 1, none⟩ = some (.int .i64 wi)) (first | exact x1 | exact y1 | exact z1)
            (first
            | (go_at_call 11; refine (breset (HB1.out.quiet (by repeat (first | exact Only.refl _ _ | refine Only.drewN ?_ _ | refine Only.drew ?_))) (HX.out.quiet (by repeat (first | exact Only.refl _ _ | refine Only.drewN ?_ _ | refine Only.drew ?_))) wi).mono ?_; rintro e w8 ⟨rfl, hm8, hx8⟩; have HB8 := Lib.hid hm8; have HX8 := Lib.hid hx8; have y1 := hx8.c1; clear hm8 hx8)
            | (go_at_call 19; refine (brreset wi HB8.out HX8.out).mono ?_; rintro e w9 ⟨rfl, hm9, hx9⟩; have HB9 := Lib.hid hm9; have HX9 := Lib.hid hx9; have z1 := hx9.c1; clear hm9 hx9))
            all_goals
              go_wp2
              go_meet
              exact ⟨_, HB9.out, HX9.out⟩
          · have e0 : (K == 0) = false := by simp; omega
            have e1 : (K == 1) = false := by simp; omega
            have e2 : (K == 2) = false := by simp; omega
            have e3 : (K == 3) = false := by simp; omega
            have e4 : (K == 4) = false := by simp; omega
            clear hK
            go_wp2
            go_meet
            exact ⟨_, HB1.out, HX.out⟩
        case rest =>
          obtain ⟨xs2, hm2, hx2⟩ := hcut
          have HB2 := Lib.hid hm2
          have HX2 := Lib.hid hx2
          clear hm2 hx2 q0 q1 q2 q3 q4
          generalize wr.heap.size = g at HX2 ⊢
          go_wp2
          obtain ⟨wo, rfl⟩ : ∃ wo : World, wo = wr := ⟨_, rfl⟩
          go_loopw [15] (fun vs wx => ∃ s : Int, -1 ≤ s ∧ s ≤ 3 ∧ vs = .int .i64 s ∧ MRel w p q xs2 xs2 wx ∧ AtBox wx g K wi si mo A n c) (fun v _ => (3 - intOf v).toNat)
          case atStart => exact ⟨_, by omega, by omega, rfl, HB2.out, HX2.out⟩
          case round =>
            obtain ⟨s, hs1, hs2, rfl, hm, hx⟩ := hrel
            have HB3 := Lib.hid hm
            have HX3 := Lib.hid hx
            have x1 := hx.c1
            have xs1 := lt_of_heap hx
            clear hm hx HB2 HX2
            by_cases hs3 : s ≤ 2
            · have hd3 : decide (s ≤ 2) = true := by simpa using hs3
              have C12 := Lib.hid (fun (W : World) (hW : MRel w p q xs2 xs2 W) => bwaiting hW wi s)
              have C20 := Lib.hid (fun (W : World) (hW : MRel w p q xs2 xs2 W) => brwaiting hW wi s)
              have C13 := Lib.hid (fun (W : World) (hW : MRel w p q xs2 xs2 W) => bended hW wi s)
              have C21 := Lib.hid (fun (W : World) (hW : MRel w p q xs2 xs2 W) => brended hW wi s)
              generalize waitingF xs2 wi s = wv at C12 C20
              generalize endedF xs2 wi s = ev at C13 C21
              go_wp2_with fail
              go_region_held3 (fun w' => w'.cell? ⟨g, 1, none⟩ = some (.int .i64 wi)) (first | exact x1 | exact y1 | exact z1 | exact v1 | exact t1)
                (first
                  | (go_at_call 12; refine (C12.out _ (HB3.out.quiet (by repeat (first | exact Only.refl _ _ | refine Only.drewN ?_ _ | refine Only.drew ?_)))).mono ?_; rintro e w4 ⟨rfl, hq4⟩; have HB4 := Lib.hid (HB3.out.quiet (Only.trans (by repeat (first | exact Only.refl _ _ | refine Only.drewN ?_ _ | refine Only.drew ?_)) hq4)); have HX4 := Lib.hid (HX3.out.quiet (Only.trans (by repeat (first | exact Only.refl _ _ | refine Only.drewN ?_ _ | refine Only.drew ?_)) hq4)); have y1 := HX4.out.c1; clear hq4)
                  | (go_at_call 20; refine (C20.out _ HB4.out).mono ?_; rintro e w5 ⟨rfl, hq5⟩; have HB5 := Lib.hid (HB4.out.quiet hq5); have HX5 := Lib.hid (HX4.out.quiet hq5); have z1 := HX5.out.c1; clear hq5)
                  | (go_at_call 13; refine (C13.out _ HB5.out).mono ?_; rintro e w6 ⟨rfl, hq6⟩; have HB6 := Lib.hid (HB5.out.quiet hq6); have HX6 := Lib.hid (HX5.out.quiet hq6); have v1 := HX6.out.c1; clear hq6)
                  | (go_at_call 21; refine (C21.out _ HB6.out).mono ?_; rintro e w7 ⟨rfl, hq7⟩; have HB7 := Lib.hid (HB6.out.quiet hq7); have HX7 := Lib.hid (HX6.out.quiet hq7); have t1 := HX7.out.c1; clear hq7))
              all_goals
                go_wp2
                go_roundw
                case rel => exact ⟨s + 1, by omega, by omega, by go_num, HB7.out, HX7.out⟩
                case measure => simp [intOf]; omega
            · have hs4 : s = 3 := by omega
              subst hs4
              go_wp2
              go_roundw
              case rel => exact ⟨k + 1, xs2, by go_num, by omega, HB3.out⟩
              case measure => simp [intOf]; omega
    · have hstop : n0 ≤ k ∨ (k < n0 ∧ 200 ≤ k) := by omega
      clear hc
      rcases hstop with h1' | ⟨h1', h2'⟩
      all_goals
        go_wp2
        go_ret
        exact ⟨rfl, HB.out.below⟩
theorem plays_law (w : World) (A0 : Option Addr) (n0 c0 : Nat) (l0 : List ActV) (hnc0 : n0 ≤ c0) (hcm0 : c0 ≤ maxLen) (_ : A0 = none → n0 = 0 ∧ c0 = 0) (arg0 : StructsArg actCells 5 w A0 n0 l0) (hok : ∀ x ∈ l0, ActOk w x) :
    Calls Try.prog 4 #[.slice A0 n0 c0] w fun e w' => e = .returned (.bool true) ∧ Below w.heap.size w w' := plays_walk w A0 n0 c0 l0 hnc0 hcm0 arg0 hok
end Go.Proofs.Ytdigeppbflkknaa
