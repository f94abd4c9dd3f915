/-
  The reference's of, at three and four. No conditions.
-/
import Derived.Test.YthhaaakabpnbnaaOf
namespace Go.Proofs.Ythhaaakabpnbnaa
open Go.RowKit
set_option linter.unusedVariables false
set_option linter.unusedSimpArgs false

set_option maxRecDepth 8000 in
set_option maxHeartbeats 16000000 in
theorem of3 {w : World} {A : Option Addr} {n c : Nat} {l : List Sp} (h : Sps w A n c l) (hg : Good l) (h32 : n ≤ 32) (s : Sp) (hs : isSp s = true) :
    Calls Try.prog 31 #[.slice A n c, .agg #[.int .i64 s.1, .int .i64 s.2], .int .i64 3] w fun e w' => ∃ R, IsOf 3 l s R ∧ Res1 w R e w' := by
  obtain ⟨i0, hi0, hz0, hz1, hz2⟩ := info_parts Try.row28
  have q1 : Quiet w (w.alloc (.cells #[.int .i64 s.1, .int .i64 s.2] 28)) := (Only.refl _ _).alloc _
  have EN := Lib.hid (ends_at (h.quiet q1) h32 s)
  have BX := Lib.hid (box_at' w s)
  have HQ1 := Lib.hid q1; clear q1
  have H := Lib.hid h; clear h
  have HG := Lib.hid hg; clear hg
  have HSP := Lib.hid hs; clear hs
  go_enter Try.func31, Try.ntmps31
  go_upto_region 3 with (go_at_call 35; refine EN.out.mono ?_; rintro e w2 ⟨E, D, d, rfl, hE1, hE2, hE3, hnr⟩; obtain ⟨t0, t1, t2⟩ := BX.out w2 hnr.q; have NR := Lib.hid hnr; clear hnr; have HE1 := Lib.hid hE1; clear hE1; have HE2 := Lib.hid hE2; clear hE2; have HE3 := Lib.hid hE3; clear hE3)
  clear EN
  have hdN := NR.out.sl.le
  have hdm := NR.out.sl.capLe
  unfold maxLen at hdm
  obtain ⟨g, off, hD⟩ : ∃ g off, D = some ⟨g, off, none⟩ := by
    rcases NR.out.sl.2 with ⟨_, h2, _⟩ | ⟨g, off, cur, h1, _⟩
    · omega
    · exact ⟨g, off, h1⟩
  subst hD
  obtain ⟨N, hN⟩ : ∃ N, N = 2 * n + 2 := ⟨_, rfl⟩
  rw [← hN] at NR HE1 hdN ⊢
  have hN66 : N ≤ 66 := by omega
  have hN2 : 2 ≤ N := by omega
  clear hN
  have Q2 := Lib.hid (HQ1.out.trans NR.out.q)
  have one := one_new w2 s
  obtain ⟨w3, hw3⟩ : ∃ w3, w3 = w2.alloc (.cells #[.int .i64 s.1, .int .i64 s.2] 28) := ⟨_, rfl⟩
  have hq23 : Quiet w2 w3 := by rw [hw3]; exact (Only.refl _ _).alloc _
  rw [← hw3] at one
  have Q3 := Lib.hid (Q2.out.trans hq23)
  have FL := Lib.hid (fun (W : World) (hW : Quiet w3 W) => H.out.quiet (Q3.out.trans hW))
  have FS := Lib.hid (fun (W : World) (hW : Quiet w3 W) => one.quiet hW)
  have FE := Lib.hid (fun (W : World) (hW : Quiet w3 W) (j : Nat) (x : Int) (hx : E[j]? = some x) => show W.cell? ⟨g, off + j, none⟩ = some (.int .i64 x) from nrow_cell (NR.out.sl.only (hq23.trans hW) (fun _ _ x => x)) hx)
  have Q23 := Lib.hid hq23
  obtain ⟨lo, hlo⟩ : ∃ lo, E[0]? = some lo := ⟨_, List.getElem?_eq_getElem (by have := HE1.out; omega)⟩
  have HLO := Lib.hid hlo
  have HW3 := Lib.hid hw3; clear hw3
  clear one hq23 hlo
  go_wp2
  rw [← HW3.out]
  clear t0 t1 t2 HW3 BX
  go_loopw [7, 10] (fun v iv wr => ∃ (i : Nat) (a : Int) (L : List Sp), i + 1 ≤ N ∧ iv = .int .i64 i ∧ E[i]? = some a ∧ Gath w3.heap.size w3 wr v L ∧ L.length ≤ i ∧ OfInv lo a (fun p => okP 3 (inn l p) (inn [s] p)) L) (fun _ iv _ => N - (intOf iv).toNat)
  case atStart => exact ⟨0, lo, [], by omega, rfl, HLO.out, Gath.start _ (Only.refl _ _), Nat.le_refl _, OfInv.start _ _⟩
  case round =>
    obtain ⟨i, a, L, hi, rfl, ha, hga, hLi, hinv⟩ := hrel
    have GA := Lib.hid hga; clear hga
    have HA := Lib.hid ha; clear ha
    have HI := Lib.hid hinv; clear hinv
    have i0' : (0 : Int) ≤ (i : Int) := by omega
    have i1' : (i : Int) < (N : Int) := by omega
    by_cases hc : i + 1 < N
    · have dc : decide ((i : Int) + 1 < (N : Int)) = true := by simp; omega
      have i2' : (i : Int) + 1 < (N : Int) := by omega
      obtain ⟨b, hb⟩ : ∃ b, E[i + 1]? = some b := ⟨_, List.getElem?_eq_getElem (by have := HE1.out; omega)⟩
      have HB := Lib.hid hb; clear hb
      have ST := Lib.hid (of_step (what := 3) HG.out HSP.out HE2.out HE3.out HLO.out HA.out HB.out HI.out)
      have c0 := FE.out wr GA.out.q i a HA.out
      have c1 := FE.out wr GA.out.q (i + 1) b HB.out
      go_upto_region 7 with (fail)
      by_cases hab : a = b
      · have de : (a == b) = true := by simpa using hab
        have HAB := Lib.hid hab; clear hab
        go_quiet (fail)
        go_wp2
        go_roundw
        case rel => exact ⟨i + 1, b, L, by omega, by go_num, HB.out, GA.out.same (by repeat (first | exact Only.refl _ _ | refine Only.drewN ?_ _ | refine Only.drew ?_)), by omega, by have := ST.out; rw [← HAB.out, stepOf_eq] at this; rw [← HAB.out]; exact this⟩
        case measure => simp [intOf]; omega
      · have de : (a == b) = false := by simpa using hab
        have HAB := Lib.hid hab; clear hab
        go_quiet (fail)
        have ga7 := GA.out.same (W' := wr.drewN nq) (by repeat (first | exact Only.refl _ _ | refine Only.drewN ?_ _ | refine Only.drew ?_))
        generalize wr.drewN nq = w7 at ga7 ⊢
        clear c0 c1 de
        have GA7 := Lib.hid ga7; clear ga7
        have c0 := FE.out w7 GA7.out.q i a HA.out
        have RL := Lib.hid (rin_at (FL.out w7 GA7.out.q) a)
        have RS := Lib.hid (fun (W : World) (hW : Quiet w3 W) => rin_at (FS.out W hW) a)
        obtain ⟨A0, hA0⟩ : ∃ A0, A0 = inn l a := ⟨_, rfl⟩
        obtain ⟨B0, hB0⟩ : ∃ B0, B0 = inn [s] a := ⟨_, rfl⟩
        rw [← hA0] at RL ST
        rw [← hB0] at RS ST
        clear hA0 hB0
        go_upto_region 10 with (first
          | (go_at_call 36; (with_reducible refine RL.out.mono ?_); rintro e w8 ⟨rfl, hq⟩; have GA8 := Lib.hid (GA7.out.same hq); clear hq; have c0' := FE.out w8 GA8.out.q i a HA.out)
          | (go_at_call 36; (with_reducible refine (RS.out w8 GA8.out.q).mono ?_); rintro e w9 ⟨rfl, hq⟩; have GA9 := Lib.hid (GA8.out.same hq); clear hq))
        clear c0 c0' GA GA7 GA8 RL RS
        cases A0 with
        | true =>
          cases B0 with
          | true =>
            go_upto_region 11 with (fail)
            have e : okP 3 true true = false := rfl
            rw [e, stepOf_no] at ST
            clear e
            go_wp2
            go_roundw
            case rel => exact ⟨i + 1, b, L, by omega, by go_num, HB.out, GA9.out, by omega, ST.out⟩
            case measure => simp [intOf]; omega
          | false =>
            go_upto_region 11 with (fail)
            have e : okP 3 true false = false := rfl
            rw [e, stepOf_no] at ST
            clear e
            go_wp2
            go_roundw
            case rel => exact ⟨i + 1, b, L, by omega, by go_num, HB.out, GA9.out, by omega, ST.out⟩
            case measure => simp [intOf]; omega
        | false =>
          cases B0 with
          | true =>
            go_upto_region 11 with (fail)
            have e : okP 3 false true = true := rfl
            rw [e] at ST
            clear e
            cases hl : L.getLast? with
            | none =>
              have hL0 : L = [] := List.getLast?_eq_none_iff.1 hl
              subst hL0
              have STX := Lib.hid ST.out
              rw [stepOf_nil HAB.out] at STX
              obtain ⟨AR, cr, rfl, _, _⟩ := GA9.out.sps (Nat.le_refl _)
              clear hl
              go_upto_region 12 with (fail)
              go_quiet (fail)
              have ga12 := GA9.out.same (W' := w9.drewN nq) (by repeat (first | exact Only.refl _ _ | refine Only.drewN ?_ _ | refine Only.drew ?_))
              generalize w9.drewN nq = w12 at ga12 ⊢
              have GA12 := Lib.hid ga12; clear ga12
              have iw : IntKind.i64.wrap ((i : Int) + 1) = (i : Int) + 1 := by rw [IntKind.wrap_i64]; omega
              have i3' : (0 : Int) ≤ (i : Int) + 1 := by omega
              have c0 := FE.out w12.drew (GA12.out.q.trans (by repeat (first | exact Only.refl _ _ | refine Only.drewN ?_ _ | refine Only.drew ?_))) i a HA.out
              have c1 := FE.out w12.drew (GA12.out.q.trans (by repeat (first | exact Only.refl _ _ | refine Only.drewN ?_ _ | refine Only.drew ?_))) (i + 1) b HB.out
              have NW := Lib.hid (news_at (W := w12.drew) (g := w12.heap.size) rfl a b)
              have HO := Lib.hid (GA12.out.same (W' := w12.drew) (by repeat (first | exact Only.refl _ _ | refine Only.drewN ?_ _ | refine Only.drew ?_))).own
              have HSZ := GA12.out.q.size
              go_upto_region 14 with (fail)
              go_region_law (refine step_append_own _ rfl (.tmp 118) (.tmp 129) 22 rfl w3.heap.size 28 i0 (.agg #[.int .i64 0, .int .i64 0]) 2 16 Try.underlying22 hi0 hz0 hz1 hz2 rfl (by decide) _ _ _ rfl (HO.out.alloc _) ⟨w12.heap.size, 0, none⟩ 1 1 [.int .i64 a, .int .i64 b] rfl rfl NW.out (news_one _ _) (by unfold maxLen; omega) (by omega) (by first | (simp; omega) | omega) ?_; intro v' w14 hown' hgrow'; have GA14 := Lib.hid (app_step (y := (a, b)) (Nat.le_refl _) GA12.out ((by repeat (first | exact Only.refl _ _ | refine Only.drewN ?_ _ | refine Only.drew ?_) : Quiet w12 w12.drew).alloc _) hown' hgrow').1; clear hown' hgrow')
              all_goals try go_wp2
              all_goals
                go_roundw
                case rel => exact ⟨i + 1, b, _, by omega, by go_num, HB.out, GA14.out, by rw [List.length_append]; show _ + 1 ≤ _; omega, STX.out⟩
                case measure => simp [intOf]; omega
            | some y =>
              have HL := Lib.hid hl
              obtain ⟨m, hm⟩ : ∃ m, L.length = m + 1 := by
                cases L with
                | nil => cases hl
                | cons u r => exact ⟨r.length, rfl⟩
              have HM := Lib.hid hm
              obtain ⟨gR, cap, rfl, k0, k1, k2⟩ := GA9.out.tail hm hl
              have hm66 : m < 66 := by omega
              have mm : (m : Int) + 1 - 1 = (m : Int) := by omega
              have m0' : (0 : Int) ≤ (m : Int) := by omega
              have m1' : (m : Int) < (m : Int) + 1 := by omega
              have c0 := FE.out w9.drew (GA9.out.q.trans (by repeat (first | exact Only.refl _ _ | refine Only.drewN ?_ _ | refine Only.drew ?_))) i a HA.out
              have c0b := FE.out w9 GA9.out.q i a HA.out
              clear hl hm
              by_cases hya : y.2 = a
              · have dy : (y.2 == a) = true := by simpa using hya
                have STX := Lib.hid ST.out
                rw [stepOf_grow HAB.out HL.out hya] at STX
                have HYA := Lib.hid hya; clear hya
                go_upto_region 12 with (fail)
                go_quiet (fail)
                have ga12 := GA9.out.same (W' := w9.drewN nq) (by repeat (first | exact Only.refl _ _ | refine Only.drewN ?_ _ | refine Only.drew ?_))
                generalize w9.drewN nq = w12 at ga12 ⊢
                have GA12 := Lib.hid ga12; clear ga12
                have k1 : w12.frozen? ⟨gR, m * 2 + 1, none⟩ = false := by
                  obtain ⟨_, _, e, _, k, _⟩ := GA12.out.tail HM.out HL.out
                  have e := Value.slice.inj e
                  obtain ⟨e, _, _⟩ := e
                  have e := Option.some.inj e
                  simp only [Addr.mk.injEq] at e
                  obtain ⟨rfl, _⟩ := e
                  exact k
                have k0 : w12.cell? ⟨gR, m * 2 + 1, none⟩ = some (.int .i64 y.2) := by
                  obtain ⟨_, _, e, k, _, _⟩ := GA12.out.tail HM.out HL.out
                  have e := Value.slice.inj e
                  obtain ⟨e, _, _⟩ := e
                  have e := Option.some.inj e
                  simp only [Addr.mk.injEq] at e
                  obtain ⟨rfl, _⟩ := e
                  exact k
                have c1 := FE.out w12 GA12.out.q (i + 1) b HB.out
                go_wp2
                go_roundw
                case rel => exact ⟨i + 1, b, _, by omega, by go_num, HB.out, GA12.out.last (Nat.le_refl _) HM.out HL.out b, by have := HM.out; rw [List.length_append, List.length_dropLast]; show _ + 1 ≤ _; omega, STX.out⟩
                case measure => simp [intOf]; omega
              · have dy : (y.2 == a) = false := by simpa using hya
                have STX := Lib.hid ST.out
                rw [stepOf_new HAB.out HL.out hya] at STX
                have HYA := Lib.hid hya; clear hya
                go_upto_region 12 with (fail)
                go_quiet (fail)
                have ga12 := GA9.out.same (W' := w9.drewN nq) (by repeat (first | exact Only.refl _ _ | refine Only.drewN ?_ _ | refine Only.drew ?_))
                generalize w9.drewN nq = w12 at ga12 ⊢
                have GA12 := Lib.hid ga12; clear ga12
                clear k0 k1 k2 c0 c0b
                have hLm : L.length ≤ 66 := by omega
                have iw : IntKind.i64.wrap ((i : Int) + 1) = (i : Int) + 1 := by rw [IntKind.wrap_i64]; omega
                have i3' : (0 : Int) ≤ (i : Int) + 1 := by omega
                have c0 := FE.out w12.drew (GA12.out.q.trans (by repeat (first | exact Only.refl _ _ | refine Only.drewN ?_ _ | refine Only.drew ?_))) i a HA.out
                have c1 := FE.out w12.drew (GA12.out.q.trans (by repeat (first | exact Only.refl _ _ | refine Only.drewN ?_ _ | refine Only.drew ?_))) (i + 1) b HB.out
                have NW := Lib.hid (news_at (W := w12.drew) (g := w12.heap.size) rfl a b)
                have HO := Lib.hid (GA12.out.same (W' := w12.drew) (by repeat (first | exact Only.refl _ _ | refine Only.drewN ?_ _ | refine Only.drew ?_))).own
                have HSZ := GA12.out.q.size
                go_upto_region 14 with (fail)
                go_region_law (refine step_append_own _ rfl (.tmp 118) (.tmp 129) 22 rfl w3.heap.size 28 i0 (.agg #[.int .i64 0, .int .i64 0]) 2 16 Try.underlying22 hi0 hz0 hz1 hz2 rfl (by decide) _ _ _ rfl (HO.out.alloc _) ⟨w12.heap.size, 0, none⟩ 1 1 [.int .i64 a, .int .i64 b] rfl rfl NW.out (news_one _ _) (by unfold maxLen; omega) (by omega) (by first | (simp; omega) | omega) ?_; intro v' w14 hown' hgrow'; have GA14 := Lib.hid (app_step (y := (a, b)) (Nat.le_refl _) GA12.out ((by repeat (first | exact Only.refl _ _ | refine Only.drewN ?_ _ | refine Only.drew ?_) : Quiet w12 w12.drew).alloc _) hown' hgrow').1; clear hown' hgrow')
                all_goals try go_wp2
                all_goals
                  go_roundw
                  case rel => exact ⟨i + 1, b, _, by omega, by go_num, HB.out, GA14.out, by rw [List.length_append]; show _ + 1 ≤ _; omega, STX.out⟩
                  case measure => simp [intOf]; omega
          | false =>
            go_upto_region 11 with (fail)
            have e : okP 3 false false = false := rfl
            rw [e, stepOf_no] at ST
            clear e
            go_wp2
            go_roundw
            case rel => exact ⟨i + 1, b, L, by omega, by go_num, HB.out, GA9.out, by omega, ST.out⟩
            case measure => simp [intOf]; omega
    · have dc : decide ((i : Int) + 1 < (N : Int)) = false := by simp; omega
      have hin : N = i + 1 := by omega
      have OF := Lib.hid (IsOf.fin (N := i) HE2.out (fun x hx => (HE3.out x).2 hx) HLO.out HA.out (by rw [HE1.out]; exact hin) HI.out)
      obtain ⟨AR, cr, rfl, r1, r2⟩ := GA.out.sps (Nat.le_refl _)
      have R1 := Lib.hid r1; clear r1
      have R2 := Lib.hid r2; clear r2
      clear hin
      go_wp2
      go_ret
      exact ⟨L, OF.out, AR, cr, rfl, R1.out, fun k hk => Nat.le_trans Q3.out.size (R2.out k hk), Q3.out.trans GA.out.q⟩
set_option maxRecDepth 8000 in
set_option maxHeartbeats 16000000 in
theorem of4 {w : World} {A : Option Addr} {n c : Nat} {l : List Sp} (h : Sps w A n c l) (hg : Good l) (h32 : n ≤ 32) (s : Sp) (hs : isSp s = true) :
    Calls Try.prog 31 #[.slice A n c, .agg #[.int .i64 s.1, .int .i64 s.2], .int .i64 4] w fun e w' => ∃ R, IsOf 4 l s R ∧ Res1 w R e w' := by
  obtain ⟨i0, hi0, hz0, hz1, hz2⟩ := info_parts Try.row28
  have q1 : Quiet w (w.alloc (.cells #[.int .i64 s.1, .int .i64 s.2] 28)) := (Only.refl _ _).alloc _
  have EN := Lib.hid (ends_at (h.quiet q1) h32 s)
  have BX := Lib.hid (box_at' w s)
  have HQ1 := Lib.hid q1; clear q1
  have H := Lib.hid h; clear h
  have HG := Lib.hid hg; clear hg
  have HSP := Lib.hid hs; clear hs
  go_enter Try.func31, Try.ntmps31
  go_upto_region 3 with (go_at_call 35; refine EN.out.mono ?_; rintro e w2 ⟨E, D, d, rfl, hE1, hE2, hE3, hnr⟩; obtain ⟨t0, t1, t2⟩ := BX.out w2 hnr.q; have NR := Lib.hid hnr; clear hnr; have HE1 := Lib.hid hE1; clear hE1; have HE2 := Lib.hid hE2; clear hE2; have HE3 := Lib.hid hE3; clear hE3)
  clear EN
  have hdN := NR.out.sl.le
  have hdm := NR.out.sl.capLe
  unfold maxLen at hdm
  obtain ⟨g, off, hD⟩ : ∃ g off, D = some ⟨g, off, none⟩ := by
    rcases NR.out.sl.2 with ⟨_, h2, _⟩ | ⟨g, off, cur, h1, _⟩
    · omega
    · exact ⟨g, off, h1⟩
  subst hD
  obtain ⟨N, hN⟩ : ∃ N, N = 2 * n + 2 := ⟨_, rfl⟩
  rw [← hN] at NR HE1 hdN ⊢
  have hN66 : N ≤ 66 := by omega
  have hN2 : 2 ≤ N := by omega
  clear hN
  have Q2 := Lib.hid (HQ1.out.trans NR.out.q)
  have one := one_new w2 s
  obtain ⟨w3, hw3⟩ : ∃ w3, w3 = w2.alloc (.cells #[.int .i64 s.1, .int .i64 s.2] 28) := ⟨_, rfl⟩
  have hq23 : Quiet w2 w3 := by rw [hw3]; exact (Only.refl _ _).alloc _
  rw [← hw3] at one
  have Q3 := Lib.hid (Q2.out.trans hq23)
  have FL := Lib.hid (fun (W : World) (hW : Quiet w3 W) => H.out.quiet (Q3.out.trans hW))
  have FS := Lib.hid (fun (W : World) (hW : Quiet w3 W) => one.quiet hW)
  have FE := Lib.hid (fun (W : World) (hW : Quiet w3 W) (j : Nat) (x : Int) (hx : E[j]? = some x) => show W.cell? ⟨g, off + j, none⟩ = some (.int .i64 x) from nrow_cell (NR.out.sl.only (hq23.trans hW) (fun _ _ x => x)) hx)
  have Q23 := Lib.hid hq23
  obtain ⟨lo, hlo⟩ : ∃ lo, E[0]? = some lo := ⟨_, List.getElem?_eq_getElem (by have := HE1.out; omega)⟩
  have HLO := Lib.hid hlo
  have HW3 := Lib.hid hw3; clear hw3
  clear one hq23 hlo
  go_wp2
  rw [← HW3.out]
  clear t0 t1 t2 HW3 BX
  go_loopw [7, 10] (fun v iv wr => ∃ (i : Nat) (a : Int) (L : List Sp), i + 1 ≤ N ∧ iv = .int .i64 i ∧ E[i]? = some a ∧ Gath w3.heap.size w3 wr v L ∧ L.length ≤ i ∧ OfInv lo a (fun p => okP 4 (inn l p) (inn [s] p)) L) (fun _ iv _ => N - (intOf iv).toNat)
  case atStart => exact ⟨0, lo, [], by omega, rfl, HLO.out, Gath.start _ (Only.refl _ _), Nat.le_refl _, OfInv.start _ _⟩
  case round =>
    obtain ⟨i, a, L, hi, rfl, ha, hga, hLi, hinv⟩ := hrel
    have GA := Lib.hid hga; clear hga
    have HA := Lib.hid ha; clear ha
    have HI := Lib.hid hinv; clear hinv
    have i0' : (0 : Int) ≤ (i : Int) := by omega
    have i1' : (i : Int) < (N : Int) := by omega
    by_cases hc : i + 1 < N
    · have dc : decide ((i : Int) + 1 < (N : Int)) = true := by simp; omega
      have i2' : (i : Int) + 1 < (N : Int) := by omega
      obtain ⟨b, hb⟩ : ∃ b, E[i + 1]? = some b := ⟨_, List.getElem?_eq_getElem (by have := HE1.out; omega)⟩
      have HB := Lib.hid hb; clear hb
      have ST := Lib.hid (of_step (what := 4) HG.out HSP.out HE2.out HE3.out HLO.out HA.out HB.out HI.out)
      have c0 := FE.out wr GA.out.q i a HA.out
      have c1 := FE.out wr GA.out.q (i + 1) b HB.out
      go_upto_region 7 with (fail)
      by_cases hab : a = b
      · have de : (a == b) = true := by simpa using hab
        have HAB := Lib.hid hab; clear hab
        go_quiet (fail)
        go_wp2
        go_roundw
        case rel => exact ⟨i + 1, b, L, by omega, by go_num, HB.out, GA.out.same (by repeat (first | exact Only.refl _ _ | refine Only.drewN ?_ _ | refine Only.drew ?_)), by omega, by have := ST.out; rw [← HAB.out, stepOf_eq] at this; rw [← HAB.out]; exact this⟩
        case measure => simp [intOf]; omega
      · have de : (a == b) = false := by simpa using hab
        have HAB := Lib.hid hab; clear hab
        go_quiet (fail)
        have ga7 := GA.out.same (W' := wr.drewN nq) (by repeat (first | exact Only.refl _ _ | refine Only.drewN ?_ _ | refine Only.drew ?_))
        generalize wr.drewN nq = w7 at ga7 ⊢
        clear c0 c1 de
        have GA7 := Lib.hid ga7; clear ga7
        have c0 := FE.out w7 GA7.out.q i a HA.out
        have RL := Lib.hid (rin_at (FL.out w7 GA7.out.q) a)
        have RS := Lib.hid (fun (W : World) (hW : Quiet w3 W) => rin_at (FS.out W hW) a)
        obtain ⟨A0, hA0⟩ : ∃ A0, A0 = inn l a := ⟨_, rfl⟩
        obtain ⟨B0, hB0⟩ : ∃ B0, B0 = inn [s] a := ⟨_, rfl⟩
        rw [← hA0] at RL ST
        rw [← hB0] at RS ST
        clear hA0 hB0
        go_upto_region 10 with (first
          | (go_at_call 36; (with_reducible refine RL.out.mono ?_); rintro e w8 ⟨rfl, hq⟩; have GA8 := Lib.hid (GA7.out.same hq); clear hq; have c0' := FE.out w8 GA8.out.q i a HA.out)
          | (go_at_call 36; (with_reducible refine (RS.out w8 GA8.out.q).mono ?_); rintro e w9 ⟨rfl, hq⟩; have GA9 := Lib.hid (GA8.out.same hq); clear hq))
        clear c0 c0' GA GA7 GA8 RL RS
        cases A0 with
        | true =>
          cases B0 with
          | true =>
            go_upto_region 11 with (fail)
            have e : okP 4 true true = true := rfl
            rw [e] at ST
            clear e
            cases hl : L.getLast? with
            | none =>
              have hL0 : L = [] := List.getLast?_eq_none_iff.1 hl
              subst hL0
              have STX := Lib.hid ST.out
              rw [stepOf_nil HAB.out] at STX
              obtain ⟨AR, cr, rfl, _, _⟩ := GA9.out.sps (Nat.le_refl _)
              clear hl
              go_upto_region 12 with (fail)
              go_quiet (fail)
              have ga12 := GA9.out.same (W' := w9.drewN nq) (by repeat (first | exact Only.refl _ _ | refine Only.drewN ?_ _ | refine Only.drew ?_))
              generalize w9.drewN nq = w12 at ga12 ⊢
              have GA12 := Lib.hid ga12; clear ga12
              have iw : IntKind.i64.wrap ((i : Int) + 1) = (i : Int) + 1 := by rw [IntKind.wrap_i64]; omega
              have i3' : (0 : Int) ≤ (i : Int) + 1 := by omega
              have c0 := FE.out w12.drew (GA12.out.q.trans (by repeat (first | exact Only.refl _ _ | refine Only.drewN ?_ _ | refine Only.drew ?_))) i a HA.out
              have c1 := FE.out w12.drew (GA12.out.q.trans (by repeat (first | exact Only.refl _ _ | refine Only.drewN ?_ _ | refine Only.drew ?_))) (i + 1) b HB.out
              have NW := Lib.hid (news_at (W := w12.drew) (g := w12.heap.size) rfl a b)
              have HO := Lib.hid (GA12.out.same (W' := w12.drew) (by repeat (first | exact Only.refl _ _ | refine Only.drewN ?_ _ | refine Only.drew ?_))).own
              have HSZ := GA12.out.q.size
              go_upto_region 14 with (fail)
              go_region_law (refine step_append_own _ rfl (.tmp 118) (.tmp 129) 22 rfl w3.heap.size 28 i0 (.agg #[.int .i64 0, .int .i64 0]) 2 16 Try.underlying22 hi0 hz0 hz1 hz2 rfl (by decide) _ _ _ rfl (HO.out.alloc _) ⟨w12.heap.size, 0, none⟩ 1 1 [.int .i64 a, .int .i64 b] rfl rfl NW.out (news_one _ _) (by unfold maxLen; omega) (by omega) (by first | (simp; omega) | omega) ?_; intro v' w14 hown' hgrow'; have GA14 := Lib.hid (app_step (y := (a, b)) (Nat.le_refl _) GA12.out ((by repeat (first | exact Only.refl _ _ | refine Only.drewN ?_ _ | refine Only.drew ?_) : Quiet w12 w12.drew).alloc _) hown' hgrow').1; clear hown' hgrow')
              all_goals try go_wp2
              all_goals
                go_roundw
                case rel => exact ⟨i + 1, b, _, by omega, by go_num, HB.out, GA14.out, by rw [List.length_append]; show _ + 1 ≤ _; omega, STX.out⟩
                case measure => simp [intOf]; omega
            | some y =>
              have HL := Lib.hid hl
              obtain ⟨m, hm⟩ : ∃ m, L.length = m + 1 := by
                cases L with
                | nil => cases hl
                | cons u r => exact ⟨r.length, rfl⟩
              have HM := Lib.hid hm
              obtain ⟨gR, cap, rfl, k0, k1, k2⟩ := GA9.out.tail hm hl
              have hm66 : m < 66 := by omega
              have mm : (m : Int) + 1 - 1 = (m : Int) := by omega
              have m0' : (0 : Int) ≤ (m : Int) := by omega
              have m1' : (m : Int) < (m : Int) + 1 := by omega
              have c0 := FE.out w9.drew (GA9.out.q.trans (by repeat (first | exact Only.refl _ _ | refine Only.drewN ?_ _ | refine Only.drew ?_))) i a HA.out
              have c0b := FE.out w9 GA9.out.q i a HA.out
              clear hl hm
              by_cases hya : y.2 = a
              · have dy : (y.2 == a) = true := by simpa using hya
                have STX := Lib.hid ST.out
                rw [stepOf_grow HAB.out HL.out hya] at STX
                have HYA := Lib.hid hya; clear hya
                go_upto_region 12 with (fail)
                go_quiet (fail)
                have ga12 := GA9.out.same (W' := w9.drewN nq) (by repeat (first | exact Only.refl _ _ | refine Only.drewN ?_ _ | refine Only.drew ?_))
                generalize w9.drewN nq = w12 at ga12 ⊢
                have GA12 := Lib.hid ga12; clear ga12
                have k1 : w12.frozen? ⟨gR, m * 2 + 1, none⟩ = false := by
                  obtain ⟨_, _, e, _, k, _⟩ := GA12.out.tail HM.out HL.out
                  have e := Value.slice.inj e
                  obtain ⟨e, _, _⟩ := e
                  have e := Option.some.inj e
                  simp only [Addr.mk.injEq] at e
                  obtain ⟨rfl, _⟩ := e
                  exact k
                have k0 : w12.cell? ⟨gR, m * 2 + 1, none⟩ = some (.int .i64 y.2) := by
                  obtain ⟨_, _, e, k, _, _⟩ := GA12.out.tail HM.out HL.out
                  have e := Value.slice.inj e
                  obtain ⟨e, _, _⟩ := e
                  have e := Option.some.inj e
                  simp only [Addr.mk.injEq] at e
                  obtain ⟨rfl, _⟩ := e
                  exact k
                have c1 := FE.out w12 GA12.out.q (i + 1) b HB.out
                go_wp2
                go_roundw
                case rel => exact ⟨i + 1, b, _, by omega, by go_num, HB.out, GA12.out.last (Nat.le_refl _) HM.out HL.out b, by have := HM.out; rw [List.length_append, List.length_dropLast]; show _ + 1 ≤ _; omega, STX.out⟩
                case measure => simp [intOf]; omega
              · have dy : (y.2 == a) = false := by simpa using hya
                have STX := Lib.hid ST.out
                rw [stepOf_new HAB.out HL.out hya] at STX
                have HYA := Lib.hid hya; clear hya
                go_upto_region 12 with (fail)
                go_quiet (fail)
                have ga12 := GA9.out.same (W' := w9.drewN nq) (by repeat (first | exact Only.refl _ _ | refine Only.drewN ?_ _ | refine Only.drew ?_))
                generalize w9.drewN nq = w12 at ga12 ⊢
                have GA12 := Lib.hid ga12; clear ga12
                clear k0 k1 k2 c0 c0b
                have hLm : L.length ≤ 66 := by omega
                have iw : IntKind.i64.wrap ((i : Int) + 1) = (i : Int) + 1 := by rw [IntKind.wrap_i64]; omega
                have i3' : (0 : Int) ≤ (i : Int) + 1 := by omega
                have c0 := FE.out w12.drew (GA12.out.q.trans (by repeat (first | exact Only.refl _ _ | refine Only.drewN ?_ _ | refine Only.drew ?_))) i a HA.out
                have c1 := FE.out w12.drew (GA12.out.q.trans (by repeat (first | exact Only.refl _ _ | refine Only.drewN ?_ _ | refine Only.drew ?_))) (i + 1) b HB.out
                have NW := Lib.hid (news_at (W := w12.drew) (g := w12.heap.size) rfl a b)
                have HO := Lib.hid (GA12.out.same (W' := w12.drew) (by repeat (first | exact Only.refl _ _ | refine Only.drewN ?_ _ | refine Only.drew ?_))).own
                have HSZ := GA12.out.q.size
                go_upto_region 14 with (fail)
                go_region_law (refine step_append_own _ rfl (.tmp 118) (.tmp 129) 22 rfl w3.heap.size 28 i0 (.agg #[.int .i64 0, .int .i64 0]) 2 16 Try.underlying22 hi0 hz0 hz1 hz2 rfl (by decide) _ _ _ rfl (HO.out.alloc _) ⟨w12.heap.size, 0, none⟩ 1 1 [.int .i64 a, .int .i64 b] rfl rfl NW.out (news_one _ _) (by unfold maxLen; omega) (by omega) (by first | (simp; omega) | omega) ?_; intro v' w14 hown' hgrow'; have GA14 := Lib.hid (app_step (y := (a, b)) (Nat.le_refl _) GA12.out ((by repeat (first | exact Only.refl _ _ | refine Only.drewN ?_ _ | refine Only.drew ?_) : Quiet w12 w12.drew).alloc _) hown' hgrow').1; clear hown' hgrow')
                all_goals try go_wp2
                all_goals
                  go_roundw
                  case rel => exact ⟨i + 1, b, _, by omega, by go_num, HB.out, GA14.out, by rw [List.length_append]; show _ + 1 ≤ _; omega, STX.out⟩
                  case measure => simp [intOf]; omega
          | false =>
            go_upto_region 11 with (fail)
            have e : okP 4 true false = false := rfl
            rw [e, stepOf_no] at ST
            clear e
            go_wp2
            go_roundw
            case rel => exact ⟨i + 1, b, L, by omega, by go_num, HB.out, GA9.out, by omega, ST.out⟩
            case measure => simp [intOf]; omega
        | false =>
          cases B0 with
          | true =>
            go_upto_region 11 with (fail)
            have e : okP 4 false true = false := rfl
            rw [e, stepOf_no] at ST
            clear e
            go_wp2
            go_roundw
            case rel => exact ⟨i + 1, b, L, by omega, by go_num, HB.out, GA9.out, by omega, ST.out⟩
            case measure => simp [intOf]; omega
          | false =>
            go_upto_region 11 with (fail)
            have e : okP 4 false false = false := rfl
            rw [e, stepOf_no] at ST
            clear e
            go_wp2
            go_roundw
            case rel => exact ⟨i + 1, b, L, by omega, by go_num, HB.out, GA9.out, by omega, ST.out⟩
            case measure => simp [intOf]; omega
    · have dc : decide ((i : Int) + 1 < (N : Int)) = false := by simp; omega
      have hin : N = i + 1 := by omega
      have OF := Lib.hid (IsOf.fin (N := i) HE2.out (fun x hx => (HE3.out x).2 hx) HLO.out HA.out (by rw [HE1.out]; exact hin) HI.out)
      obtain ⟨AR, cr, rfl, r1, r2⟩ := GA.out.sps (Nat.le_refl _)
      have R1 := Lib.hid r1; clear r1
      have R2 := Lib.hid r2; clear r2
      clear hin
      go_wp2
      go_ret
      exact ⟨L, OF.out, AR, cr, rfl, R1.out, fun k hk => Nat.le_trans Q3.out.size (R2.out k hk), Q3.out.trans GA.out.q⟩
end Go.Proofs.Ythhaaakabpnbnaa
