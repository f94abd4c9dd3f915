/-
  The reference's Start. No conditions.
-/
import Derived.Test.YtgdjbmfpbihopaaRefOps
import Derived.Deep.RegionHeld3
namespace Go.Proofs.Ytgdjbmfpbihopaa
open Go.RowKit Go.MapKept
set_option linter.unusedVariables false
set_option linter.unusedSimpArgs false

theorem Try.info69 : (Try.prog.info? 69).map (fun i => (i.zero, i.size, i.bytes)) = some (some (.agg #[.slice none 0 0, .int .i64 0, .int .i64 0]), 3, 40) := by kernel_rfl
theorem row_shapeR {w : World} {base e size n : Nat} {v : Value} {xs : List Value} (h : w.ownsRow base e size v n xs) : ∃ A c, v = .slice A n c := by
  obtain ⟨_, ⟨h1, h2⟩ | ⟨g, cap, cur, h1, _⟩⟩ := h
  · subst h2; exact ⟨_, _, h1⟩
  · exact ⟨_, _, h1⟩
theorem RopSl.news {w : World} {ad : Addr} {n c : Nat} {l : List Op3} (h : RopSl w (some ad) n c l) : ∀ j u, (opsF l)[j]? = some u → w.cell? (ad.add j) = some u := fun j u hu => by
  have hj := (List.getElem?_eq_some_iff.1 hu).1
  obtain ⟨h1, h2, h3, h4, h5⟩ := h
  rw [opsF_len, h1] at hj
  obtain ⟨g, off, cur, rfl, hb, hc⟩ := h5 ad rfl
  obtain ⟨o, ho⟩ : ∃ o, l[j / 3]? = some o := ⟨_, List.getElem?_eq_getElem (by omega)⟩
  have e2 : j = j / 3 * 3 + j % 3 := by omega
  rw [e2, opsF_at ho _ (by omega)] at hu
  have := hc (j / 3) o ho (j % 3) (by omega)
  rw [Addr.add_lit, blk_cell hb, e2, ← Nat.add_assoc, this, hu]
theorem ropsl_empty {w : World} {g : Nat} (h : w.heap[g]? = some (.cells #[] 78 (0, 0))) : RopSl w (some ⟨g, 0, none⟩) 0 0 [] :=
  ⟨rfl, Nat.le_refl _, by unfold maxLen; omega, (fun e => nomatch e), fun a ha => by
    obtain rfl := Option.some.inj ha
    exact ⟨g, 0, #[], rfl, h, fun i o ho => by simp at ho⟩⟩
theorem news_blk3 {w : World} {g : Nat} {a b c : Value} {e : TypeId} (h : w.heap[g]? = some (.cells #[a, b, c] e (0, 0))) : ∀ (j : Nat) (u : Value), [a, b, c][j]? = some u → w.cell? ((⟨g, 0, none⟩ : Addr).add j) = some u := fun j u hu => by
  rw [Addr.add_lit, blk_cell h, Nat.zero_add]
  simpa using hu
theorem three_one {a b c : Value} (h1 : a.oneCell' = true) (h2 : b.oneCell' = true) (h3 : c.oneCell' = true) : ∀ u ∈ [a, b, c], u.oneCell' = true := by
  intro u hu
  simp only [List.mem_cons, List.not_mem_nil, or_false] at hu
  rcases hu with rfl | rfl | rfl
  · exact h1
  · exact h2
  · exact h3
theorem head_of {W1 w4 : World} {M : RMem} {W : Wd} (h : RAt W1 M W) (hg : W1.grownBy w4 M.vt.ownBlock) : w4.heap[M.p]? = some (.cells (rworld M) 67 (0, 0)) :=
  ((Only.refl (fun k => M.vt.ownBlock = some k) W1).of_grown hg (fun k hk _ => hk)).keep h.blk (fun q => by
    obtain ⟨cu, hc⟩ := row_ownB h.tasks q
    exact blk_ne hc h.blk (by decide) rfl)
/-- What an operation is for a world. -/
theorem may_parts (W : Wd) (o : Op3) :
    (mayB W o = false ∧ (o.kind < 1 ∨ 6 < o.kind)) ∨ (∃ B : Int, ((o.kind = 1 ∨ o.kind = 2) ∧ B = W.locks ∨ (o.kind = 3 ∨ o.kind = 4) ∧ B = W.pipes.length ∨ (o.kind = 5 ∨ o.kind = 6) ∧ B = W.words.length) ∧
      ((mayB W o = false ∧ o.a < 0) ∨ (mayB W o = false ∧ 0 ≤ o.a ∧ B ≤ o.a) ∨ (mayB W o = true ∧ 0 ≤ o.a ∧ o.a < B))) := by
  have key : ∀ B : Int, mayB W o = decide (0 ≤ o.a ∧ o.a < B) → (mayB W o = false ∧ o.a < 0) ∨ (mayB W o = false ∧ 0 ≤ o.a ∧ B ≤ o.a) ∨ (mayB W o = true ∧ 0 ≤ o.a ∧ o.a < B) := fun B h => by
    by_cases h0 : o.a < 0
    · exact .inl ⟨by rw [h]; simp; omega, h0⟩
    · by_cases h1 : B ≤ o.a
      · exact .inr (.inl ⟨by rw [h]; simp; omega, by omega, h1⟩)
      · exact .inr (.inr ⟨by rw [h]; simp; omega, by omega, by omega⟩)
  by_cases h1 : o.kind = 1 ∨ o.kind = 2
  · exact .inr ⟨_, .inl ⟨h1, rfl⟩, key _ (by unfold mayB; rw [if_pos h1])⟩
  · by_cases h2 : o.kind = 3 ∨ o.kind = 4
    · exact .inr ⟨_, .inr (.inl ⟨h2, rfl⟩), key _ (by unfold mayB; rw [if_neg h1, if_pos h2])⟩
    · by_cases h3 : o.kind = 5 ∨ o.kind = 6
      · exact .inr ⟨_, .inr (.inr ⟨h3, rfl⟩), key _ (by unfold mayB; rw [if_neg h1, if_neg h2, if_pos h3])⟩
      · exact .inl ⟨by unfold mayB; rw [if_neg h1, if_neg h2, if_neg h3], by omega⟩
theorem all_no {W : Wd} {l : List Op3} {k : Nat} {o : Op3} (ho : l[k]? = some o) (h : mayB W o = false) : l.all (mayB W) = false := by
  rw [List.all_eq_false]
  exact ⟨o, List.mem_of_getElem? ho, by rw [h]; decide⟩
theorem all_yes {W : Wd} {l : List Op3} {k : Nat} {o : Op3} (ho : l[k]? = some o) (h : mayB W o = true) (ha : (l.take k).all (mayB W) = true) : (l.take (k + 1)).all (mayB W) = true := by
  rw [List.take_add_one, ho, List.all_append, ha]
  simp [h]
theorem startF_two {W : Wd} {l : List Op3} (h1 : W.tasks.length ≠ 64) (h2 : l.all (mayB W) = false) : startF W l = (0, 2, W) := by unfold startF; rw [if_neg h1, if_pos h2]
theorem startF_three {W : Wd} {l : List Op3} (h1 : W.tasks.length ≠ 64) (h2 : l.all (mayB W) = true) (h3 : 1000 < l.length) : startF W l = (0, 3, W) := by unfold startF; rw [if_neg h1, if_neg (by rw [h2]; decide), if_pos h3]
theorem startF_ok {W : Wd} {l : List Op3} (h1 : W.tasks.length ≠ 64) (h2 : l.all (mayB W) = true) (h3 : l.length ≤ 1000) : startF W l = ((W.tasks.length : Int), 0, { W with tasks := W.tasks ++ [⟨l, 0⟩] }) := by unfold startF; rw [if_neg h1, if_neg (by rw [h2]; decide), if_neg (by omega)]
theorem ret_start {a : Int} {n : Nat} {f : Int × Int × Wd} {W' : Wd} (e : f = ((n : Int), 0, W')) (h : a = (n : Int)) : Ending.returned (.tuple #[.int .i64 a, .int .i64 0]) = .returned (.tuple #[.int .i64 f.1, .int .i64 f.2.1]) := by rw [e, h]
set_option maxRecDepth 8000 in
set_option maxHeartbeats 16000000 in
theorem rstart_full {w : World} {M : RMem} {W : Wd} (h : RAt w M W) (A : Option Addr) (n c : Nat) (h64 : M.ts.length = 64) :
    Calls Try.prog 19 #[.pointer (some ⟨M.p, 0, none⟩), .slice A n c] w fun e w' => e = .returned (.tuple #[.int .i64 0, .int .i64 14]) ∧ Quiet w w' := by
  have c4 := h.head.2.2.2.2.1
  have ps := h.head.2.2.2.2.2
  obtain ⟨A', cap, hv, hcm, _⟩ := h.shape
  rw [hv, h64] at c4
  clear h hv h64 hcm
  go_enter Try.func19, Try.ntmps19
  go_wp2
  go_ret2
  exact ⟨rfl, Only.refl _ _⟩
set_option maxRecDepth 8000 in
set_option maxHeartbeats 16000000 in
theorem rstart_at {w : World} {M : RMem} {W : Wd} (h : RAt w M W) {A : Option Addr} {n c : Nat} {l : List Op3} (hr : RopSl w A n c l) (hn : n ≤ 1001) (hne : M.ts.length ≠ 64) :
    Calls Try.prog 19 #[.pointer (some ⟨M.p, 0, none⟩), .slice A n c] w fun e w' => e = .returned (.tuple #[.int .i64 (startF W l).1, .int .i64 (startF W l).2.1]) ∧ RPost M.base M.p w (startF W l).2.2 w' := by
  obtain ⟨c0, c1, c2, c3, c4, ps⟩ := h.head
  obtain ⟨A', cap, hv, hcap, hcm⟩ := h.shape
  obtain ⟨htl, hsm⟩ := h.len
  have HSL := h.rows M.lk (.head _)
  have HNE := Lib.hid (show W.tasks.length ≠ 64 by rw [htl]; exact hne)
  have HTL := Lib.hid htl
  rw [hv] at c4
  rw [RRow.v] at c0 c1
  have e1 : W.locks = (M.lk.l.length : Int) := h.locks
  have e2 : W.pipes.length = M.cs.length := h.plen.1
  have e3 : W.words.length = M.wd.l.length := by rw [h.words]
  obtain ⟨nl, hnl⟩ : ∃ x, x = M.lk.l.length := ⟨_, rfl⟩
  obtain ⟨nc, hnc⟩ : ∃ x, x = M.cs.length := ⟨_, rfl⟩
  obtain ⟨nw, hnw⟩ : ∃ x, x = M.wd.l.length := ⟨_, rfl⟩
  rw [← hnl] at c0 e1
  rw [← hnc] at c2 e2
  rw [← hnw] at c1 e3
  obtain ⟨hln, hnc', hccm, hnil, _⟩ := id hr
  have HLN := Lib.hid hln
  have HNIL := Lib.hid hnil
  unfold maxLen at hccm
  have HR := Lib.hid hr
  have H := Lib.hid h
  have HV := Lib.hid hv
  have HF := Lib.hid (fun (V : World) (hV : Quiet w V) => show (V.cell? ⟨M.p, 0, none⟩ = some (.slice M.lk.A nl M.lk.c) ∧ V.cell? ⟨M.p, 1, none⟩ = some (.slice M.wd.A nw M.wd.c) ∧ V.cell? ⟨M.p, 2, none⟩ = some (.slice M.gA nc M.gc) ∧ V.cell? ⟨M.p, 4, none⟩ = some (.slice A' M.ts.length cap)) ∧ M.p < V.heap.size from
    ⟨⟨(hV.cell (p := ⟨M.p, 0, none⟩) ps (fun x => x)).trans c0, (hV.cell (p := ⟨M.p, 1, none⟩) ps (fun x => x)).trans c1, (hV.cell (p := ⟨M.p, 2, none⟩) ps (fun x => x)).trans c2, (hV.cell (p := ⟨M.p, 4, none⟩) ps (fun x => x)).trans c4⟩, Nat.lt_of_lt_of_le ps hV.size⟩)
  obtain ⟨t, ht⟩ : ∃ t, t = M.ts.length := ⟨_, rfl⟩
  have HTT := Lib.hid ht
  have HLT := Lib.hid (show M.ts.length < 64 by omega)
  have HMB := Lib.hid (fun o => may_parts W o)
  simp only [e1, e2, e3] at HMB
  have d0 : ((t : Int) == 64) = false := by simp; omega
  rw [← ht] at HF HV hsm c4
  have HT := Lib.hid (fun (V : World) (hV : Quiet w V) => (h.quiet hV).tasks)
  rw [← ht, hv] at HT
  rw [← ht] at HT
  have hlo := h.lo
  have hc2 : cap ≤ 2 ^ 63 - 1 := by unfold maxLen at hcm; exact hcm
  clear h hr hv hcm ht htl hne HSL hnl hnc hnw hln hnil e1 e2 e3 c0 c1 c2 c3
  go_enter Try.func19, Try.ntmps19
  go_wp2_with fail
  go_loopw [6] (fun vi wr => ∃ k, k ≤ n ∧ vi = .int .i64 (k : Nat) ∧ (l.take k).all (mayB W) = true ∧ Quiet w wr) (fun i _ => n - (intOf i).toNat)
  case atStart => exact ⟨0, by omega, rfl, by simp, Only.refl _ _⟩
  case round =>
    obtain ⟨k, hk, rfl, ha, hq⟩ := hrel
    have HA := Lib.hid ha; clear ha
    have HQ := Lib.hid hq; clear hq
    obtain ⟨⟨t0, t1, t2, t4⟩, t5⟩ := HF.out wr HQ.out
    clear c4 ps
    by_cases hlt : k < n
    · have hd1 : decide ((k : Int) < (n : Int)) = true := by simpa using hlt
      obtain ⟨o, ho⟩ : ∃ o, l[k]? = some o := ⟨_, List.getElem?_eq_getElem (by have := HLN.out; omega)⟩
      obtain ⟨b, off, rfl, hb, q0, q1, _⟩ := (HR.out.only (F := fun _ => False) HQ.out (fun _ _ _ x => x)).at ho
      have HO := Lib.hid ho; clear ho
      have k0 : (0 : Int) ≤ (k : Int) := by omega
      have k1 : (k : Int) < (n : Int) := by omega
      obtain ⟨kd, a, b0⟩ := o
      have hmb := HMB.out ⟨kd, a, b0⟩
      simp only at hmb q0 q1
      rcases hmb with ⟨hm, hkd⟩ | ⟨B, hkd, hm⟩
      · have HM := Lib.hid hm; clear hm
        have f3 : (kd == 3) = false := by simp; omega
        have f4 : (kd == 4) = false := by simp; omega
        have f5 : (kd == 5) = false := by simp; omega
        have f6 : (kd == 6) = false := by simp; omega
        by_cases hk1 : kd < 1
        · have f1 : decide (kd < 1) = true := by simpa using hk1
          clear hkd hk1
          go_wp2_with fail
          go_ret2
          exact ⟨by rw [startF_two HNE.out (all_no HO.out HM.out)]; rfl, by rw [startF_two HNE.out (all_no HO.out HM.out)]; exact RPost.of (H.out.quiet HQ.out) (RSide.quiet HQ.out) rfl rfl⟩
        · have f1 : decide (kd < 1) = false := by simpa using hk1
          have f2 : decide (6 < kd) = true := by simp; omega
          clear hkd hk1
          go_wp2_with fail
          go_ret2
          exact ⟨by rw [startF_two HNE.out (all_no HO.out HM.out)]; rfl, by rw [startF_two HNE.out (all_no HO.out HM.out)]; exact RPost.of (H.out.quiet HQ.out) (RSide.quiet HQ.out) rfl rfl⟩
      · rcases hkd with ⟨rfl | rfl, rfl⟩ | ⟨rfl | rfl, rfl⟩ | ⟨rfl | rfl, rfl⟩
        all_goals
          rcases hm with ⟨hm, ha1⟩ | ⟨hm, ha0, ha1⟩ | ⟨hm, ha0, ha1⟩
          · have HM := Lib.hid hm; clear hm
            have g1 : decide (a < 0) = true := by simpa using ha1
            clear ha1
            go_wp2_with fail
            go_ret2
            exact ⟨by rw [startF_two HNE.out (all_no HO.out HM.out)]; rfl, by rw [startF_two HNE.out (all_no HO.out HM.out)]; exact RPost.of (H.out.quiet HQ.out) (RSide.quiet HQ.out) rfl rfl⟩
          · have HM := Lib.hid hm; clear hm
            have g1 : decide (a < 0) = false := by simp; omega
            have g2 := decide_eq_true ha1
            clear ha1 ha0
            go_wp2_with fail
            go_ret2
            exact ⟨by rw [startF_two HNE.out (all_no HO.out HM.out)]; rfl, by rw [startF_two HNE.out (all_no HO.out HM.out)]; exact RPost.of (H.out.quiet HQ.out) (RSide.quiet HQ.out) rfl rfl⟩
          · have HM := Lib.hid hm; clear hm
            have g1 : decide (a < 0) = false := by simp; omega
            have g2 := decide_eq_false (Int.not_le.2 ha1)
            clear ha1 ha0
            go_wp2_with fail
            go_roundw
            case rel => exact ⟨k + 1, by omega, by go_num, all_yes HO.out HM.out HA.out, HQ.out⟩
            case measure => simp [intOf]; omega
    · have hkn : k = n := by omega
      subst hkn
      have hd1 : decide ((k : Int) < (k : Int)) = false := by simp
      have HALL := Lib.hid (show l.all (mayB W) = true by have := HA.out; rw [List.take_of_length_le (by have := HLN.out; omega)] at this; exact this)
      by_cases h1000 : 1000 < k
      · have hd2 : decide ((1000 : Int) < (k : Int)) = true := by simp; omega
        have HL3 := Lib.hid (startF_three HNE.out HALL.out (by rw [HLN.out]; exact h1000))
        clear h1000 hlt
        go_wp2_with fail
        go_ret2
        exact ⟨by rw [HL3.out]; rfl, by rw [HL3.out]; exact RPost.of (H.out.quiet HQ.out) (RSide.quiet HQ.out) rfl rfl⟩
      · have hd2 : decide ((1000 : Int) < (k : Int)) = false := by simp; omega
        have HN1 := Lib.hid (show k ≤ 1000 by omega)
        have HSF := Lib.hid (startF_ok HNE.out HALL.out (by rw [HLN.out]; exact HN1.out))
        clear hlt h1000
        go_wp2_with fail
        obtain ⟨w2, rfl⟩ : ∃ w2 : World, w2 = wr := ⟨_, rfl⟩
        obtain ⟨n, rfl⟩ : ∃ n : Nat, n = k := ⟨_, rfl⟩
        have Q2 := Lib.hid HQ.out
        have hn1 := HN1.out
        have hsz := Q2.out.size
        obtain ⟨io, ho0, ho1, ho2, ho3⟩ := info_parts Try.info78
        obtain ⟨it, ht0, ht1, ht2, ht3⟩ := info_parts Try.info69
        cases A with
        | none =>
          obtain ⟨rfl, rfl⟩ := HNIL.out rfl
          obtain rfl : l = [] := List.eq_nil_of_length_eq_zero HLN.out
          refine wp_region_noPanic ?_
          refine wp_region_held_drew (S := (fun _ => True)) (by kernel_rfl) ?_ (fun hHeld => ?_)
          · try dsimp only
            try trivial
          refine wpAnyH_take (i := 0) (v := ?_) (at_list rfl) (by kernel_rfl) (by kernel_rfl) (by kernel_rfl) (fun _ _ _ h => h) (Or.inl ⟨by rfl, ?_⟩) (by assumption) ?_
          rotate_left
          · intro w hSw
            try dsimp only at hSw
            go_simp
            try with_reducible rfl
          simp only [Act.put, List.setIfInBounds_toArray, List.set_cons_zero, List.set_cons_succ]
          refine wpAnyH_take (i := 1) (v := ?_) (at_list rfl) (by kernel_rfl) (by kernel_rfl) (by kernel_rfl) (fun _ _ _ h => h) (Or.inl ⟨by rfl, ?_⟩) (by assumption) ?_
          rotate_left
          · intro w hSw
            try dsimp only at hSw
            go_simp
            try with_reducible rfl
          simp only [Act.put, List.setIfInBounds_toArray, List.set_cons_zero, List.set_cons_succ]
          refine wpAnyH_take (i := 2) (v := ?_) (at_list rfl) (by kernel_rfl) (by kernel_rfl) (by kernel_rfl) (fun _ _ _ h => h) (Or.inl ⟨by rfl, ?_⟩) (by assumption) ?_
          rotate_left
          · intro w hSw
            try dsimp only at hSw
            go_simp
            try with_reducible rfl
          simp only [Act.put, List.setIfInBounds_toArray, List.set_cons_zero, List.set_cons_succ]
          refine wpAnyH_take (i := 3) (v := ?_) (at_list rfl) (by kernel_rfl) (by kernel_rfl) (by kernel_rfl) (fun _ _ _ h => h) (Or.inl ⟨by rfl, ?_⟩) (by assumption) ?_
          rotate_left
          · intro w hSw
            try dsimp only at hSw
            go_simp
            try with_reducible rfl
          simp only [Act.put, List.setIfInBounds_toArray, List.set_cons_zero, List.set_cons_succ]
          refine wpAnyH_take (i := 6) (v := ?_) (at_list rfl) (by kernel_rfl) (by kernel_rfl) (by kernel_rfl) (fun _ _ _ h => h) (Or.inl ⟨by rfl, ?_⟩) (by assumption) ?_
          rotate_left
          · intro w hSw
            try dsimp only at hSw
            go_simp
            try with_reducible rfl
          simp only [Act.put, List.setIfInBounds_toArray, List.set_cons_zero, List.set_cons_succ]
          refine wpAnyH_ready (rs := [4, 5]) (by kernel_rfl) (by simp) ?_
          refine AllReadyH.cons (at_list rfl) (fun KK hKK => ?_) (AllReadyH.cons (at_list rfl) (fun KK hKK => ?_) AllReadyH.nil)
          · skip
            go_simp
            refine hKK.out _ _ ?_ (fun hHeld2 => ?_)
            · try dsimp only
              try trivial
            clear hKK KK hHeld
            rename _ => hHeld
            try simp only [Act.put, List.setIfInBounds_toArray, List.set_cons_zero, List.set_cons_succ]
            refine wpAnyH_ready (rs := [5]) (by kernel_rfl) (by simp) ?_
            refine AllReadyH.cons (at_list rfl) (fun KK hKK => ?_) AllReadyH.nil
            go_simp
            refine hKK.out _ _ ?_ (fun hHeld2 => ?_)
            · try dsimp only
              try trivial
            clear hKK KK hHeld
            rename _ => hHeld
            try simp only [Act.put, List.setIfInBounds_toArray, List.set_cons_zero, List.set_cons_succ]
            refine wpAnyH_ready (rs := [7]) (by kernel_rfl) (by simp) ?_
            refine AllReadyH.cons (at_list rfl) (fun KK hKK => ?_) AllReadyH.nil
            refine step_append_none2 _ rfl (.tmp 102) (.tmp 103) 62 rfl 0 78 io 3 Try.underlying62 ho0 (.slice (some ⟨w2.heap.size, 0, none⟩) 0 0) 0 [] (by rfl) (own_empty (by repeat (first | exact blk_new' _ _ (by first | rfl | simp) | refine blk_drewN ?_ | refine blk_drew ?_ | refine blk_alloc ?_ _)) (Nat.zero_le _)) (by rfl) ?_
            intro w3 hw3
            have hos : RopSl w3 (some ⟨w2.heap.size, 0, none⟩) 0 0 [] := by
              rw [hw3]
              exact ropsl_empty (by repeat (first | exact blk_new' _ _ (by first | rfl | simp) | refine blk_drewN ?_ | refine blk_drew ?_ | refine blk_alloc ?_ _))
            have Q23 := Lib.hid (show Quiet w2 w3 by rw [hw3]; exact (by repeat (first | exact Only.refl _ _ | refine Only.drewN ?_ _ | refine Only.drew ?_ | refine Only.alloc ?_ _)))
            have QW3 := Lib.hid (Q2.out.trans Q23.out)
            have HOS := Lib.hid hos
            have p5 := (H.out.quiet QW3.out).head.2.2.2.2.1
            rw [HV.out] at p5
            have l2 := (H.out.quiet QW3.out).head.2.2.2.2.2
            clear hos hw3
            refine hKK.out _ _ ?_ (fun hHeld2 => ?_)
            · try dsimp only
              try trivial
            clear hKK KK hHeld
            rename _ => hHeld
            try simp only [Act.put, List.setIfInBounds_toArray, List.set_cons_zero, List.set_cons_succ]
            refine wpAnyH_take (i := 8) (v := ?_) (at_list rfl) (by kernel_rfl) (by kernel_rfl) (by kernel_rfl) (fun _ _ _ h => h) (Or.inl ⟨by rfl, ?_⟩) (by assumption) ?_
            rotate_left
            · intro w hSw
              try dsimp only at hSw
              go_simp
              try with_reducible rfl
            simp only [Act.put, List.setIfInBounds_toArray, List.set_cons_zero, List.set_cons_succ]
            refine wpAnyH_ready (rs := [9]) (by kernel_rfl) (by simp) ?_
            refine AllReadyH.cons (at_list rfl) (fun KK hKK => ?_) AllReadyH.nil
            go_simp
            refine hKK.out _ _ ?_ (fun hHeld2 => ?_)
            · try dsimp only
              try trivial
            clear hKK KK hHeld
            rename _ => hHeld
            try simp only [Act.put, List.setIfInBounds_toArray, List.set_cons_zero, List.set_cons_succ]
            refine wpAnyH_ready (rs := [10]) (by kernel_rfl) (by simp) ?_
            refine AllReadyH.cons (at_list rfl) (fun KK hKK => ?_) AllReadyH.nil
            refine step_append_own _ rfl (.tmp 101) (.tmp 106) 65 rfl M.base 69 it (.agg #[.slice none 0 0, .int .i64 0, .int .i64 0]) 3 40 Try.underlying65 ht0 ht1 ht2 ht3 rfl (by decide) _ t (rtf M.ts) (by rfl) (HT.out _ (Only.trans QW3.out (by repeat (first | exact Only.refl _ _ | refine Only.drewN ?_ _ | refine Only.drew ?_ | refine Only.alloc ?_ _)))) ⟨w3.heap.size, 0, none⟩ 1 1 [.slice (some ⟨w2.heap.size, 0, none⟩) 0 0, .int .i64 0, .int .i64 0] (by rfl) rfl (news_blk3 (by repeat (first | exact blk_new' _ _ (by first | rfl | simp) | refine blk_drewN ?_ | refine blk_drew ?_ | refine blk_alloc ?_ _))) (three_one rfl rfl rfl) (by unfold maxLen; omega) (by omega) (by first | (have := QW3.out.size; simp; omega) | omega) ?_
            intro v' w4 hown hg
            obtain ⟨A2, c2, hv'⟩ := row_shapeR hown
            subst hv'
            have hp4 := head_of (H.out.quiet (Only.trans QW3.out (by repeat (first | exact Only.refl _ _ | refine Only.drewN ?_ _ | refine Only.drew ?_ | refine Only.alloc ?_ _)))) (HV.out.symm ▸ hg)
            have p4 : w4.cell? ⟨M.p, 4, none⟩ = some (.slice A' t cap) := by rw [← HV.out]; exact blk_cell hp4 4
            have f4 : w4.frozen? ⟨M.p, 4, none⟩ = false := blk_frozen hp4 4
            have l4 : M.p < w4.heap.size := lt_of_heap hp4
            obtain ⟨hm5, ho5⟩ := H.out.addTask (t := ⟨some ⟨w2.heap.size, 0, none⟩, 0, [], 0, 0⟩) (Only.trans QW3.out (by repeat (first | exact Only.refl _ _ | refine Only.drewN ?_ _ | refine Only.drew ?_ | refine Only.alloc ?_ _))) HLT.out (by rw [rtf_app, ← HTT.out]; exact hown) (HV.out.symm ▸ hg) (by exact HOS.out.only (F := fun _ => False) (by repeat (first | exact Only.refl _ _ | refine Only.drewN ?_ _ | refine Only.drew ?_ | refine Only.alloc ?_ _)) (fun _ _ _ x => x)) rfl ⟨by simp, show In32 0 from ⟨by decide, by decide⟩, fun o ho => nomatch ho⟩
            have HP := Lib.hid (RPost.of hm5 ho5 rfl rfl)
            clear hown hg hm5 ho5 hp4
            refine hKK.out _ _ ?_ (fun hHeld2 => ?_)
            · try dsimp only
              try trivial
            clear hKK KK hHeld
            rename _ => hHeld
            try simp only [Act.put, List.setIfInBounds_toArray, List.set_cons_zero, List.set_cons_succ]
            refine wpAnyH_take (i := 11) (v := ?_) (at_list rfl) (by kernel_rfl) (by kernel_rfl) (by kernel_rfl) (fun _ _ _ h => h) (Or.inl ⟨by rfl, ?_⟩) (by assumption) ?_
            rotate_left
            · intro w hSw
              try dsimp only at hSw
              go_simp
              try with_reducible rfl
            simp only [Act.put, List.setIfInBounds_toArray, List.set_cons_zero, List.set_cons_succ]
            refine wpAnyH_take (i := 12) (v := ?_) (at_list rfl) (by kernel_rfl) (by kernel_rfl) (by kernel_rfl) (fun _ _ _ h => h) (Or.inl ⟨by rfl, ?_⟩) (by assumption) ?_
            rotate_left
            · intro w hSw
              try dsimp only at hSw
              go_simp
              try with_reducible rfl
            simp only [Act.put, List.setIfInBounds_toArray, List.set_cons_zero, List.set_cons_succ]
            refine wpAnyH_ready (rs := [13]) (by kernel_rfl) (by simp) ?_
            refine AllReadyH.cons (at_list rfl) (fun KK hKK => ?_) AllReadyH.nil
            go_simp
            refine hKK.out _ _ ?_ (fun hHeld2 => ?_)
            · try dsimp only
              try trivial
            clear hKK KK hHeld
            rename _ => hHeld
            try simp only [Act.put, List.setIfInBounds_toArray, List.set_cons_zero, List.set_cons_succ]
            refine wpAnyH_done (by kernel_rfl) ?_ _
            refine NoPanic.normal ?_
            go_wp2_with fail
            go_ret2
            exact ⟨ret_start HSF.out (by have := HTT.out; have := HTL.out; omega), by rw [HSF.out]; exact HP.out⟩
          · skip
            go_simp
            refine hKK.out _ _ ?_ (fun hHeld2 => ?_)
            · try dsimp only
              try trivial
            clear hKK KK hHeld
            rename _ => hHeld
            try simp only [Act.put, List.setIfInBounds_toArray, List.set_cons_zero, List.set_cons_succ]
            refine wpAnyH_ready (rs := [4, 7]) (by kernel_rfl) (by simp) ?_
            refine AllReadyH.cons (at_list rfl) (fun KK hKK => ?_) (AllReadyH.cons (at_list rfl) (fun KK hKK => ?_) AllReadyH.nil)
            · skip
              go_simp
              refine hKK.out _ _ ?_ (fun hHeld2 => ?_)
              · try dsimp only
                try trivial
              clear hKK KK hHeld
              rename _ => hHeld
              try simp only [Act.put, List.setIfInBounds_toArray, List.set_cons_zero, List.set_cons_succ]
              refine wpAnyH_ready (rs := [7]) (by kernel_rfl) (by simp) ?_
              refine AllReadyH.cons (at_list rfl) (fun KK hKK => ?_) AllReadyH.nil
              refine step_append_none2 _ rfl (.tmp 102) (.tmp 103) 62 rfl 0 78 io 3 Try.underlying62 ho0 (.slice (some ⟨w2.heap.size, 0, none⟩) 0 0) 0 [] (by rfl) (own_empty (by repeat (first | exact blk_new' _ _ (by first | rfl | simp) | refine blk_drewN ?_ | refine blk_drew ?_ | refine blk_alloc ?_ _)) (Nat.zero_le _)) (by rfl) ?_
              intro w3 hw3
              have hos : RopSl w3 (some ⟨w2.heap.size, 0, none⟩) 0 0 [] := by
                rw [hw3]
                exact ropsl_empty (by repeat (first | exact blk_new' _ _ (by first | rfl | simp) | refine blk_drewN ?_ | refine blk_drew ?_ | refine blk_alloc ?_ _))
              have Q23 := Lib.hid (show Quiet w2 w3 by rw [hw3]; exact (by repeat (first | exact Only.refl _ _ | refine Only.drewN ?_ _ | refine Only.drew ?_ | refine Only.alloc ?_ _)))
              have QW3 := Lib.hid (Q2.out.trans Q23.out)
              have HOS := Lib.hid hos
              have p5 := (H.out.quiet QW3.out).head.2.2.2.2.1
              rw [HV.out] at p5
              have l2 := (H.out.quiet QW3.out).head.2.2.2.2.2
              clear hos hw3
              refine hKK.out _ _ ?_ (fun hHeld2 => ?_)
              · try dsimp only
                try trivial
              clear hKK KK hHeld
              rename _ => hHeld
              try simp only [Act.put, List.setIfInBounds_toArray, List.set_cons_zero, List.set_cons_succ]
              refine wpAnyH_take (i := 8) (v := ?_) (at_list rfl) (by kernel_rfl) (by kernel_rfl) (by kernel_rfl) (fun _ _ _ h => h) (Or.inl ⟨by rfl, ?_⟩) (by assumption) ?_
              rotate_left
              · intro w hSw
                try dsimp only at hSw
                go_simp
                try with_reducible rfl
              simp only [Act.put, List.setIfInBounds_toArray, List.set_cons_zero, List.set_cons_succ]
              refine wpAnyH_ready (rs := [9]) (by kernel_rfl) (by simp) ?_
              refine AllReadyH.cons (at_list rfl) (fun KK hKK => ?_) AllReadyH.nil
              go_simp
              refine hKK.out _ _ ?_ (fun hHeld2 => ?_)
              · try dsimp only
                try trivial
              clear hKK KK hHeld
              rename _ => hHeld
              try simp only [Act.put, List.setIfInBounds_toArray, List.set_cons_zero, List.set_cons_succ]
              refine wpAnyH_ready (rs := [10]) (by kernel_rfl) (by simp) ?_
              refine AllReadyH.cons (at_list rfl) (fun KK hKK => ?_) AllReadyH.nil
              refine step_append_own _ rfl (.tmp 101) (.tmp 106) 65 rfl M.base 69 it (.agg #[.slice none 0 0, .int .i64 0, .int .i64 0]) 3 40 Try.underlying65 ht0 ht1 ht2 ht3 rfl (by decide) _ t (rtf M.ts) (by rfl) (HT.out _ (Only.trans QW3.out (by repeat (first | exact Only.refl _ _ | refine Only.drewN ?_ _ | refine Only.drew ?_ | refine Only.alloc ?_ _)))) ⟨w3.heap.size, 0, none⟩ 1 1 [.slice (some ⟨w2.heap.size, 0, none⟩) 0 0, .int .i64 0, .int .i64 0] (by rfl) rfl (news_blk3 (by repeat (first | exact blk_new' _ _ (by first | rfl | simp) | refine blk_drewN ?_ | refine blk_drew ?_ | refine blk_alloc ?_ _))) (three_one rfl rfl rfl) (by unfold maxLen; omega) (by omega) (by first | (have := QW3.out.size; simp; omega) | omega) ?_
              intro v' w4 hown hg
              obtain ⟨A2, c2, hv'⟩ := row_shapeR hown
              subst hv'
              have hp4 := head_of (H.out.quiet (Only.trans QW3.out (by repeat (first | exact Only.refl _ _ | refine Only.drewN ?_ _ | refine Only.drew ?_ | refine Only.alloc ?_ _)))) (HV.out.symm ▸ hg)
              have p4 : w4.cell? ⟨M.p, 4, none⟩ = some (.slice A' t cap) := by rw [← HV.out]; exact blk_cell hp4 4
              have f4 : w4.frozen? ⟨M.p, 4, none⟩ = false := blk_frozen hp4 4
              have l4 : M.p < w4.heap.size := lt_of_heap hp4
              obtain ⟨hm5, ho5⟩ := H.out.addTask (t := ⟨some ⟨w2.heap.size, 0, none⟩, 0, [], 0, 0⟩) (Only.trans QW3.out (by repeat (first | exact Only.refl _ _ | refine Only.drewN ?_ _ | refine Only.drew ?_ | refine Only.alloc ?_ _))) HLT.out (by rw [rtf_app, ← HTT.out]; exact hown) (HV.out.symm ▸ hg) (by exact HOS.out.only (F := fun _ => False) (by repeat (first | exact Only.refl _ _ | refine Only.drewN ?_ _ | refine Only.drew ?_ | refine Only.alloc ?_ _)) (fun _ _ _ x => x)) rfl ⟨by simp, show In32 0 from ⟨by decide, by decide⟩, fun o ho => nomatch ho⟩
              have HP := Lib.hid (RPost.of hm5 ho5 rfl rfl)
              clear hown hg hm5 ho5 hp4
              refine hKK.out _ _ ?_ (fun hHeld2 => ?_)
              · try dsimp only
                try trivial
              clear hKK KK hHeld
              rename _ => hHeld
              try simp only [Act.put, List.setIfInBounds_toArray, List.set_cons_zero, List.set_cons_succ]
              refine wpAnyH_take (i := 11) (v := ?_) (at_list rfl) (by kernel_rfl) (by kernel_rfl) (by kernel_rfl) (fun _ _ _ h => h) (Or.inl ⟨by rfl, ?_⟩) (by assumption) ?_
              rotate_left
              · intro w hSw
                try dsimp only at hSw
                go_simp
                try with_reducible rfl
              simp only [Act.put, List.setIfInBounds_toArray, List.set_cons_zero, List.set_cons_succ]
              refine wpAnyH_take (i := 12) (v := ?_) (at_list rfl) (by kernel_rfl) (by kernel_rfl) (by kernel_rfl) (fun _ _ _ h => h) (Or.inl ⟨by rfl, ?_⟩) (by assumption) ?_
              rotate_left
              · intro w hSw
                try dsimp only at hSw
                go_simp
                try with_reducible rfl
              simp only [Act.put, List.setIfInBounds_toArray, List.set_cons_zero, List.set_cons_succ]
              refine wpAnyH_ready (rs := [13]) (by kernel_rfl) (by simp) ?_
              refine AllReadyH.cons (at_list rfl) (fun KK hKK => ?_) AllReadyH.nil
              go_simp
              refine hKK.out _ _ ?_ (fun hHeld2 => ?_)
              · try dsimp only
                try trivial
              clear hKK KK hHeld
              rename _ => hHeld
              try simp only [Act.put, List.setIfInBounds_toArray, List.set_cons_zero, List.set_cons_succ]
              refine wpAnyH_done (by kernel_rfl) ?_ _
              refine NoPanic.normal ?_
              go_wp2_with fail
              go_ret2
              exact ⟨ret_start HSF.out (by have := HTT.out; have := HTL.out; omega), by rw [HSF.out]; exact HP.out⟩
            · skip
              refine step_append_none2 _ rfl (.tmp 102) (.tmp 103) 62 rfl 0 78 io 3 Try.underlying62 ho0 (.slice (some ⟨w2.heap.size, 0, none⟩) 0 0) 0 [] (by rfl) (own_empty (by repeat (first | exact blk_new' _ _ (by first | rfl | simp) | refine blk_drewN ?_ | refine blk_drew ?_ | refine blk_alloc ?_ _)) (Nat.zero_le _)) (by rfl) ?_
              intro w3 hw3
              have hos : RopSl w3 (some ⟨w2.heap.size, 0, none⟩) 0 0 [] := by
                rw [hw3]
                exact ropsl_empty (by repeat (first | exact blk_new' _ _ (by first | rfl | simp) | refine blk_drewN ?_ | refine blk_drew ?_ | refine blk_alloc ?_ _))
              have Q23 := Lib.hid (show Quiet w2 w3 by rw [hw3]; exact (by repeat (first | exact Only.refl _ _ | refine Only.drewN ?_ _ | refine Only.drew ?_ | refine Only.alloc ?_ _)))
              have QW3 := Lib.hid (Q2.out.trans Q23.out)
              have HOS := Lib.hid hos
              have p5 := (H.out.quiet QW3.out).head.2.2.2.2.1
              rw [HV.out] at p5
              have l2 := (H.out.quiet QW3.out).head.2.2.2.2.2
              clear hos hw3
              refine hKK.out _ _ ?_ (fun hHeld2 => ?_)
              · try dsimp only
                try trivial
              clear hKK KK hHeld
              rename _ => hHeld
              try simp only [Act.put, List.setIfInBounds_toArray, List.set_cons_zero, List.set_cons_succ]
              refine wpAnyH_take (i := 8) (v := ?_) (at_list rfl) (by kernel_rfl) (by kernel_rfl) (by kernel_rfl) (fun _ _ _ h => h) (Or.inl ⟨by rfl, ?_⟩) (by assumption) ?_
              rotate_left
              · intro w hSw
                try dsimp only at hSw
                go_simp
                try with_reducible rfl
              simp only [Act.put, List.setIfInBounds_toArray, List.set_cons_zero, List.set_cons_succ]
              refine wpAnyH_ready (rs := [4, 9]) (by kernel_rfl) (by simp) ?_
              refine AllReadyH.cons (at_list rfl) (fun KK hKK => ?_) (AllReadyH.cons (at_list rfl) (fun KK hKK => ?_) AllReadyH.nil)
              · skip
                go_simp
                refine hKK.out _ _ ?_ (fun hHeld2 => ?_)
                · try dsimp only
                  try trivial
                clear hKK KK hHeld
                rename _ => hHeld
                try simp only [Act.put, List.setIfInBounds_toArray, List.set_cons_zero, List.set_cons_succ]
                refine wpAnyH_ready (rs := [9]) (by kernel_rfl) (by simp) ?_
                refine AllReadyH.cons (at_list rfl) (fun KK hKK => ?_) AllReadyH.nil
                go_simp
                refine hKK.out _ _ ?_ (fun hHeld2 => ?_)
                · try dsimp only
                  try trivial
                clear hKK KK hHeld
                rename _ => hHeld
                try simp only [Act.put, List.setIfInBounds_toArray, List.set_cons_zero, List.set_cons_succ]
                refine wpAnyH_ready (rs := [10]) (by kernel_rfl) (by simp) ?_
                refine AllReadyH.cons (at_list rfl) (fun KK hKK => ?_) AllReadyH.nil
                refine step_append_own _ rfl (.tmp 101) (.tmp 106) 65 rfl M.base 69 it (.agg #[.slice none 0 0, .int .i64 0, .int .i64 0]) 3 40 Try.underlying65 ht0 ht1 ht2 ht3 rfl (by decide) _ t (rtf M.ts) (by rfl) (HT.out _ (Only.trans QW3.out (by repeat (first | exact Only.refl _ _ | refine Only.drewN ?_ _ | refine Only.drew ?_ | refine Only.alloc ?_ _)))) ⟨w3.heap.size, 0, none⟩ 1 1 [.slice (some ⟨w2.heap.size, 0, none⟩) 0 0, .int .i64 0, .int .i64 0] (by rfl) rfl (news_blk3 (by repeat (first | exact blk_new' _ _ (by first | rfl | simp) | refine blk_drewN ?_ | refine blk_drew ?_ | refine blk_alloc ?_ _))) (three_one rfl rfl rfl) (by unfold maxLen; omega) (by omega) (by first | (have := QW3.out.size; simp; omega) | omega) ?_
                intro v' w4 hown hg
                obtain ⟨A2, c2, hv'⟩ := row_shapeR hown
                subst hv'
                have hp4 := head_of (H.out.quiet (Only.trans QW3.out (by repeat (first | exact Only.refl _ _ | refine Only.drewN ?_ _ | refine Only.drew ?_ | refine Only.alloc ?_ _)))) (HV.out.symm ▸ hg)
                have p4 : w4.cell? ⟨M.p, 4, none⟩ = some (.slice A' t cap) := by rw [← HV.out]; exact blk_cell hp4 4
                have f4 : w4.frozen? ⟨M.p, 4, none⟩ = false := blk_frozen hp4 4
                have l4 : M.p < w4.heap.size := lt_of_heap hp4
                obtain ⟨hm5, ho5⟩ := H.out.addTask (t := ⟨some ⟨w2.heap.size, 0, none⟩, 0, [], 0, 0⟩) (Only.trans QW3.out (by repeat (first | exact Only.refl _ _ | refine Only.drewN ?_ _ | refine Only.drew ?_ | refine Only.alloc ?_ _))) HLT.out (by rw [rtf_app, ← HTT.out]; exact hown) (HV.out.symm ▸ hg) (by exact HOS.out.only (F := fun _ => False) (by repeat (first | exact Only.refl _ _ | refine Only.drewN ?_ _ | refine Only.drew ?_ | refine Only.alloc ?_ _)) (fun _ _ _ x => x)) rfl ⟨by simp, show In32 0 from ⟨by decide, by decide⟩, fun o ho => nomatch ho⟩
                have HP := Lib.hid (RPost.of hm5 ho5 rfl rfl)
                clear hown hg hm5 ho5 hp4
                refine hKK.out _ _ ?_ (fun hHeld2 => ?_)
                · try dsimp only
                  try trivial
                clear hKK KK hHeld
                rename _ => hHeld
                try simp only [Act.put, List.setIfInBounds_toArray, List.set_cons_zero, List.set_cons_succ]
                refine wpAnyH_take (i := 11) (v := ?_) (at_list rfl) (by kernel_rfl) (by kernel_rfl) (by kernel_rfl) (fun _ _ _ h => h) (Or.inl ⟨by rfl, ?_⟩) (by assumption) ?_
                rotate_left
                · intro w hSw
                  try dsimp only at hSw
                  go_simp
                  try with_reducible rfl
                simp only [Act.put, List.setIfInBounds_toArray, List.set_cons_zero, List.set_cons_succ]
                refine wpAnyH_take (i := 12) (v := ?_) (at_list rfl) (by kernel_rfl) (by kernel_rfl) (by kernel_rfl) (fun _ _ _ h => h) (Or.inl ⟨by rfl, ?_⟩) (by assumption) ?_
                rotate_left
                · intro w hSw
                  try dsimp only at hSw
                  go_simp
                  try with_reducible rfl
                simp only [Act.put, List.setIfInBounds_toArray, List.set_cons_zero, List.set_cons_succ]
                refine wpAnyH_ready (rs := [13]) (by kernel_rfl) (by simp) ?_
                refine AllReadyH.cons (at_list rfl) (fun KK hKK => ?_) AllReadyH.nil
                go_simp
                refine hKK.out _ _ ?_ (fun hHeld2 => ?_)
                · try dsimp only
                  try trivial
                clear hKK KK hHeld
                rename _ => hHeld
                try simp only [Act.put, List.setIfInBounds_toArray, List.set_cons_zero, List.set_cons_succ]
                refine wpAnyH_done (by kernel_rfl) ?_ _
                refine NoPanic.normal ?_
                go_wp2_with fail
                go_ret2
                exact ⟨ret_start HSF.out (by have := HTT.out; have := HTL.out; omega), by rw [HSF.out]; exact HP.out⟩
              · skip
                go_simp
                refine hKK.out _ _ ?_ (fun hHeld2 => ?_)
                · try dsimp only
                  try trivial
                clear hKK KK hHeld
                rename _ => hHeld
                try simp only [Act.put, List.setIfInBounds_toArray, List.set_cons_zero, List.set_cons_succ]
                refine wpAnyH_ready (rs := [4]) (by kernel_rfl) (by simp) ?_
                refine AllReadyH.cons (at_list rfl) (fun KK hKK => ?_) AllReadyH.nil
                go_simp
                refine hKK.out _ _ ?_ (fun hHeld2 => ?_)
                · try dsimp only
                  try trivial
                clear hKK KK hHeld
                rename _ => hHeld
                try simp only [Act.put, List.setIfInBounds_toArray, List.set_cons_zero, List.set_cons_succ]
                refine wpAnyH_ready (rs := [10]) (by kernel_rfl) (by simp) ?_
                refine AllReadyH.cons (at_list rfl) (fun KK hKK => ?_) AllReadyH.nil
                refine step_append_own _ rfl (.tmp 101) (.tmp 106) 65 rfl M.base 69 it (.agg #[.slice none 0 0, .int .i64 0, .int .i64 0]) 3 40 Try.underlying65 ht0 ht1 ht2 ht3 rfl (by decide) _ t (rtf M.ts) (by rfl) (HT.out _ (Only.trans QW3.out (by repeat (first | exact Only.refl _ _ | refine Only.drewN ?_ _ | refine Only.drew ?_ | refine Only.alloc ?_ _)))) ⟨w3.heap.size, 0, none⟩ 1 1 [.slice (some ⟨w2.heap.size, 0, none⟩) 0 0, .int .i64 0, .int .i64 0] (by rfl) rfl (news_blk3 (by repeat (first | exact blk_new' _ _ (by first | rfl | simp) | refine blk_drewN ?_ | refine blk_drew ?_ | refine blk_alloc ?_ _))) (three_one rfl rfl rfl) (by unfold maxLen; omega) (by omega) (by first | (have := QW3.out.size; simp; omega) | omega) ?_
                intro v' w4 hown hg
                obtain ⟨A2, c2, hv'⟩ := row_shapeR hown
                subst hv'
                have hp4 := head_of (H.out.quiet (Only.trans QW3.out (by repeat (first | exact Only.refl _ _ | refine Only.drewN ?_ _ | refine Only.drew ?_ | refine Only.alloc ?_ _)))) (HV.out.symm ▸ hg)
                have p4 : w4.cell? ⟨M.p, 4, none⟩ = some (.slice A' t cap) := by rw [← HV.out]; exact blk_cell hp4 4
                have f4 : w4.frozen? ⟨M.p, 4, none⟩ = false := blk_frozen hp4 4
                have l4 : M.p < w4.heap.size := lt_of_heap hp4
                obtain ⟨hm5, ho5⟩ := H.out.addTask (t := ⟨some ⟨w2.heap.size, 0, none⟩, 0, [], 0, 0⟩) (Only.trans QW3.out (by repeat (first | exact Only.refl _ _ | refine Only.drewN ?_ _ | refine Only.drew ?_ | refine Only.alloc ?_ _))) HLT.out (by rw [rtf_app, ← HTT.out]; exact hown) (HV.out.symm ▸ hg) (by exact HOS.out.only (F := fun _ => False) (by repeat (first | exact Only.refl _ _ | refine Only.drewN ?_ _ | refine Only.drew ?_ | refine Only.alloc ?_ _)) (fun _ _ _ x => x)) rfl ⟨by simp, show In32 0 from ⟨by decide, by decide⟩, fun o ho => nomatch ho⟩
                have HP := Lib.hid (RPost.of hm5 ho5 rfl rfl)
                clear hown hg hm5 ho5 hp4
                refine hKK.out _ _ ?_ (fun hHeld2 => ?_)
                · try dsimp only
                  try trivial
                clear hKK KK hHeld
                rename _ => hHeld
                try simp only [Act.put, List.setIfInBounds_toArray, List.set_cons_zero, List.set_cons_succ]
                refine wpAnyH_take (i := 11) (v := ?_) (at_list rfl) (by kernel_rfl) (by kernel_rfl) (by kernel_rfl) (fun _ _ _ h => h) (Or.inl ⟨by rfl, ?_⟩) (by assumption) ?_
                rotate_left
                · intro w hSw
                  try dsimp only at hSw
                  go_simp
                  try with_reducible rfl
                simp only [Act.put, List.setIfInBounds_toArray, List.set_cons_zero, List.set_cons_succ]
                refine wpAnyH_take (i := 12) (v := ?_) (at_list rfl) (by kernel_rfl) (by kernel_rfl) (by kernel_rfl) (fun _ _ _ h => h) (Or.inl ⟨by rfl, ?_⟩) (by assumption) ?_
                rotate_left
                · intro w hSw
                  try dsimp only at hSw
                  go_simp
                  try with_reducible rfl
                simp only [Act.put, List.setIfInBounds_toArray, List.set_cons_zero, List.set_cons_succ]
                refine wpAnyH_ready (rs := [13]) (by kernel_rfl) (by simp) ?_
                refine AllReadyH.cons (at_list rfl) (fun KK hKK => ?_) AllReadyH.nil
                go_simp
                refine hKK.out _ _ ?_ (fun hHeld2 => ?_)
                · try dsimp only
                  try trivial
                clear hKK KK hHeld
                rename _ => hHeld
                try simp only [Act.put, List.setIfInBounds_toArray, List.set_cons_zero, List.set_cons_succ]
                refine wpAnyH_done (by kernel_rfl) ?_ _
                refine NoPanic.normal ?_
                go_wp2_with fail
                go_ret2
                exact ⟨ret_start HSF.out (by have := HTT.out; have := HTL.out; omega), by rw [HSF.out]; exact HP.out⟩
        | some ad =>
          refine wp_region_noPanic ?_
          refine wp_region_held_drew (S := (fun _ => True)) (by kernel_rfl) ?_ (fun hHeld => ?_)
          · try dsimp only
            try trivial
          refine wpAnyH_take (i := 0) (v := ?_) (at_list rfl) (by kernel_rfl) (by kernel_rfl) (by kernel_rfl) (fun _ _ _ h => h) (Or.inl ⟨by rfl, ?_⟩) (by assumption) ?_
          rotate_left
          · intro w hSw
            try dsimp only at hSw
            go_simp
            try with_reducible rfl
          simp only [Act.put, List.setIfInBounds_toArray, List.set_cons_zero, List.set_cons_succ]
          refine wpAnyH_take (i := 1) (v := ?_) (at_list rfl) (by kernel_rfl) (by kernel_rfl) (by kernel_rfl) (fun _ _ _ h => h) (Or.inl ⟨by rfl, ?_⟩) (by assumption) ?_
          rotate_left
          · intro w hSw
            try dsimp only at hSw
            go_simp
            try with_reducible rfl
          simp only [Act.put, List.setIfInBounds_toArray, List.set_cons_zero, List.set_cons_succ]
          refine wpAnyH_take (i := 2) (v := ?_) (at_list rfl) (by kernel_rfl) (by kernel_rfl) (by kernel_rfl) (fun _ _ _ h => h) (Or.inl ⟨by rfl, ?_⟩) (by assumption) ?_
          rotate_left
          · intro w hSw
            try dsimp only at hSw
            go_simp
            try with_reducible rfl
          simp only [Act.put, List.setIfInBounds_toArray, List.set_cons_zero, List.set_cons_succ]
          refine wpAnyH_take (i := 3) (v := ?_) (at_list rfl) (by kernel_rfl) (by kernel_rfl) (by kernel_rfl) (fun _ _ _ h => h) (Or.inl ⟨by rfl, ?_⟩) (by assumption) ?_
          rotate_left
          · intro w hSw
            try dsimp only at hSw
            go_simp
            try with_reducible rfl
          simp only [Act.put, List.setIfInBounds_toArray, List.set_cons_zero, List.set_cons_succ]
          refine wpAnyH_take (i := 6) (v := ?_) (at_list rfl) (by kernel_rfl) (by kernel_rfl) (by kernel_rfl) (fun _ _ _ h => h) (Or.inl ⟨by rfl, ?_⟩) (by assumption) ?_
          rotate_left
          · intro w hSw
            try dsimp only at hSw
            go_simp
            try with_reducible rfl
          simp only [Act.put, List.setIfInBounds_toArray, List.set_cons_zero, List.set_cons_succ]
          refine wpAnyH_ready (rs := [4, 5]) (by kernel_rfl) (by simp) ?_
          refine AllReadyH.cons (at_list rfl) (fun KK hKK => ?_) (AllReadyH.cons (at_list rfl) (fun KK hKK => ?_) AllReadyH.nil)
          · skip
            go_simp
            refine hKK.out _ _ ?_ (fun hHeld2 => ?_)
            · try dsimp only
              try trivial
            clear hKK KK hHeld
            rename _ => hHeld
            try simp only [Act.put, List.setIfInBounds_toArray, List.set_cons_zero, List.set_cons_succ]
            refine wpAnyH_ready (rs := [5]) (by kernel_rfl) (by simp) ?_
            refine AllReadyH.cons (at_list rfl) (fun KK hKK => ?_) AllReadyH.nil
            go_simp
            refine hKK.out _ _ ?_ (fun hHeld2 => ?_)
            · try dsimp only
              try trivial
            clear hKK KK hHeld
            rename _ => hHeld
            try simp only [Act.put, List.setIfInBounds_toArray, List.set_cons_zero, List.set_cons_succ]
            refine wpAnyH_ready (rs := [7]) (by kernel_rfl) (by simp) ?_
            refine AllReadyH.cons (at_list rfl) (fun KK hKK => ?_) AllReadyH.nil
            refine step_append_own _ rfl (.tmp 102) (.tmp 103) 62 rfl 0 78 io (.agg #[.int .i64 0, .int .i64 0, .int .i64 0]) 3 24 Try.underlying62 ho0 ho1 ho2 ho3 rfl (by decide) (.slice (some ⟨w2.heap.size, 0, none⟩) 0 0) 0 [] (by rfl) (own_empty (by repeat (first | exact blk_new' _ _ (by first | rfl | simp) | refine blk_drewN ?_ | refine blk_drew ?_ | refine blk_alloc ?_ _)) (Nat.zero_le _)) ad n c (opsF l) (by rfl) (by rw [opsF_len, HLN.out]) ((HR.out.only (F := fun _ => False) (Only.trans Q2.out (by repeat (first | exact Only.refl _ _ | refine Only.drewN ?_ _ | refine Only.drew ?_ | refine Only.alloc ?_ _))) (fun _ _ _ x => x)).news) (opsF_one l) (by unfold maxLen; omega) (by omega) (Nat.zero_le _) ?_
            intro v1 w3 hown1 hg1
            rw [Nat.zero_add, List.nil_append] at hown1
            obtain ⟨A1, c1, hv1, hos⟩ := own_ropsl hown1 HLN.out
            subst hv1
            have Q23 := Lib.hid (show Quiet w2 w3 from grown_fresh (by repeat (first | exact Only.refl _ _ | refine Only.drewN ?_ _ | refine Only.drew ?_ | refine Only.alloc ?_ _)) hg1 (Nat.le_refl _))
            have QW3 := Lib.hid (Q2.out.trans Q23.out)
            have HOS := Lib.hid hos
            have p5 := (H.out.quiet QW3.out).head.2.2.2.2.1
            rw [HV.out] at p5
            have l2 := (H.out.quiet QW3.out).head.2.2.2.2.2
            clear hown1 hg1 hos
            refine hKK.out _ _ ?_ (fun hHeld2 => ?_)
            · try dsimp only
              try trivial
            clear hKK KK hHeld
            rename _ => hHeld
            try simp only [Act.put, List.setIfInBounds_toArray, List.set_cons_zero, List.set_cons_succ]
            refine wpAnyH_take (i := 8) (v := ?_) (at_list rfl) (by kernel_rfl) (by kernel_rfl) (by kernel_rfl) (fun _ _ _ h => h) (Or.inl ⟨by rfl, ?_⟩) (by assumption) ?_
            rotate_left
            · intro w hSw
              try dsimp only at hSw
              go_simp
              try with_reducible rfl
            simp only [Act.put, List.setIfInBounds_toArray, List.set_cons_zero, List.set_cons_succ]
            refine wpAnyH_ready (rs := [9]) (by kernel_rfl) (by simp) ?_
            refine AllReadyH.cons (at_list rfl) (fun KK hKK => ?_) AllReadyH.nil
            go_simp
            refine hKK.out _ _ ?_ (fun hHeld2 => ?_)
            · try dsimp only
              try trivial
            clear hKK KK hHeld
            rename _ => hHeld
            try simp only [Act.put, List.setIfInBounds_toArray, List.set_cons_zero, List.set_cons_succ]
            refine wpAnyH_ready (rs := [10]) (by kernel_rfl) (by simp) ?_
            refine AllReadyH.cons (at_list rfl) (fun KK hKK => ?_) AllReadyH.nil
            refine step_append_own _ rfl (.tmp 101) (.tmp 106) 65 rfl M.base 69 it (.agg #[.slice none 0 0, .int .i64 0, .int .i64 0]) 3 40 Try.underlying65 ht0 ht1 ht2 ht3 rfl (by decide) _ t (rtf M.ts) (by rfl) (HT.out _ (Only.trans QW3.out (by repeat (first | exact Only.refl _ _ | refine Only.drewN ?_ _ | refine Only.drew ?_ | refine Only.alloc ?_ _)))) ⟨w3.heap.size, 0, none⟩ 1 1 [.slice A1 n c1, .int .i64 0, .int .i64 0] (by rfl) rfl (news_blk3 (by repeat (first | exact blk_new' _ _ (by first | rfl | simp) | refine blk_drewN ?_ | refine blk_drew ?_ | refine blk_alloc ?_ _))) (three_one rfl rfl rfl) (by unfold maxLen; omega) (by omega) (by first | (have := QW3.out.size; simp; omega) | omega) ?_
            intro v' w4 hown hg
            obtain ⟨A2, c2, hv'⟩ := row_shapeR hown
            subst hv'
            have hp4 := head_of (H.out.quiet (Only.trans QW3.out (by repeat (first | exact Only.refl _ _ | refine Only.drewN ?_ _ | refine Only.drew ?_ | refine Only.alloc ?_ _)))) (HV.out.symm ▸ hg)
            have p4 : w4.cell? ⟨M.p, 4, none⟩ = some (.slice A' t cap) := by rw [← HV.out]; exact blk_cell hp4 4
            have f4 : w4.frozen? ⟨M.p, 4, none⟩ = false := blk_frozen hp4 4
            have l4 : M.p < w4.heap.size := lt_of_heap hp4
            obtain ⟨hm5, ho5⟩ := H.out.addTask (t := ⟨A1, c1, l, 0, 0⟩) (Only.trans QW3.out (by repeat (first | exact Only.refl _ _ | refine Only.drewN ?_ _ | refine Only.drew ?_ | refine Only.alloc ?_ _))) HLT.out (by rw [rtf_app, ← HTT.out, show rtf [(⟨A1, c1, l, 0, 0⟩ : RTask)] = [.slice A1 n c1, .int .i64 0, .int .i64 0] by rw [← HLN.out]; rfl]; exact hown) (HV.out.symm ▸ hg) (by show RopSl _ A1 l.length c1 l; rw [HLN.out]; exact HOS.out.only (F := fun _ => False) (by repeat (first | exact Only.refl _ _ | refine Only.drewN ?_ _ | refine Only.drew ?_ | refine Only.alloc ?_ _)) (fun _ _ _ x => x)) rfl ⟨by show l.length ≤ 1000; rw [HLN.out]; exact HN1.out, show In32 0 from ⟨by decide, by decide⟩, fun o ho => List.all_eq_true.1 HALL.out o ho⟩
            have HP := Lib.hid (RPost.of hm5 ho5 rfl rfl)
            clear hown hg hm5 ho5 hp4
            refine hKK.out _ _ ?_ (fun hHeld2 => ?_)
            · try dsimp only
              try trivial
            clear hKK KK hHeld
            rename _ => hHeld
            try simp only [Act.put, List.setIfInBounds_toArray, List.set_cons_zero, List.set_cons_succ]
            refine wpAnyH_take (i := 11) (v := ?_) (at_list rfl) (by kernel_rfl) (by kernel_rfl) (by kernel_rfl) (fun _ _ _ h => h) (Or.inl ⟨by rfl, ?_⟩) (by assumption) ?_
            rotate_left
            · intro w hSw
              try dsimp only at hSw
              go_simp
              try with_reducible rfl
            simp only [Act.put, List.setIfInBounds_toArray, List.set_cons_zero, List.set_cons_succ]
            refine wpAnyH_take (i := 12) (v := ?_) (at_list rfl) (by kernel_rfl) (by kernel_rfl) (by kernel_rfl) (fun _ _ _ h => h) (Or.inl ⟨by rfl, ?_⟩) (by assumption) ?_
            rotate_left
            · intro w hSw
              try dsimp only at hSw
              go_simp
              try with_reducible rfl
            simp only [Act.put, List.setIfInBounds_toArray, List.set_cons_zero, List.set_cons_succ]
            refine wpAnyH_ready (rs := [13]) (by kernel_rfl) (by simp) ?_
            refine AllReadyH.cons (at_list rfl) (fun KK hKK => ?_) AllReadyH.nil
            go_simp
            refine hKK.out _ _ ?_ (fun hHeld2 => ?_)
            · try dsimp only
              try trivial
            clear hKK KK hHeld
            rename _ => hHeld
            try simp only [Act.put, List.setIfInBounds_toArray, List.set_cons_zero, List.set_cons_succ]
            refine wpAnyH_done (by kernel_rfl) ?_ _
            refine NoPanic.normal ?_
            go_wp2_with fail
            go_ret2
            exact ⟨ret_start HSF.out (by have := HTT.out; have := HTL.out; omega), by rw [HSF.out]; exact HP.out⟩
          · skip
            go_simp
            refine hKK.out _ _ ?_ (fun hHeld2 => ?_)
            · try dsimp only
              try trivial
            clear hKK KK hHeld
            rename _ => hHeld
            try simp only [Act.put, List.setIfInBounds_toArray, List.set_cons_zero, List.set_cons_succ]
            refine wpAnyH_ready (rs := [4, 7]) (by kernel_rfl) (by simp) ?_
            refine AllReadyH.cons (at_list rfl) (fun KK hKK => ?_) (AllReadyH.cons (at_list rfl) (fun KK hKK => ?_) AllReadyH.nil)
            · skip
              go_simp
              refine hKK.out _ _ ?_ (fun hHeld2 => ?_)
              · try dsimp only
                try trivial
              clear hKK KK hHeld
              rename _ => hHeld
              try simp only [Act.put, List.setIfInBounds_toArray, List.set_cons_zero, List.set_cons_succ]
              refine wpAnyH_ready (rs := [7]) (by kernel_rfl) (by simp) ?_
              refine AllReadyH.cons (at_list rfl) (fun KK hKK => ?_) AllReadyH.nil
              refine step_append_own _ rfl (.tmp 102) (.tmp 103) 62 rfl 0 78 io (.agg #[.int .i64 0, .int .i64 0, .int .i64 0]) 3 24 Try.underlying62 ho0 ho1 ho2 ho3 rfl (by decide) (.slice (some ⟨w2.heap.size, 0, none⟩) 0 0) 0 [] (by rfl) (own_empty (by repeat (first | exact blk_new' _ _ (by first | rfl | simp) | refine blk_drewN ?_ | refine blk_drew ?_ | refine blk_alloc ?_ _)) (Nat.zero_le _)) ad n c (opsF l) (by rfl) (by rw [opsF_len, HLN.out]) ((HR.out.only (F := fun _ => False) (Only.trans Q2.out (by repeat (first | exact Only.refl _ _ | refine Only.drewN ?_ _ | refine Only.drew ?_ | refine Only.alloc ?_ _))) (fun _ _ _ x => x)).news) (opsF_one l) (by unfold maxLen; omega) (by omega) (Nat.zero_le _) ?_
              intro v1 w3 hown1 hg1
              rw [Nat.zero_add, List.nil_append] at hown1
              obtain ⟨A1, c1, hv1, hos⟩ := own_ropsl hown1 HLN.out
              subst hv1
              have Q23 := Lib.hid (show Quiet w2 w3 from grown_fresh (by repeat (first | exact Only.refl _ _ | refine Only.drewN ?_ _ | refine Only.drew ?_ | refine Only.alloc ?_ _)) hg1 (Nat.le_refl _))
              have QW3 := Lib.hid (Q2.out.trans Q23.out)
              have HOS := Lib.hid hos
              have p5 := (H.out.quiet QW3.out).head.2.2.2.2.1
              rw [HV.out] at p5
              have l2 := (H.out.quiet QW3.out).head.2.2.2.2.2
              clear hown1 hg1 hos
              refine hKK.out _ _ ?_ (fun hHeld2 => ?_)
              · try dsimp only
                try trivial
              clear hKK KK hHeld
              rename _ => hHeld
              try simp only [Act.put, List.setIfInBounds_toArray, List.set_cons_zero, List.set_cons_succ]
              refine wpAnyH_take (i := 8) (v := ?_) (at_list rfl) (by kernel_rfl) (by kernel_rfl) (by kernel_rfl) (fun _ _ _ h => h) (Or.inl ⟨by rfl, ?_⟩) (by assumption) ?_
              rotate_left
              · intro w hSw
                try dsimp only at hSw
                go_simp
                try with_reducible rfl
              simp only [Act.put, List.setIfInBounds_toArray, List.set_cons_zero, List.set_cons_succ]
              refine wpAnyH_ready (rs := [9]) (by kernel_rfl) (by simp) ?_
              refine AllReadyH.cons (at_list rfl) (fun KK hKK => ?_) AllReadyH.nil
              go_simp
              refine hKK.out _ _ ?_ (fun hHeld2 => ?_)
              · try dsimp only
                try trivial
              clear hKK KK hHeld
              rename _ => hHeld
              try simp only [Act.put, List.setIfInBounds_toArray, List.set_cons_zero, List.set_cons_succ]
              refine wpAnyH_ready (rs := [10]) (by kernel_rfl) (by simp) ?_
              refine AllReadyH.cons (at_list rfl) (fun KK hKK => ?_) AllReadyH.nil
              refine step_append_own _ rfl (.tmp 101) (.tmp 106) 65 rfl M.base 69 it (.agg #[.slice none 0 0, .int .i64 0, .int .i64 0]) 3 40 Try.underlying65 ht0 ht1 ht2 ht3 rfl (by decide) _ t (rtf M.ts) (by rfl) (HT.out _ (Only.trans QW3.out (by repeat (first | exact Only.refl _ _ | refine Only.drewN ?_ _ | refine Only.drew ?_ | refine Only.alloc ?_ _)))) ⟨w3.heap.size, 0, none⟩ 1 1 [.slice A1 n c1, .int .i64 0, .int .i64 0] (by rfl) rfl (news_blk3 (by repeat (first | exact blk_new' _ _ (by first | rfl | simp) | refine blk_drewN ?_ | refine blk_drew ?_ | refine blk_alloc ?_ _))) (three_one rfl rfl rfl) (by unfold maxLen; omega) (by omega) (by first | (have := QW3.out.size; simp; omega) | omega) ?_
              intro v' w4 hown hg
              obtain ⟨A2, c2, hv'⟩ := row_shapeR hown
              subst hv'
              have hp4 := head_of (H.out.quiet (Only.trans QW3.out (by repeat (first | exact Only.refl _ _ | refine Only.drewN ?_ _ | refine Only.drew ?_ | refine Only.alloc ?_ _)))) (HV.out.symm ▸ hg)
              have p4 : w4.cell? ⟨M.p, 4, none⟩ = some (.slice A' t cap) := by rw [← HV.out]; exact blk_cell hp4 4
              have f4 : w4.frozen? ⟨M.p, 4, none⟩ = false := blk_frozen hp4 4
              have l4 : M.p < w4.heap.size := lt_of_heap hp4
              obtain ⟨hm5, ho5⟩ := H.out.addTask (t := ⟨A1, c1, l, 0, 0⟩) (Only.trans QW3.out (by repeat (first | exact Only.refl _ _ | refine Only.drewN ?_ _ | refine Only.drew ?_ | refine Only.alloc ?_ _))) HLT.out (by rw [rtf_app, ← HTT.out, show rtf [(⟨A1, c1, l, 0, 0⟩ : RTask)] = [.slice A1 n c1, .int .i64 0, .int .i64 0] by rw [← HLN.out]; rfl]; exact hown) (HV.out.symm ▸ hg) (by show RopSl _ A1 l.length c1 l; rw [HLN.out]; exact HOS.out.only (F := fun _ => False) (by repeat (first | exact Only.refl _ _ | refine Only.drewN ?_ _ | refine Only.drew ?_ | refine Only.alloc ?_ _)) (fun _ _ _ x => x)) rfl ⟨by show l.length ≤ 1000; rw [HLN.out]; exact HN1.out, show In32 0 from ⟨by decide, by decide⟩, fun o ho => List.all_eq_true.1 HALL.out o ho⟩
              have HP := Lib.hid (RPost.of hm5 ho5 rfl rfl)
              clear hown hg hm5 ho5 hp4
              refine hKK.out _ _ ?_ (fun hHeld2 => ?_)
              · try dsimp only
                try trivial
              clear hKK KK hHeld
              rename _ => hHeld
              try simp only [Act.put, List.setIfInBounds_toArray, List.set_cons_zero, List.set_cons_succ]
              refine wpAnyH_take (i := 11) (v := ?_) (at_list rfl) (by kernel_rfl) (by kernel_rfl) (by kernel_rfl) (fun _ _ _ h => h) (Or.inl ⟨by rfl, ?_⟩) (by assumption) ?_
              rotate_left
              · intro w hSw
                try dsimp only at hSw
                go_simp
                try with_reducible rfl
              simp only [Act.put, List.setIfInBounds_toArray, List.set_cons_zero, List.set_cons_succ]
              refine wpAnyH_take (i := 12) (v := ?_) (at_list rfl) (by kernel_rfl) (by kernel_rfl) (by kernel_rfl) (fun _ _ _ h => h) (Or.inl ⟨by rfl, ?_⟩) (by assumption) ?_
              rotate_left
              · intro w hSw
                try dsimp only at hSw
                go_simp
                try with_reducible rfl
              simp only [Act.put, List.setIfInBounds_toArray, List.set_cons_zero, List.set_cons_succ]
              refine wpAnyH_ready (rs := [13]) (by kernel_rfl) (by simp) ?_
              refine AllReadyH.cons (at_list rfl) (fun KK hKK => ?_) AllReadyH.nil
              go_simp
              refine hKK.out _ _ ?_ (fun hHeld2 => ?_)
              · try dsimp only
                try trivial
              clear hKK KK hHeld
              rename _ => hHeld
              try simp only [Act.put, List.setIfInBounds_toArray, List.set_cons_zero, List.set_cons_succ]
              refine wpAnyH_done (by kernel_rfl) ?_ _
              refine NoPanic.normal ?_
              go_wp2_with fail
              go_ret2
              exact ⟨ret_start HSF.out (by have := HTT.out; have := HTL.out; omega), by rw [HSF.out]; exact HP.out⟩
            · skip
              refine step_append_own _ rfl (.tmp 102) (.tmp 103) 62 rfl 0 78 io (.agg #[.int .i64 0, .int .i64 0, .int .i64 0]) 3 24 Try.underlying62 ho0 ho1 ho2 ho3 rfl (by decide) (.slice (some ⟨w2.heap.size, 0, none⟩) 0 0) 0 [] (by rfl) (own_empty (by repeat (first | exact blk_new' _ _ (by first | rfl | simp) | refine blk_drewN ?_ | refine blk_drew ?_ | refine blk_alloc ?_ _)) (Nat.zero_le _)) ad n c (opsF l) (by rfl) (by rw [opsF_len, HLN.out]) ((HR.out.only (F := fun _ => False) (Only.trans Q2.out (by repeat (first | exact Only.refl _ _ | refine Only.drewN ?_ _ | refine Only.drew ?_ | refine Only.alloc ?_ _))) (fun _ _ _ x => x)).news) (opsF_one l) (by unfold maxLen; omega) (by omega) (Nat.zero_le _) ?_
              intro v1 w3 hown1 hg1
              rw [Nat.zero_add, List.nil_append] at hown1
              obtain ⟨A1, c1, hv1, hos⟩ := own_ropsl hown1 HLN.out
              subst hv1
              have Q23 := Lib.hid (show Quiet w2 w3 from grown_fresh (by repeat (first | exact Only.refl _ _ | refine Only.drewN ?_ _ | refine Only.drew ?_ | refine Only.alloc ?_ _)) hg1 (Nat.le_refl _))
              have QW3 := Lib.hid (Q2.out.trans Q23.out)
              have HOS := Lib.hid hos
              have p5 := (H.out.quiet QW3.out).head.2.2.2.2.1
              rw [HV.out] at p5
              have l2 := (H.out.quiet QW3.out).head.2.2.2.2.2
              clear hown1 hg1 hos
              refine hKK.out _ _ ?_ (fun hHeld2 => ?_)
              · try dsimp only
                try trivial
              clear hKK KK hHeld
              rename _ => hHeld
              try simp only [Act.put, List.setIfInBounds_toArray, List.set_cons_zero, List.set_cons_succ]
              refine wpAnyH_take (i := 8) (v := ?_) (at_list rfl) (by kernel_rfl) (by kernel_rfl) (by kernel_rfl) (fun _ _ _ h => h) (Or.inl ⟨by rfl, ?_⟩) (by assumption) ?_
              rotate_left
              · intro w hSw
                try dsimp only at hSw
                go_simp
                try with_reducible rfl
              simp only [Act.put, List.setIfInBounds_toArray, List.set_cons_zero, List.set_cons_succ]
              refine wpAnyH_ready (rs := [4, 9]) (by kernel_rfl) (by simp) ?_
              refine AllReadyH.cons (at_list rfl) (fun KK hKK => ?_) (AllReadyH.cons (at_list rfl) (fun KK hKK => ?_) AllReadyH.nil)
              · skip
                go_simp
                refine hKK.out _ _ ?_ (fun hHeld2 => ?_)
                · try dsimp only
                  try trivial
                clear hKK KK hHeld
                rename _ => hHeld
                try simp only [Act.put, List.setIfInBounds_toArray, List.set_cons_zero, List.set_cons_succ]
                refine wpAnyH_ready (rs := [9]) (by kernel_rfl) (by simp) ?_
                refine AllReadyH.cons (at_list rfl) (fun KK hKK => ?_) AllReadyH.nil
                go_simp
                refine hKK.out _ _ ?_ (fun hHeld2 => ?_)
                · try dsimp only
                  try trivial
                clear hKK KK hHeld
                rename _ => hHeld
                try simp only [Act.put, List.setIfInBounds_toArray, List.set_cons_zero, List.set_cons_succ]
                refine wpAnyH_ready (rs := [10]) (by kernel_rfl) (by simp) ?_
                refine AllReadyH.cons (at_list rfl) (fun KK hKK => ?_) AllReadyH.nil
                refine step_append_own _ rfl (.tmp 101) (.tmp 106) 65 rfl M.base 69 it (.agg #[.slice none 0 0, .int .i64 0, .int .i64 0]) 3 40 Try.underlying65 ht0 ht1 ht2 ht3 rfl (by decide) _ t (rtf M.ts) (by rfl) (HT.out _ (Only.trans QW3.out (by repeat (first | exact Only.refl _ _ | refine Only.drewN ?_ _ | refine Only.drew ?_ | refine Only.alloc ?_ _)))) ⟨w3.heap.size, 0, none⟩ 1 1 [.slice A1 n c1, .int .i64 0, .int .i64 0] (by rfl) rfl (news_blk3 (by repeat (first | exact blk_new' _ _ (by first | rfl | simp) | refine blk_drewN ?_ | refine blk_drew ?_ | refine blk_alloc ?_ _))) (three_one rfl rfl rfl) (by unfold maxLen; omega) (by omega) (by first | (have := QW3.out.size; simp; omega) | omega) ?_
                intro v' w4 hown hg
                obtain ⟨A2, c2, hv'⟩ := row_shapeR hown
                subst hv'
                have hp4 := head_of (H.out.quiet (Only.trans QW3.out (by repeat (first | exact Only.refl _ _ | refine Only.drewN ?_ _ | refine Only.drew ?_ | refine Only.alloc ?_ _)))) (HV.out.symm ▸ hg)
                have p4 : w4.cell? ⟨M.p, 4, none⟩ = some (.slice A' t cap) := by rw [← HV.out]; exact blk_cell hp4 4
                have f4 : w4.frozen? ⟨M.p, 4, none⟩ = false := blk_frozen hp4 4
                have l4 : M.p < w4.heap.size := lt_of_heap hp4
                obtain ⟨hm5, ho5⟩ := H.out.addTask (t := ⟨A1, c1, l, 0, 0⟩) (Only.trans QW3.out (by repeat (first | exact Only.refl _ _ | refine Only.drewN ?_ _ | refine Only.drew ?_ | refine Only.alloc ?_ _))) HLT.out (by rw [rtf_app, ← HTT.out, show rtf [(⟨A1, c1, l, 0, 0⟩ : RTask)] = [.slice A1 n c1, .int .i64 0, .int .i64 0] by rw [← HLN.out]; rfl]; exact hown) (HV.out.symm ▸ hg) (by show RopSl _ A1 l.length c1 l; rw [HLN.out]; exact HOS.out.only (F := fun _ => False) (by repeat (first | exact Only.refl _ _ | refine Only.drewN ?_ _ | refine Only.drew ?_ | refine Only.alloc ?_ _)) (fun _ _ _ x => x)) rfl ⟨by show l.length ≤ 1000; rw [HLN.out]; exact HN1.out, show In32 0 from ⟨by decide, by decide⟩, fun o ho => List.all_eq_true.1 HALL.out o ho⟩
                have HP := Lib.hid (RPost.of hm5 ho5 rfl rfl)
                clear hown hg hm5 ho5 hp4
                refine hKK.out _ _ ?_ (fun hHeld2 => ?_)
                · try dsimp only
                  try trivial
                clear hKK KK hHeld
                rename _ => hHeld
                try simp only [Act.put, List.setIfInBounds_toArray, List.set_cons_zero, List.set_cons_succ]
                refine wpAnyH_take (i := 11) (v := ?_) (at_list rfl) (by kernel_rfl) (by kernel_rfl) (by kernel_rfl) (fun _ _ _ h => h) (Or.inl ⟨by rfl, ?_⟩) (by assumption) ?_
                rotate_left
                · intro w hSw
                  try dsimp only at hSw
                  go_simp
                  try with_reducible rfl
                simp only [Act.put, List.setIfInBounds_toArray, List.set_cons_zero, List.set_cons_succ]
                refine wpAnyH_take (i := 12) (v := ?_) (at_list rfl) (by kernel_rfl) (by kernel_rfl) (by kernel_rfl) (fun _ _ _ h => h) (Or.inl ⟨by rfl, ?_⟩) (by assumption) ?_
                rotate_left
                · intro w hSw
                  try dsimp only at hSw
                  go_simp
                  try with_reducible rfl
                simp only [Act.put, List.setIfInBounds_toArray, List.set_cons_zero, List.set_cons_succ]
                refine wpAnyH_ready (rs := [13]) (by kernel_rfl) (by simp) ?_
                refine AllReadyH.cons (at_list rfl) (fun KK hKK => ?_) AllReadyH.nil
                go_simp
                refine hKK.out _ _ ?_ (fun hHeld2 => ?_)
                · try dsimp only
                  try trivial
                clear hKK KK hHeld
                rename _ => hHeld
                try simp only [Act.put, List.setIfInBounds_toArray, List.set_cons_zero, List.set_cons_succ]
                refine wpAnyH_done (by kernel_rfl) ?_ _
                refine NoPanic.normal ?_
                go_wp2_with fail
                go_ret2
                exact ⟨ret_start HSF.out (by have := HTT.out; have := HTL.out; omega), by rw [HSF.out]; exact HP.out⟩
              · skip
                go_simp
                refine hKK.out _ _ ?_ (fun hHeld2 => ?_)
                · try dsimp only
                  try trivial
                clear hKK KK hHeld
                rename _ => hHeld
                try simp only [Act.put, List.setIfInBounds_toArray, List.set_cons_zero, List.set_cons_succ]
                refine wpAnyH_ready (rs := [4]) (by kernel_rfl) (by simp) ?_
                refine AllReadyH.cons (at_list rfl) (fun KK hKK => ?_) AllReadyH.nil
                go_simp
                refine hKK.out _ _ ?_ (fun hHeld2 => ?_)
                · try dsimp only
                  try trivial
                clear hKK KK hHeld
                rename _ => hHeld
                try simp only [Act.put, List.setIfInBounds_toArray, List.set_cons_zero, List.set_cons_succ]
                refine wpAnyH_ready (rs := [10]) (by kernel_rfl) (by simp) ?_
                refine AllReadyH.cons (at_list rfl) (fun KK hKK => ?_) AllReadyH.nil
                refine step_append_own _ rfl (.tmp 101) (.tmp 106) 65 rfl M.base 69 it (.agg #[.slice none 0 0, .int .i64 0, .int .i64 0]) 3 40 Try.underlying65 ht0 ht1 ht2 ht3 rfl (by decide) _ t (rtf M.ts) (by rfl) (HT.out _ (Only.trans QW3.out (by repeat (first | exact Only.refl _ _ | refine Only.drewN ?_ _ | refine Only.drew ?_ | refine Only.alloc ?_ _)))) ⟨w3.heap.size, 0, none⟩ 1 1 [.slice A1 n c1, .int .i64 0, .int .i64 0] (by rfl) rfl (news_blk3 (by repeat (first | exact blk_new' _ _ (by first | rfl | simp) | refine blk_drewN ?_ | refine blk_drew ?_ | refine blk_alloc ?_ _))) (three_one rfl rfl rfl) (by unfold maxLen; omega) (by omega) (by first | (have := QW3.out.size; simp; omega) | omega) ?_
                intro v' w4 hown hg
                obtain ⟨A2, c2, hv'⟩ := row_shapeR hown
                subst hv'
                have hp4 := head_of (H.out.quiet (Only.trans QW3.out (by repeat (first | exact Only.refl _ _ | refine Only.drewN ?_ _ | refine Only.drew ?_ | refine Only.alloc ?_ _)))) (HV.out.symm ▸ hg)
                have p4 : w4.cell? ⟨M.p, 4, none⟩ = some (.slice A' t cap) := by rw [← HV.out]; exact blk_cell hp4 4
                have f4 : w4.frozen? ⟨M.p, 4, none⟩ = false := blk_frozen hp4 4
                have l4 : M.p < w4.heap.size := lt_of_heap hp4
                obtain ⟨hm5, ho5⟩ := H.out.addTask (t := ⟨A1, c1, l, 0, 0⟩) (Only.trans QW3.out (by repeat (first | exact Only.refl _ _ | refine Only.drewN ?_ _ | refine Only.drew ?_ | refine Only.alloc ?_ _))) HLT.out (by rw [rtf_app, ← HTT.out, show rtf [(⟨A1, c1, l, 0, 0⟩ : RTask)] = [.slice A1 n c1, .int .i64 0, .int .i64 0] by rw [← HLN.out]; rfl]; exact hown) (HV.out.symm ▸ hg) (by show RopSl _ A1 l.length c1 l; rw [HLN.out]; exact HOS.out.only (F := fun _ => False) (by repeat (first | exact Only.refl _ _ | refine Only.drewN ?_ _ | refine Only.drew ?_ | refine Only.alloc ?_ _)) (fun _ _ _ x => x)) rfl ⟨by show l.length ≤ 1000; rw [HLN.out]; exact HN1.out, show In32 0 from ⟨by decide, by decide⟩, fun o ho => List.all_eq_true.1 HALL.out o ho⟩
                have HP := Lib.hid (RPost.of hm5 ho5 rfl rfl)
                clear hown hg hm5 ho5 hp4
                refine hKK.out _ _ ?_ (fun hHeld2 => ?_)
                · try dsimp only
                  try trivial
                clear hKK KK hHeld
                rename _ => hHeld
                try simp only [Act.put, List.setIfInBounds_toArray, List.set_cons_zero, List.set_cons_succ]
                refine wpAnyH_take (i := 11) (v := ?_) (at_list rfl) (by kernel_rfl) (by kernel_rfl) (by kernel_rfl) (fun _ _ _ h => h) (Or.inl ⟨by rfl, ?_⟩) (by assumption) ?_
                rotate_left
                · intro w hSw
                  try dsimp only at hSw
                  go_simp
                  try with_reducible rfl
                simp only [Act.put, List.setIfInBounds_toArray, List.set_cons_zero, List.set_cons_succ]
                refine wpAnyH_take (i := 12) (v := ?_) (at_list rfl) (by kernel_rfl) (by kernel_rfl) (by kernel_rfl) (fun _ _ _ h => h) (Or.inl ⟨by rfl, ?_⟩) (by assumption) ?_
                rotate_left
                · intro w hSw
                  try dsimp only at hSw
                  go_simp
                  try with_reducible rfl
                simp only [Act.put, List.setIfInBounds_toArray, List.set_cons_zero, List.set_cons_succ]
                refine wpAnyH_ready (rs := [13]) (by kernel_rfl) (by simp) ?_
                refine AllReadyH.cons (at_list rfl) (fun KK hKK => ?_) AllReadyH.nil
                go_simp
                refine hKK.out _ _ ?_ (fun hHeld2 => ?_)
                · try dsimp only
                  try trivial
                clear hKK KK hHeld
                rename _ => hHeld
                try simp only [Act.put, List.setIfInBounds_toArray, List.set_cons_zero, List.set_cons_succ]
                refine wpAnyH_done (by kernel_rfl) ?_ _
                refine NoPanic.normal ?_
                go_wp2_with fail
                go_ret2
                exact ⟨ret_start HSF.out (by have := HTT.out; have := HTL.out; omega), by rw [HSF.out]; exact HP.out⟩
theorem rstart {w : World} {base p : Nat} {W : Wd} (h : RRel base p W w) {A : Option Addr} {n c : Nat} {l : List Op3} (hr : RopSl w A n c l) (hn : n ≤ 1001) :
    Calls Try.prog 19 #[.pointer (some ⟨p, 0, none⟩), .slice A n c] w fun e w' => e = .returned (.tuple #[.int .i64 (startF W l).1, .int .i64 (startF W l).2.1]) ∧ RPost base p w (startF W l).2.2 w' := by
  obtain ⟨M, h1, rfl, rfl⟩ := h
  by_cases h64 : M.ts.length = 64
  · have e : startF W l = (0, 14, W) := by unfold startF; rw [if_pos (by rw [h1.len.1]; exact h64)]
    rw [e]
    refine (rstart_full h1 A n c h64).mono ?_
    rintro e w' ⟨rfl, hq⟩
    exact ⟨rfl, RPost.of (h1.quiet hq) (RSide.quiet hq) rfl rfl⟩
  · exact rstart_at h1 hr hn h64
end Go.Proofs.Ytgdjbmfpbihopaa
